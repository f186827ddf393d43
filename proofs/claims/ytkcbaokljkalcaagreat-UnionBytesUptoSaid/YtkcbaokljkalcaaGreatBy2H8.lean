import Derived.Test.YtkcbaokljkalcaaGreatBy2H2
set_option linter.unusedVariables false
set_option linter.unusedSimpArgs false
set_option linter.defProp false
namespace Go.AX
open Go.Proofs Go.RowKit
set_option maxRecDepth 100000
set_option linter.unusedSimpArgs false
set_option linter.unusedVariables false
abbrev Stp:=Nat→List Nat→Option Nat
def z8 (s:Stp):Nat→List (List Nat)→Option Nat
 | i,[]=>some i
 | i,nm::l=>match s i nm with
  | none=>none
  | some j=>z8 s j l
theorem Xa {s:Stp}:∀ {p q:List (List Nat)} {i:Nat},z8 s i (p++q)=(match z8 s i p with|none=>none|some k=>z8 s k q)
 | [],q,i=>rfl
 | nm::p,q,i=>by
  simp only[List.cons_append,z8]
  cases s i nm with
  | none=>rfl
  | some j=>exact Xa
theorem qj1 {s:Stp} {p:List (List Nat)} {nm:List Nat} {i j:Nat}:z8 s i (p++[nm])=some j↔∃ u,z8 s i p=some u∧s u nm=some j:=by
 rw[Xa]
 cases h:z8 s i p with
 | none=>simp
 | some u =>
  simp only[z8,Option.some.injEq,exists_eq_left']
  cases s u nm <;> simp
theorem lookP_two {s:Stp} {p q:List (List Nat)} {i k:Nat}:z8 s i (p++q)=some k↔∃ u,z8 s i p=some u∧z8 s u q=some k:=by
 rw[Xa]
 cases h:z8 s i p <;> simp
theorem JM {s s':Stp} (h:∀ i x,s' i x=s i x):∀ {p:List (List Nat)} {i:Nat},z8 s' i p=z8 s i p
 | [],_=>rfl
 | nm::p,i=>by
  simp only[z8,h]
  cases s i nm with
  | none=>rfl
  | some j=>exact JM h
theorem KL {s s':Stp} {v:Nat} {nm:List Nat} (h:∀ i x,¬ (i=v∧x=nm)→s' i x=s i x):∀ {p:List (List Nat)} {i:Nat},(∀ q,z8 s i q≠some v)→z8 s' i p=z8 s i p
 | [],_,_=>rfl
 | x::p,i,hv=>by
  have hi:i≠v:=fun e=>hv [] (by rw[e];rfl)
  simp only[z8,h i x (fun e=>hi e.1)]
  cases hs:s i x with
  | none=>rfl
  | some j =>
   refine KL h (fun q hq=>hv (x::q) ?_)
   simp only[z8,hs]
   exact hq
theorem qtq {s s':Stp} {u:Nat} {nm:List Nat} (h1:s' u nm=none) (h2:∀ i x,¬ (i=u∧x=nm)→s' i x=s i x):∀ {p:List (List Nat)} {i k:Nat},z8 s' i p=some k↔z8 s i p=some k∧∀ q l,p=q++nm::l→z8 s i q≠some u
 | [],i,k=>by
  simp only[z8]
  constructor
  ·exact fun h=>⟨h,fun q l e=>by simp at e⟩
  ·exact fun h=>h.1
 | x::p,i,k=>by
  by_cases he:i=u∧x=nm
  ·obtain⟨rfl,rfl⟩:=he
   simp only[z8,h1]
   constructor
   ·intro h;cases h
   ·rintro⟨_,h⟩;exact absurd rfl (h [] p rfl)
  ·simp only[z8,h2 i x he]
   cases hs:s i x with
   | none=>simp
   | some j =>
    simp only
    rw[qtq h1 h2 (p:=p) (i:=j)]
    refine and_congr_right fun _=>⟨fun h q l e=>?_,fun h q l e=>?_⟩
    ·cases q with
     | nil =>
      simp only[List.nil_append,List.cons.injEq] at e
      intro hq
      exact he ⟨by simpa [z8] using hq,e.1⟩
     | cons y q =>
      simp only[List.cons_append,List.cons.injEq] at e
      obtain⟨rfl,e⟩:=e
      simp only[z8,hs]
      exact h q l e
    ·have:=h (x::q) l (by rw[e];rfl)
     simpa only[z8,hs] using this
theorem qt9 {s s':Stp} {v j:Nat} {nm:List Nat} (h0:s v nm=none) (h1:s' v nm=some j) (h2:∀ i x,¬ (i=v∧x=nm)→s' i x=s i x) (hj:∀ l,z8 s j l≠some v):∀ {p:List (List Nat)} {i k:Nat},z8 s' i p=some k↔z8 s i p=some k∨∃ q l,p=q++nm::l∧z8 s i q=some v∧z8 s j l=some k
 | [],i,k=>by simp[z8]
 | x::p,i,k=>by
  by_cases he:i=v∧x=nm
  ·obtain⟨rfl,rfl⟩:=he
   simp only[z8,h1,h0]
   rw[KL h2 hj]
   constructor
   ·exact fun h=>Or.inr ⟨[],p,rfl,rfl,h⟩
   ·rintro (h|⟨q,l,e,hq,hl⟩)
    ·cases h
    ·cases q with
     | nil =>
      simp only[List.nil_append,List.cons.injEq,true_and] at e
      rw[e];exact hl
     | cons y q =>
      simp only[List.cons_append,List.cons.injEq] at e
      obtain⟨rfl,e⟩:=e
      simp only[z8,h0] at hq
      cases hq
  ·simp only[z8,h2 i x he]
   cases hs:s i x with
   | none =>
    simp only[false_or]
    constructor
    ·intro h;cases h
    ·rintro ((h:(none:Option Nat)=some k)|⟨q,l,e,hq,hl⟩)
     ·cases h
     ·cases q with
      | nil =>
       simp only[List.nil_append,List.cons.injEq] at e
       exact absurd ⟨by simpa [z8] using hq,e.1⟩ he
      | cons y q =>
       simp only[List.cons_append,List.cons.injEq] at e
       obtain⟨rfl,e⟩:=e
       simp only[z8,hs] at hq
       cases hq
   | some z =>
    simp only
    rw[qt9 h0 h1 h2 hj (p:=p) (i:=z)]
    refine or_congr_right ⟨?_,?_⟩
    ·rintro⟨q,l,e,hq,hl⟩
     exact⟨x::q,l,by rw[e];rfl,by simp only[z8,hs];exact hq,hl⟩
    ·rintro⟨q,l,e,hq,hl⟩
     cases q with
     | nil =>
      simp only[List.nil_append,List.cons.injEq] at e
      exact absurd ⟨by simpa [z8] using hq,e.1⟩ he
     | cons y q =>
      simp only[List.cons_append,List.cons.injEq] at e
      obtain⟨rfl,e⟩:=e
      simp only[z8,hs] at hq
      exact⟨q,l,e,hq,hl⟩
def Z9 (T:QH):Stp:=fun i nm=>match T i with
 | none=>none
 | some nd=>qM nm nd.kids
theorem qkx {T:QH} {i j:Nat} {nm:List Nat}:Z9 T i nm=some j↔∃ nd,T i=some nd∧qM nm nd.kids=some j:=by
 unfold Z9
 cases T i <;> simp
theorem Ql {T:QH} {i:Nat} {nd:Nd} (h:T i=some nd) {nm:List Nat}:Z9 T i nm=qM nm nd.kids:=by
 unfold Z9
 rw[h]
def Md.at (M:Md) (p:List (List Nat)):Option Nat:=z8 (Z9 M.T) M.root p
structure Wf (M:Md) (n:Nat):Prop where
 root:∃ rd,M.T M.root=some rd∧rd.kind=1∧rd.up=none
 kid:∀ p u ud nm j,M.at p=some u→M.T u=some ud→qM nm ud.kids=some j→ud.kind=1∧Good nm∧∃ jd,M.T j=some jd∧jd.up=some u∧jd.name=nm
 nodup:∀ k nd,M.T k=some nd→(keys nd.kids).Nodup
 kids:∀ k nd,M.T k=some nd→nd.kids≠[]→∃ p,M.at p=some k
 bound:∀ p k,M.at p=some k→p.length≤8∧(qo [47] p).length≤140
 cwd:∃ p cd,M.at p=some M.cwd∧M.T M.cwd=some cd∧cd.kind=1
 rest:∀ k nd,M.T k=some nd→ZW ([],nd.kind,nd.mode,nd.data)=true
 fds:∀ k,some k∈M.fds→∃ nd,M.T k=some nd∧nd.kind=2
 f8:M.fds.length=8
 count:∃ R:List (List (List Nat)),R.Nodup∧(∀ p,p∈R↔p≠[]∧∃ k,M.at p=some k)∧R.length=n∧n≤128
theorem Jg {α:Type} {l:List α} (h:l≠[]):∃ r a,l=r++[a]:=⟨l.dropLast,l.getLast h,(List.dropLast_concat_getLast h).symm⟩
theorem at_snoc {M:Md} {p:List (List Nat)} {nm:List Nat} {j:Nat}:M.at (p++[nm])=some j↔∃ u ud,M.at p=some u∧M.T u=some ud∧qM nm ud.kids=some j:=by
 unfold Md.at
 rw[qj1]
 simp only[qkx]
 constructor
 ·rintro⟨u,h,ud,h1,h2⟩;exact⟨u,ud,h,h1,h2⟩
 ·rintro⟨u,ud,h,h1,h2⟩;exact⟨u,h,ud,h1,h2⟩
theorem QE {α:Type} [DecidableEq α]:∀ {l r:List α},l.Nodup→(∀ a∈l,a∈r)→l.length≤r.length
 | [],_,_,_=>Nat.zero_le _
 | a::l,r,hn,h=>by
  rw[List.nodup_cons] at hn
  have ha:=h a (by simp)
  have:=QE (l:=l) (r:=r.erase a) hn.2 (fun b hb=>by
   have hne:b≠a:=fun e=>hn.1 (by rw[← e];exact hb)
   exact (List.mem_erase_of_ne hne).2 (h b (List.mem_cons_of_mem _ hb)))
  rw[List.length_erase_of_mem ha] at this
  have:0 < r.length:=List.length_pos_of_mem ha
  simp only[List.length_cons]
  omega
section
variable {M:Md} {cnt:Nat} (W:Wf M cnt)
include W
theorem Wf.node {p:List (List Nat)} {k:Nat} (h:M.at p=some k):∃ nd,M.T k=some nd:=by
 by_cases hp:p=[]
 ·subst hp
  obtain⟨rd,h1,_⟩:=W.root
  cases h
  exact⟨rd,h1⟩
 ·obtain⟨q,nm,rfl⟩:=Jg hp
  obtain⟨u,ud,h1,h2,h3⟩:=at_snoc.1 h
  obtain⟨_,_,jd,h4,_⟩:=W.kid _ _ _ _ _ h1 h2 h3
  exact⟨jd,h4⟩
theorem Wf.good:∀ {p:List (List Nat)} {k:Nat},M.at p=some k→∀ nm∈p,Good nm:=by
 intro p
 generalize hn:p.length=n
 induction n generalizing p with
 | zero =>
  intro k _ nm hm
  rw[List.length_eq_zero_iff.1 hn] at hm
  cases hm
 | succ n ih =>
  intro k h nm hm
  have hp:p≠[]:=fun e=>by rw[e] at hn;cases hn
  obtain⟨q,x,rfl⟩:=Jg hp
  obtain⟨u,ud,h1,h2,h3⟩:=at_snoc.1 h
  rcases List.mem_append.1 hm with hm|hm
  ·exact ih (by simpa using hn) h1 nm hm
  ·rw[List.mem_singleton] at hm
   subst hm
   exact (W.kid _ _ _ _ _ h1 h2 h3).2.1
theorem Wf.uniq:∀ {p q:List (List Nat)} {k:Nat},M.at p=some k→M.at q=some k→p=q:=by
 intro p
 obtain⟨rd,r1,r2,r3⟩:=W.root
 generalize hn:p.length=n
 induction n generalizing p with
 | zero =>
  intro q k hp hq
  have e:=List.length_eq_zero_iff.1 hn
  subst e
  by_cases e:q=[]
  ·exact e.symm
  ·obtain⟨q,x,rfl⟩:=Jg e
   obtain⟨u,ud,h1,h2,h3⟩:=at_snoc.1 hq
   obtain⟨_,_,jd,h4,h5,_⟩:=W.kid _ _ _ _ _ h1 h2 h3
   cases hp
   rw[r1] at h4
   cases h4
   rw[r3] at h5
   cases h5
 | succ n ih =>
  intro q k hp hq
  have e:p≠[]:=fun e=>by rw[e] at hn;cases hn
  obtain⟨p,x,rfl⟩:=Jg e
  obtain⟨u,ud,h1,h2,h3⟩:=at_snoc.1 hp
  obtain⟨_,_,jd,h4,h5,h6⟩:=W.kid _ _ _ _ _ h1 h2 h3
  by_cases e:q=[]
  ·subst e
   cases hq
   rw[r1] at h4
   cases h4
   rw[r3] at h5
   cases h5
  ·obtain⟨q,y,rfl⟩:=Jg e
   obtain⟨u',ud',g1,g2,g3⟩:=at_snoc.1 hq
   obtain⟨_,_,jd',g4,g5,g6⟩:=W.kid _ _ _ _ _ g1 g2 g3
   rw[h4] at g4
   cases g4
   rw[h5] at g5
   cases g5
   rw[ih (by simpa using hn) h1 g1,← h6,← g6]
theorem Wf.path {p:List (List Nat)}:∀ {k f:Nat},M.at p=some k→p.length < f→Yg M.T f k=some (qo [47] p)∧qlm M.T f k=some p.length:=by
 obtain⟨rd,r1,r2,r3⟩:=W.root
 generalize hn:p.length=n
 induction n generalizing p with
 | zero =>
  intro k f hp hf
  have e:=List.length_eq_zero_iff.1 hn
  subst e
  cases hp
  obtain⟨f,rfl⟩:∃ g,f=g+1:=⟨f - 1,by omega⟩
  simp only[Yg,qlm,r1,r3,qo]
  exact⟨trivial,trivial⟩
 | succ n ih =>
  intro k f hp hf
  have e:p≠[]:=fun e=>by rw[e] at hn;cases hn
  obtain⟨q,x,rfl⟩:=Jg e
  have hg:=W.good hp
  have hbd:=W.bound _ _ hp
  obtain⟨u,ud,h1,h2,h3⟩:=at_snoc.1 hp
  obtain⟨_,gx,jd,h4,h5,h6⟩:=W.kid _ _ _ _ _ h1 h2 h3
  obtain⟨f,rfl⟩:∃ g,f=g+1:=⟨f - 1,by omega⟩
  have hq:q.length=n:=by simpa using hn
  obtain⟨i1,i2⟩:=ih hq h1 (f:=f) (by omega)
  have hl:=Wy (l:=q) (nm:=x)
  have hx:=gx.len
  have b1:Nat.ble ((qo [47] q).length+x.length) 1000000=true:=Nat.ble_eq.mpr (by omega)
  have b2:Nat.ble n 1000000=true:=Nat.ble_eq.mpr (by simp at hbd;omega)
  simp only[Yg,qlm,h4,h5,i1,i2,h6,b1,b2,cond_true]
  rw[qae (fun p hp=>hg p (List.mem_append_left _ hp)) gx.1]
  exact⟨rfl,trivial⟩
theorem Wf.klen {k:Nat} {nd:Nd} (h:M.T k=some nd):nd.kids.length≤128:=by
 by_cases e:nd.kids=[]
 ·rw[e];simp
 ·obtain⟨p,hp⟩:=W.kids k nd h e
  obtain⟨R,r1,r2,r3,r4⟩:=W.count
  have hnd:=W.nodup k nd h
  have:((keys nd.kids).map (fun nm=>p++[nm])).length≤R.length:=by
   refine QE (List.Pairwise.map _ (fun a b hab e=>hab (by simpa using e)) hnd) ?_
   intro a ha
   obtain⟨nm,hm,rfl⟩:=List.mem_map.1 ha
   refine (r2 _).2 ⟨by simp,?_⟩
   cases hl:qM nm nd.kids with
   | none=>exact absurd hm (lookK_none.1 hl)
   | some j=>exact⟨j,at_snoc.2 ⟨k,nd,hp,h,hl⟩⟩
  simp only[keys,List.length_map] at this
  omega
theorem Wf.kgood {k:Nat} {nd:Nd} (h:M.T k=some nd):∀ nm∈keys nd.kids,Good nm:=by
 intro nm hm
 have e:nd.kids≠[]:=fun e=>by rw[e] at hm;cases hm
 obtain⟨p,hp⟩:=W.kids k nd h e
 cases hl:qM nm nd.kids with
 | none=>exact absurd hm (lookK_none.1 hl)
 | some j=>exact (W.kid _ _ _ _ _ hp h hl).2.1
theorem Wf.sort {k:Nat} {nd:Nd} (h:M.T k=some nd):qlb nd.kids=some (Qq (keys nd.kids)):=qk0 (W.nodup k nd h) (W.kgood h) (by have:=W.klen h;omega)
theorem Wf.data {k:Nat} {nd:Nd} (h:M.T k=some nd):nd.data.length≤1024:=by
 have:=W.rest k nd h
 unfold ZW at this
 simp only at this
 cases h1:nd.kind==1 with
 | true =>
  rw[h1,cond_true] at this
  cases h2:decide (nd.mode ≥ 0) with
  | false=>rw[h2] at this;cases this
  | true =>
   rw[h2,cond_true] at this
   cases h3:decide (nd.mode≤511) with
   | false=>rw[h3] at this;cases this
   | true =>
    rw[h3,cond_true] at this
    rw[eqB_eq.1 this]
    simp
 | false =>
  rw[h1,cond_false] at this
  cases h4:nd.kind==2 with
  | true =>
   rw[h4,cond_true] at this
   cases h2:decide (nd.mode ≥ 0) with
   | false=>rw[h2] at this;cases this
   | true =>
    rw[h2,cond_true] at this
    cases h3:decide (nd.mode≤511) with
    | false=>rw[h3] at this;cases this
    | true =>
     rw[h3,cond_true,decide_eq_true_eq] at this
     omega
  | false =>
   rw[h4,cond_false] at this
   cases h5:nd.kind==3 with
   | false=>rw[h5] at this;cases this
   | true =>
    rw[h5,cond_true] at this
    cases h6:nd.mode==511 with
    | false=>rw[h6] at this;cases this
    | true =>
     rw[h6,cond_true] at this
     unfold J5 at this
     simp only[Bool.and_eq_true] at this
     have:=Nat.le_of_ble_eq_true this.2.1
     omega
theorem Wf.kindOf {k:Nat} {nd:Nd} (h:M.T k=some nd):nd.kind=1∨nd.kind=2∨nd.kind=3:=by
 have:=W.rest k nd h
 unfold ZW at this
 simp only at this
 cases h1:nd.kind==1 with
 | true=>exact Or.inl (by simpa using h1)
 | false =>
  cases h4:nd.kind==2 with
  | true=>exact Or.inr (Or.inl (by simpa using h4))
  | false =>
   cases h5:nd.kind==3 with
   | true=>exact Or.inr (Or.inr (by simpa using h5))
   | false=>rw[h1,h4,h5] at this;cases this
end
end Go.AX
namespace Go.AX
open Go.Proofs Go.RowKit
set_option maxRecDepth 100000
set_option linter.unusedSimpArgs false
set_option linter.unusedVariables false
section
variable {M:Md} {cnt:Nat} (W:Wf M cnt)
include W
theorem Wf.path20 {p:List (List Nat)} {k:Nat} (h:M.at p=some k):Yg M.T 20 k=some (qo [47] p)∧qlm M.T 20 k=some p.length:=W.path h (by have:=(W.bound _ _ h).1;omega)
theorem Wf.walk {follow:Bool}:∀ {f cur hops:Nat} {names p:List (List Nat)} {cd:Nd},M.at p=some cur→M.T cur=some cd→(follow=true→cd.kind≠3)→hops≤8→names.length+9 * (8 - hops) < f→f≤1000 →
  ∃ o,JP M.T M.root follow f cur hops names=some o∧∀ k,o=.inl k→∃ q kd,M.at q=some k∧M.T k=some kd∧(follow=true→kd.kind≠3)
 | 0,_,_,_,_,_,_,_,_,_,h,_=>by omega
 | f+1,cur,hops,[],p,cd,hp,hc,hk,_,_,_=>⟨_,rfl,fun k e=>by cases e;exact⟨p,cd,hp,hc,hk⟩⟩
 | f+1,cur,hops,nm::rest,p,cd,hp,hc,hk,hh,hm,hf=>by
  simp only[JP,hc]
  cases h1:decide (cd.kind≠1) with
  | true=>exact⟨_,rfl,fun k e=>by cases e⟩
  | false =>
   simp only[cond_false]
   cases h2:qM nm cd.kids with
   | none=>exact⟨_,rfl,fun k e=>by cases e⟩
   | some kid =>
    obtain⟨_,gx,kd,k1,_⟩:=W.kid _ _ _ _ _ hp hc h2
    simp only[k1]
    have hq:M.at (p++[nm])=some kid:=at_snoc.2 ⟨cur,cd,hp,hc,h2⟩
    simp only[List.length_cons] at hm
    cases h3:(decide (kd.kind≠3)||(rest.isEmpty&&!follow)) with
    | true =>
     simp only[cond_true]
     refine Wf.walk hq k1 (fun e=>?_) hh (by omega) (by omega)
     subst e
     simpa using h3
    | false =>
     simp only[cond_false]
     cases h4:Nat.blt 7 hops with
     | true=>exact⟨_,rfl,fun k e=>by cases e⟩
     | false =>
      rw[← Bool.not_eq_true,Nat.blt_eq] at h4
      have hb:=W.bound _ _ hp
      rw[cond_false,(W.path20 hp).1]
      have b1:(Nat.ble (qo [47] p).length 1000&&(zi (qo [47] p)&&zi kd.data))=true:=by rw[Nat.ble_eq.mpr (by omega:(qo [47] p).length≤1000)];rfl
      simp only[b1,cond_true]
      cases h5:ZV (qo [47] p) kd.data with
      | inr n=>exact⟨_,rfl,fun k e=>by cases e⟩
      | inl names =>
       have hg:=Vy h5
       have b2:Nat.ble (names.length+rest.length) 50000=true:=Nat.ble_eq.mpr (by omega)
       simp only[b2,cond_true]
       obtain⟨rd,r1,r2,r3⟩:=W.root
       exact Wf.walk (p:=[]) rfl r1 (fun _=>by rw[r2];decide) (by omega) (by simp only[List.length_append];omega) (by omega)
theorem Wf.names {b:List Nat}:∃ o,YY M.T M.cwd b=some o∧∀ names,o=.inl names→(∀ nm∈names,Good nm)∧names.length≤8∧(qo [47] names).length≤140:=by
 obtain⟨p,cd,h1,h2,h3⟩:=W.cwd
 have hb:=W.bound _ _ h1
 unfold YY
 rw[(W.path20 h1).1]
 have b1:(Nat.ble (qo [47] p).length 1000&&(zi (qo [47] p)&&zi b))=true:=by rw[Nat.ble_eq.mpr (by omega:(qo [47] p).length≤1000)];rfl
 simp only[b1,cond_true]
 cases h5:ZV (qo [47] p) b with
 | inr n=>exact⟨_,rfl,fun k e=>by cases e⟩
 | inl names =>
  have hg:=Vy h5
  have b2:Nat.ble names.length 50000=true:=Nat.ble_eq.mpr (by omega)
  simp only[b2,cond_true]
  exact⟨_,rfl,fun k e=>by cases e;exact hg⟩
theorem Wf.find {b:List Nat} {follow:Bool}:∃ o,Zq M.T M.root M.cwd b follow=some o∧∀ k,o=.inl k→∃ q kd,M.at q=some k∧M.T k=some kd∧(follow=true→kd.kind≠3):=by
 obtain⟨o,h1,h2⟩:=W.names (b:=b)
 unfold Zq
 rw[h1]
 cases o with
 | inr n=>exact⟨_,rfl,fun k e=>by cases e⟩
 | inl names =>
  obtain⟨rd,r1,r2,r3⟩:=W.root
  exact W.walk (p:=[]) rfl r1 (fun _=>by rw[r2];decide) (by omega) (by have:=(h2 _ rfl).2.1;omega) (by omega)
theorem Wf.place {b:List Nat}:∃ o,qti M.T M.root M.cwd b=some o∧∀ u nm,o=.inl (u,nm)→∃ q ud,M.at q=some u∧M.T u=some ud∧ud.kind=1∧Good nm:=by
 obtain⟨o,h1,h2⟩:=W.names (b:=b)
 unfold qti
 rw[h1]
 cases o with
 | inr n=>exact⟨_,rfl,fun k nm e=>by cases e⟩
 | inl names =>
  have hg:=h2 _ rfl
  simp only
  cases h3:names[names.length - 1]? with
  | none=>exact⟨_,rfl,fun k nm e=>by cases e⟩
  | some nm =>
   obtain⟨rd,r1,r2,r3⟩:=W.root
   obtain⟨w,w1,w2⟩:=W.walk (follow:=true) (f:=200) (names:=names.take (names.length - 1)) (p:=[]) rfl r1 (fun _=>by rw[r2];decide) (Nat.zero_le 8) (by simp only[List.length_take];omega) (by omega)
   simp only[w1]
   cases w with
   | inr n=>exact⟨_,rfl,fun k nm e=>by cases e⟩
   | inl u =>
    obtain⟨q,ud,u1,u2,_⟩:=w2 u rfl
    simp only[u2]
    cases h4:decide (ud.kind≠1) with
    | true=>exact⟨_,rfl,fun k nm e=>by cases e⟩
    | false =>
     refine⟨_,rfl,fun k nm' e=>?_⟩
     cases e
     exact⟨q,ud,u1,u2,by simpa using h4,hg.1 _ (List.mem_of_getElem? h3)⟩
end
end Go.AX
namespace Go.AX
open Go.Proofs Go.RowKit
set_option maxRecDepth 100000
set_option linter.unusedSimpArgs false
set_option linter.unusedVariables false
theorem Wf.vals {M M':Md} {cnt:Nat} (W:Wf M cnt) (hr:M'.root=M.root) (h8:M'.fds.length=8)
  (hT:∀ k,(M.T k=none∧M'.T k=none)∨∃ nd nd',M.T k=some nd∧M'.T k=some nd'∧nd'.kids=nd.kids∧nd'.up=nd.up∧nd'.name=nd.name∧nd'.kind=nd.kind∧ZW ([],nd'.kind,nd'.mode,nd'.data)=true)
  (hcw:∃ p cd,M.at p=some M'.cwd∧M.T M'.cwd=some cd∧cd.kind=1) (hfd:∀ k,some k∈M'.fds→∃ nd,M.T k=some nd∧nd.kind=2):Wf M' cnt∧∀ p,M'.at p=M.at p:=by
 have hs:∀ i x,Z9 M'.T i x=Z9 M.T i x:=by
  intro i x
  unfold Z9
  rcases hT i with⟨h1,h2⟩|⟨nd,nd',h1,h2,h3,_⟩
  ·rw[h1,h2]
  ·rw[h1,h2];simp only[h3]
 have ha:∀ p,M'.at p=M.at p:=fun p=>by unfold Md.at;rw[hr];exact JM hs
 have fw:∀ k nd,M.T k=some nd→∃ nd',M'.T k=some nd'∧nd'.kids=nd.kids∧nd'.up=nd.up∧nd'.name=nd.name∧nd'.kind=nd.kind:=by
  intro k nd h
  rcases hT k with⟨h1,_⟩|⟨md,nd',h1,h2,h3,h4,h5,h6,_⟩
  ·rw[h] at h1;cases h1
  ·rw[h] at h1;cases h1;exact⟨nd',h2,h3,h4,h5,h6⟩
 have bw:∀ k nd',M'.T k=some nd'→∃ nd,M.T k=some nd∧nd'.kids=nd.kids∧nd'.up=nd.up∧nd'.name=nd.name∧nd'.kind=nd.kind∧ZW ([],nd'.kind,nd'.mode,nd'.data)=true:=by
  intro k nd' h
  rcases hT k with⟨_,h1⟩|⟨nd,md,h1,h2,h3⟩
  ·rw[h] at h1;cases h1
  ·rw[h] at h2;cases h2;exact⟨nd,h1,h3⟩
 refine⟨⟨?_,?_,?_,?_,?_,?_,?_,?_,h8,?_⟩,ha⟩
 ·obtain⟨rd,r1,r2,r3⟩:=W.root
  obtain⟨nd',h1,h2,h3,h4,h5⟩:=fw _ _ r1
  exact⟨nd',by rw[hr];exact h1,by rw[h5];exact r2,by rw[h3];exact r3⟩
 ·intro p u ud nm j h1 h2 h3
  rw[ha] at h1
  obtain⟨nd,g1,g2,g3,g4,g5,_⟩:=bw _ _ h2
  rw[g2] at h3
  obtain⟨c1,c2,jd,c3,c4,c5⟩:=W.kid _ _ _ _ _ h1 g1 h3
  obtain⟨jd',d1,d2,d3,d4,d5⟩:=fw _ _ c3
  exact⟨by rw[g5];exact c1,c2,jd',d1,by rw[d3];exact c4,by rw[d4];exact c5⟩
 ·intro k nd h
  obtain⟨md,g1,g2,_⟩:=bw _ _ h
  rw[g2]
  exact W.nodup _ _ g1
 ·intro k nd h hk
  obtain⟨md,g1,g2,_⟩:=bw _ _ h
  rw[g2] at hk
  simp only[ha]
  exact W.kids _ _ g1 hk
 ·intro p k h
  rw[ha] at h
  exact W.bound _ _ h
 ·obtain⟨p,cd,h1,h2,h3⟩:=hcw
  obtain⟨nd',g1,_,_,_,g5⟩:=fw _ _ h2
  exact⟨p,nd',by rw[ha];exact h1,g1,by rw[g5];exact h3⟩
 ·intro k nd h
  obtain⟨md,_,_,_,_,_,g6⟩:=bw _ _ h
  exact g6
 ·intro k hk
  obtain⟨nd,h1,h2⟩:=hfd k hk
  obtain⟨nd',g1,_,_,_,g5⟩:=fw _ _ h1
  exact⟨nd',g1,by rw[g5];exact h2⟩
 ·obtain⟨R,r1,r2,r3⟩:=W.count
  exact⟨R,r1,fun p=>by rw[r2];simp only[ha],r3⟩
theorem qqb {M:Md} {k i:Nat} {nd':Nd} (h:k < M.nodes.length):(M.nodes.set k nd')[i]?=if i=k then some nd' else M.T i:=by
 rw[List.getElem?_set]
 by_cases e:k=i
 ·subst e;simp[h]
 ·have:i≠k:=fun e2=>e e2.symm
  simp[e,this,Md.T]
theorem Wf.setv {M:Md} {cnt:Nat} (W:Wf M cnt) {k:Nat} {nd nd':Nd} (hk:M.T k=some nd) (e1:nd'.kids=nd.kids) (e2:nd'.up=nd.up) (e3:nd'.name=nd.name) (e4:nd'.kind=nd.kind) (e5:ZW ([],nd'.kind,nd'.mode,nd'.data)=true):Wf { M with nodes:=M.nodes.set k nd' } cnt∧∀ p,Md.at { M with nodes:=M.nodes.set k nd' } p=M.at p:=by
 refine W.vals rfl W.f8 (fun i=>?_) W.cwd W.fds
 have e:Md.T { M with nodes:=M.nodes.set k nd' } i=if i=k then some nd' else M.T i:=qqb (Y1 hk)
 rw[e]
 by_cases h:i=k
 ·subst h
  exact Or.inr ⟨nd,nd',hk,if_pos rfl,e1,e2,e3,e4,e5⟩
 ·rw[if_neg h]
  cases hi:M.T i with
  | none=>exact Or.inl ⟨rfl,rfl⟩
  | some md=>exact Or.inr ⟨md,md,rfl,rfl,rfl,rfl,rfl,rfl,W.rest _ _ hi⟩
theorem Wf.marks {M:Md} {cnt:Nat} (W:Wf M cnt) {cwd:Nat} {fds:List (Option Nat)} {many:Int} (h8:fds.length=8)
  (hcw:∃ p cd,M.at p=some cwd∧M.T cwd=some cd∧cd.kind=1) (hfd:∀ k,some k∈fds→∃ nd,M.T k=some nd∧nd.kind=2):Wf ⟨M.nodes,M.root,cwd,fds,many⟩ cnt:=by
 refine (W.vals (M':=⟨M.nodes,M.root,cwd,fds,many⟩) rfl h8 (fun i=>?_) hcw hfd).1
 cases hi:M.T i with
 | none=>exact Or.inl ⟨rfl,hi⟩
 | some md=>exact Or.inr ⟨md,md,rfl,hi,rfl,rfl,rfl,rfl,W.rest _ _ hi⟩
theorem qfo {M:Md} {k:Nat} (h:M.nodes.length≤k):M.T k=none:=by
 unfold Md.T
 exact List.getElem?_eq_none h
theorem XG {s:Stp} {i k:Nat} (h:∀ x,s i x=none):∀ {l:List (List Nat)},z8 s i l=some k↔l=[]∧k=i
 | []=>by simp[z8,eq_comm]
 | x::l=>by simp[z8,h x]
theorem Wf.add {M M':Md} {cnt:Nat} (W:Wf M cnt) {pu:List (List Nat)} {u:Nat} {ud nw:Nd} {nm:List Nat} (hp:M.at pu=some u) (hu:M.T u=some ud) (hk:ud.kind=1) (hl:qM nm ud.kids=none) (hg:Good nm)
  (hb:pu.length+1≤8∧(qo [47] (pu++[nm])).length≤140) (hn:cnt < 128) (e1:nw.kids=[]) (e2:nw.up=some u) (e3:nw.name=nm) (e4:ZW ([],nw.kind,nw.mode,nw.data)=true)
  (hM:M'.nodes=M.nodes.set u { ud with kids:=setK nm M.nodes.length ud.kids }++[nw]) (hr:M'.root=M.root) (hc:M'.cwd=M.cwd) (hf:M'.fds=M.fds) :
  Wf M' (cnt+1)∧∀ p k,M'.at p=some k↔M.at p=some k∨(p=pu++[nm]∧k=M.nodes.length):=by
 have hul:=Y1 hu
 have hT:∀ k,M'.T k=if k=M.nodes.length then some nw else if k=u then some { ud with kids:=setK nm M.nodes.length ud.kids } else M.T k:=by
  intro k
  have e:M'.T k=(M.nodes.set u { ud with kids:=setK nm M.nodes.length ud.kids }++[nw])[k]?:=by unfold Md.T;rw[hM]
  rw[e]
  by_cases h1:k=M.nodes.length
  ·subst h1;simp
  ·rw[if_neg h1]
   by_cases h2:k < M.nodes.length
   ·rw[List.getElem?_append_left (by simpa using h2),qqb hul]
   ·rw[List.getElem?_eq_none (by simp;omega),if_neg (by omega),qfo (by omega)]
 have hTn:M.T M.nodes.length=none:=qfo (Nat.le_refl _)
 have hun:u≠M.nodes.length:=by omega
 have Tu:M'.T u=some { ud with kids:=setK nm M.nodes.length ud.kids }:=by rw[hT,if_neg hun,if_pos rfl]
 have Tn:M'.T M.nodes.length=some nw:=by rw[hT,if_pos rfl]
 have To:∀ k,k≠u→k≠M.nodes.length→M'.T k=M.T k:=fun k h1 h2=>by rw[hT,if_neg h2,if_neg h1]
 have s0:Z9 M.T u nm=none:=by rw[Ql hu];exact hl
 have s1:Z9 M'.T u nm=some M.nodes.length:=by rw[Ql Tu];simp[Ye]
 have s2:∀ i x,¬ (i=u∧x=nm)→Z9 M'.T i x=Z9 M.T i x:=by
  intro i x h
  by_cases h1:i=u
  ·subst h1
   have:x≠nm:=fun e=>h ⟨rfl,e⟩
   rw[Ql Tu,Ql hu]
   simp[Ye,this]
  ·by_cases h2:i=M.nodes.length
   ·subst h2
    rw[Ql Tn,e1]
    unfold Z9
    rw[hTn]
    rfl
   ·unfold Z9
    rw[To i h1 h2]
 have sn:∀ x,Z9 M.T M.nodes.length x=none:=fun x=>by unfold Z9;rw[hTn]
 have ha:∀ p k,M'.at p=some k↔M.at p=some k∨(p=pu++[nm]∧k=M.nodes.length):=by
  intro p k
  unfold Md.at
  rw[hr,qt9 s0 s1 s2 (fun l e=>by have:=((XG sn).1 e).2;omega)]
  refine or_congr_right ⟨?_,?_⟩
  ·rintro⟨q,l,e,hq,hl⟩
   obtain⟨rfl,rfl⟩:=(XG sn).1 hl
   rw[W.uniq hp hq]
   exact⟨e,rfl⟩
  ·rintro⟨e,rfl⟩
   exact⟨pu,[],e,hp,rfl⟩
 have na:∀ k,M.at (pu++[nm])≠some k:=by
  intro k h
  obtain⟨u',ud',h1,h2,h3⟩:=at_snoc.1 h
  rw[hp] at h1
  cases h1
  rw[hu] at h2
  cases h2
  rw[hl] at h3
  cases h3
 have nz:∀ p,M.at p≠some M.nodes.length:=by
  intro p h
  obtain⟨nd,h1⟩:=W.node h
  rw[hTn] at h1
  cases h1
 refine⟨⟨?_,?_,?_,?_,?_,?_,?_,?_,?_,?_⟩,ha⟩
 ·obtain⟨rd,r1,r2,r3⟩:=W.root
  rw[hr]
  by_cases h:M.root=u
  ·rw[h,hu] at r1
   cases r1
   exact⟨{ ud with kids:=setK nm M.nodes.length ud.kids },by rw[h];exact Tu,r2,r3⟩
  ·exact⟨rd,by rw[To _ h (fun e=>by rw[e,hTn] at r1;cases r1)];exact r1,r2,r3⟩
 ·intro p v vd x j h1 h2 h3
  have old:∀ v vd,M.at p=some v→M.T v=some vd→qM x vd.kids=some j→vd.kind=1∧Good x∧∃ jd,M'.T j=some jd∧jd.up=some v∧jd.name=x:=by
   intro v vd g1 g2 g3
   obtain⟨c1,c2,jd,c3,c4,c5⟩:=W.kid _ _ _ _ _ g1 g2 g3
   refine⟨c1,c2,?_⟩
   have hj:j≠M.nodes.length:=fun e=>by rw[e,hTn] at c3;cases c3
   by_cases h:j=u
   ·subst h
    rw[hu] at c3
    cases c3
    exact⟨_,Tu,c4,c5⟩
   ·exact⟨jd,by rw[To _ h hj];exact c3,c4,c5⟩
  rcases (ha p v).1 h1 with g1|⟨rfl,rfl⟩
  ·by_cases hv:v=u
   ·subst hv
    rw[Tu] at h2
    cases h2
    rw[Ye] at h3
    by_cases hx:x=nm
    ·rw[if_pos hx] at h3
     cases h3
     subst hx
     exact⟨hk,hg,nw,Tn,e2,e3⟩
    ·rw[if_neg hx] at h3
     have:=old v ud g1 hu h3
     exact this
   ·have hv2:v≠M.nodes.length:=fun e=>nz p (by rw[← e];exact g1)
    rw[To _ hv hv2] at h2
    exact old _ _ g1 h2 h3
  ·rw[Tn] at h2
   cases h2
   rw[e1] at h3
   cases h3
 ·intro k nd h
  by_cases h1:k=u
  ·subst h1
   rw[Tu] at h
   cases h
   exact qsb (W.nodup _ _ hu) hl
  ·by_cases h2:k=M.nodes.length
   ·subst h2
    rw[Tn] at h
    cases h
    rw[e1]
    exact List.nodup_nil
   ·rw[To _ h1 h2] at h
    exact W.nodup _ _ h
 ·intro k nd h hks
  by_cases h1:k=u
  ·subst h1
   exact⟨pu,(ha _ _).2 (Or.inl hp)⟩
  ·by_cases h2:k=M.nodes.length
   ·subst h2
    rw[Tn] at h
    cases h
    exact absurd e1 hks
   ·rw[To _ h1 h2] at h
    obtain⟨p,hp⟩:=W.kids _ _ h hks
    exact⟨p,(ha _ _).2 (Or.inl hp)⟩
 ·intro p k h
  rcases (ha p k).1 h with h|⟨rfl,rfl⟩
  ·exact W.bound _ _ h
  ·exact⟨by simpa using hb.1,hb.2⟩
 ·obtain⟨p,cd,h1,h2,h3⟩:=W.cwd
  rw[hc]
  by_cases h:M.cwd=u
  ·rw[h] at h1 h2 ⊢
   rw[hu] at h2
   cases h2
   exact⟨p,_,(ha _ _).2 (Or.inl h1),Tu,h3⟩
  ·exact⟨p,cd,(ha _ _).2 (Or.inl h1),by rw[To _ h (fun e=>nz p (by rw[← e];exact h1))];exact h2,h3⟩
 ·intro k nd h
  by_cases h1:k=u
  ·subst h1
   rw[Tu] at h
   cases h
   have:=W.rest _ _ hu
   exact this
  ·by_cases h2:k=M.nodes.length
   ·subst h2
    rw[Tn] at h
    cases h
    exact e4
   ·rw[To _ h1 h2] at h
    exact W.rest _ _ h
 ·intro k h
  rw[hf] at h
  obtain⟨nd,h1,h2⟩:=W.fds k h
  by_cases h3:k=u
  ·subst h3
   rw[hu] at h1
   cases h1
   rw[hk] at h2
   cases h2
  ·exact⟨nd,by rw[To _ h3 (fun e=>by rw[e,hTn] at h1;cases h1)];exact h1,h2⟩
 ·rw[hf];exact W.f8
 ·obtain⟨R,r1,r2,r3,r4⟩:=W.count
  refine⟨(pu++[nm])::R,?_,?_,by simp[r3],by omega⟩
  ·rw[List.nodup_cons]
   refine⟨fun e=>?_,r1⟩
   obtain⟨_,k,hk⟩:=(r2 _).1 e
   exact na k hk
  ·intro p
   rw[List.mem_cons,r2]
   constructor
   ·rintro (rfl|⟨h1,k,h2⟩)
    ·exact⟨by simp,_,(ha _ _).2 (Or.inr ⟨rfl,rfl⟩)⟩
    ·exact⟨h1,k,(ha _ _).2 (Or.inl h2)⟩
   ·rintro⟨h1,k,h2⟩
    rcases (ha _ _).1 h2 with h2|⟨rfl,_⟩
    ·exact Or.inr ⟨h1,k,h2⟩
    ·exact Or.inl rfl
theorem Wf.del {M M':Md} {cnt:Nat} (W:Wf M cnt) {pu:List (List Nat)} {u j:Nat} {ud jd:Nd} {nm:List Nat} (hp:M.at pu=some u) (hu:M.T u=some ud) (hl:qM nm ud.kids=some j) (hj:M.T j=some jd) (hjk:jd.kids=[]) (hjc:j≠M.cwd)
  (hM:M'.nodes=M.nodes.set u { ud with kids:=JB nm ud.kids }) (hr:M'.root=M.root) (hc:M'.cwd=M.cwd) (hf:M'.fds=M.fds) :
  1≤cnt∧Wf M' (cnt - 1):=by
 have hT:∀ k,M'.T k=if k=u then some { ud with kids:=JB nm ud.kids } else M.T k:=fun k=>by
  have:M'.T k=(M.nodes.set u { ud with kids:=JB nm ud.kids })[k]?:=by unfold Md.T;rw[hM]
  rw[this,qqb (Y1 hu)]
 have Tu:M'.T u=some { ud with kids:=JB nm ud.kids }:=by rw[hT,if_pos rfl]
 have To:∀ k,k≠u→M'.T k=M.T k:=fun k h=>by rw[hT,if_neg h]
 have hpj:M.at (pu++[nm])=some j:=at_snoc.2 ⟨u,ud,hp,hu,hl⟩
 have s1:Z9 M'.T u nm=none:=by rw[Ql Tu];simp[YD (W.nodup _ _ hu)]
 have s2:∀ i x,¬ (i=u∧x=nm)→Z9 M'.T i x=Z9 M.T i x:=by
  intro i x h
  by_cases h1:i=u
  ·subst h1
   have:x≠nm:=fun e=>h ⟨rfl,e⟩
   rw[Ql Tu,Ql hu]
   simp[YD (W.nodup _ _ hu),this]
  ·unfold Z9
   rw[To i h1]
 have ha:∀ p k,M'.at p=some k↔M.at p=some k∧p≠pu++[nm]:=by
  intro p k
  unfold Md.at
  rw[hr,qtq s1 s2]
  refine and_congr_right fun hk=>⟨fun h e=>h pu [] e hp,fun h q l e hq=>?_⟩
  have hq:M.at q=some u:=hq
  have:=W.uniq hp hq
  subst this
  cases l with
  | nil=>exact h e
  | cons x l =>
   subst e
   have e:pu++nm::x::l=(pu++[nm])++x::l:=by simp
   rw[e] at hk
   obtain⟨w,w1,w2⟩:=lookP_two.1 hk
   have w1:M.at (pu++[nm])=some w:=w1
   rw[hpj] at w1
   cases w1
   simp only[z8,Ql hj,hjk,qM] at w2
   cases w2
 have fw:∀ k nd,M.T k=some nd→∃ nd',M'.T k=some nd'∧nd'.up=nd.up∧nd'.name=nd.name∧nd'.kind=nd.kind:=by
  intro k nd h
  by_cases h1:k=u
  ·subst h1
   rw[hu] at h
   cases h
   exact⟨_,Tu,rfl,rfl,rfl⟩
  ·exact⟨nd,by rw[To k h1];exact h,rfl,rfl,rfl⟩
 have bw:∀ k nd',M'.T k=some nd'→∃ nd,M.T k=some nd∧(nd'.kids).Sublist nd.kids∧nd'.kind=nd.kind∧nd'.mode=nd.mode∧nd'.data=nd.data∧(∀ x i,qM x nd'.kids=some i→qM x nd.kids=some i):=by
  intro k nd' h
  by_cases h1:k=u
  ·subst h1
   rw[Tu] at h
   cases h
   refine⟨ud,hu,qeg,rfl,rfl,rfl,fun x i hx=>?_⟩
   rw[YD (W.nodup _ _ hu)] at hx
   by_cases e:x=nm
   ·rw[if_pos e] at hx;cases hx
   ·rw[if_neg e] at hx;exact hx
  ·rw[To k h1] at h
   exact⟨nd',h,List.Sublist.refl _,rfl,rfl,rfl,fun _ _ h=>h⟩
 obtain⟨R,r1,r2,r3,r4⟩:=W.count
 have hin:pu++[nm]∈R:=(r2 _).2 ⟨by simp,j,hpj⟩
 have hpos:1≤cnt:=by rw[← r3];exact List.length_pos_of_mem hin
 refine⟨hpos,?_,?_,?_,?_,?_,?_,?_,?_,?_,?_⟩
 ·obtain⟨rd,q1,q2,q3⟩:=W.root
  obtain⟨nd',h1,h2,h3,h4⟩:=fw _ _ q1
  exact⟨nd',by rw[hr];exact h1,by rw[h4];exact q2,by rw[h2];exact q3⟩
 ·intro p v vd x i h1 h2 h3
  have h1:=((ha _ _).1 h1).1
  obtain⟨nd,g1,_,g3,_,_,g6⟩:=bw _ _ h2
  obtain⟨c1,c2,id,c3,c4,c5⟩:=W.kid _ _ _ _ _ h1 g1 (g6 _ _ h3)
  obtain⟨id',d1,d2,d3,_⟩:=fw _ _ c3
  exact⟨by rw[g3];exact c1,c2,id',d1,by rw[d2];exact c4,by rw[d3];exact c5⟩
 ·intro k nd h
  obtain⟨md,g1,g2,_⟩:=bw _ _ h
  exact List.Nodup.sublist (g2.map _) (W.nodup _ _ g1)
 ·intro k nd h hks
  obtain⟨md,g1,g2,_⟩:=bw _ _ h
  have:md.kids≠[]:=fun e=>by rw[e] at g2;exact hks (List.sublist_nil.1 g2)
  obtain⟨p,hp2⟩:=W.kids _ _ g1 this
  refine⟨p,(ha _ _).2 ⟨hp2,fun e=>?_⟩⟩
  subst e
  rw[hpj] at hp2
  cases hp2
  rw[hj] at g1
  cases g1
  exact this hjk
 ·exact fun p k h=>W.bound _ _ ((ha _ _).1 h).1
 ·obtain⟨p,cd,h1,h2,h3⟩:=W.cwd
  obtain⟨nd',g1,_,_,g4⟩:=fw _ _ h2
  rw[hc]
  refine⟨p,nd',(ha _ _).2 ⟨h1,fun e=>?_⟩,g1,by rw[g4];exact h3⟩
  rw[e,hpj] at h1
  cases h1
  exact hjc rfl
 ·intro k nd h
  obtain⟨md,g1,_,g3,g4,g5,_⟩:=bw _ _ h
  rw[g3,g4,g5]
  exact W.rest _ _ g1
 ·intro k h
  rw[hf] at h
  obtain⟨nd,h1,h2⟩:=W.fds k h
  obtain⟨nd',g1,_,_,g4⟩:=fw _ _ h1
  exact⟨nd',g1,by rw[g4];exact h2⟩
 ·rw[hf];exact W.f8
 ·refine⟨R.erase (pu++[nm]),List.Nodup.erase _ r1,fun p=>?_,by rw[List.length_erase_of_mem hin,r3],by omega⟩
  rw[List.Nodup.mem_erase_iff r1,r2]
  constructor
  ·rintro⟨h1,h2,k,h3⟩
   exact⟨h2,k,(ha _ _).2 ⟨h3,h1⟩⟩
  ·rintro⟨h2,k,h3⟩
   obtain⟨h4,h5⟩:=(ha _ _).1 h3
   exact⟨h5,h2,k,h4⟩
set_option linter.unusedSectionVars false
theorem q24 {m:Int} {d:List Nat}:ZW ([],2,m,d)=true↔0≤m∧m≤511∧d.length≤1024:=by
 have e:ZW ([],2,m,d)=(bif decide (m ≥ 0) then bif decide (m≤511) then decide ((d.length:Int)≤1024) else false else false):=rfl
 rw[e]
 by_cases h1:m ≥ 0
 ·by_cases h2:m≤511
  ·simp[h1,h2];omega
  ·simp[h1,h2]
 ·simp[h1];try (intro h;omega)
theorem qei:∀ {n:Nat},(qdd [0] n).length=n
 | 0=>rfl
 | n+1=>by simp only[qdd,List.length_append,qei (n:=n)];simp;omega
theorem qvm {d:List Nat} {n:Nat}:(JF d n).length=n:=by
 unfold JF
 cases h:Nat.ble n d.length with
 | true=>have:=Nat.le_of_ble_eq_true h;simp;omega
 | false =>
  have:¬ n≤d.length:=fun e=>by rw[Nat.ble_eq.mpr e] at h;cases h
  simp only[cond_false,List.length_append,qei];omega
theorem qky {d wd r:List Nat} {off:Int} (h:J6 d off wd=.inl r) (hd:d.length≤1024):r.length≤1024:=by
 unfold J6 at h
 cases h1:(decide (off < 0)||Nat.blt 512 wd.length) with
 | true=>rw[h1] at h;cases h
 | false =>
  rw[h1,cond_false] at h
  simp only[Bool.or_eq_false_iff,decide_eq_false_iff_not] at h1
  cases h2:decide (off > 1024 - (wd.length:Int)) with
  | true=>rw[h2] at h;cases h
  | false =>
   rw[h2,cond_false] at h
   simp only[decide_eq_false_iff_not] at h2
   cases h3:Nat.blt 0 wd.length with
   | false=>rw[h3] at h;cases h;exact hd
   | true =>
    rw[h3] at h
    cases h
    simp only[List.length_append,qvm,List.length_drop]
    omega
theorem qpv {d r:List Nat} {off num:Int} (h:W2 d off num=.inl r):r.length≤d.length:=by
 unfold W2 at h
 cases h1:(decide (off < 0)||(decide (num < 0)||decide (num > 512))) with
 | true=>rw[h1] at h;cases h
 | false =>
  rw[h1] at h
  cases h
  simp only[List.length_take,List.length_drop]
  omega
section
variable {M:Md} {cnt:Nat} (W:Wf M cnt)
include W
end
def qzs (an:An):Prop:=an.data.length≤1024∧an.names.length≤128∧∀ nm∈an.names,Good nm
def Out (M:Md) (c:Cl) (r:Nat ⊕ (An × Md)):Prop :=
 qzs (qlg M r).1∧(∃ n',Wf (qlg M r).2 n'∧(qlg M r).2.many=(n':Int))∧(qlg M r).2.root=M.root∧(qlg M r).2.nodes.length≤M.nodes.length+1∧((qlg M r).2.nodes=M.nodes∨((qlg M r).1.status=0∧5≤c.op∧c.op≤16∧c.op≠14∧c.op≠15))
theorem qvp {a b c d:Int}:qzs ⟨a,b,c,d,[],[]⟩:=⟨by simp,by simp,fun nm h=>by cases h⟩
section
variable {M:Md} {cnt:Nat} (W:Wf M cnt) (hm:M.many=(cnt:Int)) {c:Cl}
include W hm
theorem Out.inl {n:Nat}:Out M c (.inl n):=⟨qvp,⟨cnt,W,hm⟩,rfl,Nat.le_succ _,Or.inl rfl⟩
theorem Out.same {an:An} (h:qzs an):Out M c (.inr (an,M)):=⟨h,⟨cnt,W,hm⟩,rfl,Nat.le_succ _,Or.inl rfl⟩
theorem Out.marks {an:An} (h:qzs an) {cwd:Nat} {fds:List (Option Nat)} (W':Wf ⟨M.nodes,M.root,cwd,fds,M.many⟩ cnt):Out M c (.inr (an,⟨M.nodes,M.root,cwd,fds,M.many⟩)):=⟨h,⟨cnt,W',hm⟩,rfl,Nat.le_succ _,Or.inl rfl⟩
theorem Out.setv {an:An} (h:qzs an) (hs:an.status=0) (ho:5≤c.op∧c.op≤16∧c.op≠14∧c.op≠15) {k:Nat} {nd nd':Nd} (hk:M.T k=some nd) (e1:nd'.kids=nd.kids) (e2:nd'.up=nd.up) (e3:nd'.name=nd.name) (e4:nd'.kind=nd.kind) (e5:ZW ([],nd'.kind,nd'.mode,nd'.data)=true):Out M c (.inr (an,{ M with nodes:=M.nodes.set k nd' })) :=
 ⟨h,⟨cnt,(W.setv hk e1 e2 e3 e4 e5).1,hm⟩,rfl,by show (M.nodes.set k nd').length≤_;simp,Or.inr ⟨hs,ho⟩⟩
theorem q1r:∃ r,do1 M c=some r∧Out M c r:=by
 obtain⟨o,h1,h2⟩:=W.find (b:=c.path) (follow:=false)
 unfold do1
 rw[h1]
 cases o with
 | inr n=>exact⟨_,rfl,Out.inl W hm⟩
 | inl k =>
  obtain⟨q,kd,_,k2,_⟩:=h2 k rfl
  simp only[k2]
  exact⟨_,rfl,Out.same W hm qvp⟩
theorem q3n:∃ r,do2 M c=some r∧Out M c r:=by
 obtain⟨o,h1,h2⟩:=W.find (b:=c.path) (follow:=true)
 unfold do2
 rw[h1]
 cases o with
 | inr n=>exact⟨_,rfl,Out.inl W hm⟩
 | inl k =>
  obtain⟨q,kd,_,k2,_⟩:=h2 k rfl
  simp only[k2]
  cases decide (kd.kind=1) with
  | true=>exact⟨_,rfl,Out.inl W hm⟩
  | false =>
   simp only[cond_false]
   cases h:W2 kd.data c.off c.num with
   | inr e=>exact⟨_,rfl,Out.inl W hm⟩
   | inl d=>exact⟨_,rfl,Out.same W hm ⟨by have:=qpv h;have:=W.data k2;show d.length≤1024;omega,by simp,fun nm h=>by cases h⟩⟩
theorem q1j (ho:c.op=8) (hd:c.data.length≤10000000000000000000):∃ r,do8 M c=some r∧Out M c r:=by
 obtain⟨o,h1,h2⟩:=W.find (b:=c.path) (follow:=true)
 unfold do8
 rw[Nat.ble_eq.mpr hd,cond_true,h1]
 cases o with
 | inr n=>exact⟨_,rfl,Out.inl W hm⟩
 | inl k =>
  obtain⟨q,kd,_,k2,k3⟩:=h2 k rfl
  have k3:=k3 rfl
  simp only[k2]
  cases h:decide (kd.kind=1) with
  | true=>exact⟨_,rfl,Out.inl W hm⟩
  | false =>
   simp only[decide_eq_false_iff_not] at h
   have k4:kd.kind=2:=by rcases W.kindOf k2 with e|e|e;exact absurd e h;exact e;exact absurd e k3
   have hr:=W.rest _ _ k2
   rw[k4,q24] at hr
   simp only[cond_false]
   cases hw:J6 kd.data c.off c.data with
   | inr e=>exact⟨_,rfl,Out.inl W hm⟩
   | inl d =>
    have hl:=qky hw (W.data k2)
    simp only[Nat.ble_eq.mpr (show d.length≤40000 by omega),cond_true]
    refine⟨_,rfl,Out.setv W hm qvp rfl (by omega) k2 rfl rfl rfl rfl ?_⟩
    show ZW ([],kd.kind,kd.mode,d)=true
    rw[k4,q24]
    exact⟨hr.1,hr.2.1,hl⟩
end
end Go.AX
namespace Go.AX
open Go.Proofs Go.RowKit
set_option maxRecDepth 100000
set_option linter.unusedSimpArgs false
set_option linter.unusedVariables false
abbrev qfy (a b:En):Prop:=LtP (qq a.1) (qq b.1)
def EnAt (M:Md) (e:En) (ps:List (List Nat)):Prop:=∃ k kd,M.at ps=some k∧M.T k=some kd∧e=ql5 (qo [47] ps) kd
section
variable {M:Md} {cnt:Nat} (W:Wf M cnt)
include W
theorem EnAt.parts {e:En} {ps:List (List Nat)} (h:EnAt M e ps):qq e.1=ps:=by
 obtain⟨k,kd,h1,h2,rfl⟩:=h
 exact qW (W.good h1)
theorem Wf.entsAll:∀ {f i:Nat} {ps:List (List Nat)},M.at ps=some i→9≤ps.length+f →
  ∃ es,qh0 M.T f i (qo [47] ps)=some es∧(∀ e,e∈es↔∃ l,l≠[]∧EnAt M e (ps++l))∧es.Pairwise qfy
 | 0,i,ps,hp,hf=>by have:=(W.bound _ _ hp).1;omega
 | f+1,i,ps,hp,hf=>by
  obtain⟨nd,hn⟩:=W.node hp
  have key:∀ names:List (List Nat),(∀ nm∈names,nm∈keys nd.kids)→names.Pairwise (fun a b=>ltB a b=true)→∃ es,qp6 M.T (qh0 M.T f) nd.kids (qo [47] ps) names=some es ∧
    (∀ e,e∈es↔∃ nm l,nm∈names∧EnAt M e (ps++nm::l))∧es.Pairwise qfy:=by
   intro names
   induction names with
   | nil=>exact fun _ _=>⟨[],rfl,fun e=>by simp,List.Pairwise.nil⟩
   | cons nm names ih =>
    intro hm hs
    rw[List.pairwise_cons] at hs
    obtain⟨r,r1,r2,r3⟩:=ih (fun x hx=>hm x (List.mem_cons_of_mem _ hx)) hs.2
    cases hl:qM nm nd.kids with
    | none=>exact absurd (hm nm (by simp)) (lookK_none.1 hl)
    | some j =>
     have gn:=W.kgood hn nm (hm nm (by simp))
     have hj:M.at (ps++[nm])=some j:=at_snoc.2 ⟨i,nd,hp,hn,hl⟩
     obtain⟨jd,hjd⟩:=W.node hj
     have gj:=W.good hj
     have ej:YP (qo [47] ps) nm=qo [47] (ps++[nm]):=qae (fun x hx=>gj x (List.mem_append_left _ hx)) gn.1
     have bj:=W.bound _ _ hp
     have gl:=gn.len
     obtain⟨es,d1,d2,d3⟩:=Wf.entsAll (f:=f) hj (by simp at hf ⊢;omega)
     have c1:Nat.ble ((qo [47] ps).length+nm.length) 1000000=true:=Nat.ble_eq.mpr (by omega)
     simp only[qp6,hl,c1,cond_true,hjd,ej,d1,r1]
     have e0:EnAt M (ql5 (qo [47] (ps++[nm])) jd) (ps++[nm]):=⟨j,jd,hj,hjd,rfl⟩
     have p0:=EnAt.parts W e0
     refine⟨_,rfl,fun e=>?_,?_⟩
     ·rw[List.mem_cons,List.mem_append,d2,r2]
      constructor
      ·rintro (rfl|⟨l,hl2,he⟩|⟨x,l,hx,he⟩)
       ·exact⟨nm,[],by simp,e0⟩
       ·exact⟨nm,l,by simp,by simpa using he⟩
       ·exact⟨x,l,List.mem_cons_of_mem _ hx,he⟩
      ·rintro⟨x,l,hx,he⟩
       rcases List.mem_cons.1 hx with rfl|hx
       ·by_cases hl2:l=[]
        ·subst hl2
         left
         obtain⟨k,kd,k1,k2,rfl⟩:=he
         rw[hj] at k1
         cases k1
         rw[hjd] at k2
         cases k2
         rfl
        ·exact Or.inr (Or.inl ⟨l,hl2,by simpa using he⟩)
       ·exact Or.inr (Or.inr ⟨x,l,hx,he⟩)
     ·have later:∀ l e,e∈r→LtP (ps++nm::l) (qq e.1):=by
       intro l e he
       obtain⟨x,l',hx,he⟩:=(r2 e).1 he
       rw[EnAt.parts W he,qhd,Jx]
       exact Or.inl (hs.1 x hx)
      rw[List.pairwise_cons,List.pairwise_append]
      refine⟨fun e he=>?_,d3,r3,fun a ha b hb=>?_⟩
      ·show LtP (qq (ql5 (qo [47] (ps++[nm])) jd).1) (qq e.1)
       rw[p0]
       rcases List.mem_append.1 he with he|he
       ·obtain⟨l,hl2,he⟩:=(d2 e).1 he
        rw[EnAt.parts W he]
        cases l with
        | nil=>exact absurd rfl hl2
        | cons x l=>exact qhf
       ·exact later [] e he
      ·obtain⟨l,hl2,ha⟩:=(d2 a).1 ha
       show LtP (qq a.1) (qq b.1)
       rw[EnAt.parts W ha]
       have:=later l b hb
       simpa using this
  obtain⟨es,e1,e2,e3⟩:=key (Qq (keys nd.kids)) (fun nm h=>sort_mem.1 h) (XY (W.nodup _ _ hn))
  simp only[qh0,hn,W.sort hn]
  refine⟨es,e1,fun e=>?_,e3⟩
  rw[e2]
  constructor
  ·rintro⟨nm,l,_,he⟩
   exact⟨nm::l,by simp,he⟩
  ·rintro⟨l,hl,he⟩
   cases l with
   | nil=>exact absurd rfl hl
   | cons nm l =>
    refine⟨nm,l,sort_mem.2 ?_,he⟩
    obtain⟨k,kd,k1,_⟩:=he
    obtain⟨w,w1,w2⟩:=lookP_two.1 k1
    have w1:M.at ps=some w:=w1
    rw[hp] at w1
    cases w1
    simp only[z8,Ql hn] at w2
    cases hx:qM nm nd.kids with
    | none=>rw[hx] at w2;cases w2
    | some z=>exact List.mem_map.2 ⟨_,qdq hx,rfl⟩
theorem Wf.ents:∃ es,qh0 M.T 20 M.root []=some es∧es.length=cnt∧(∀ e,e∈es↔∃ l,l≠[]∧EnAt M e l)∧es.Pairwise qfy:=by
 obtain⟨es,h1,h2,h3⟩:=W.entsAll (f:=20) (i:=M.root) (ps:=[]) rfl (by simp)
 simp only[List.nil_append] at h2
 refine⟨es,h1,?_,h2,h3⟩
 obtain⟨R,r1,r2,r3,r4⟩:=W.count
 have hmem:∀ p,p∈es.map (fun e=>qq e.1)↔p∈R:=by
  intro p
  rw[List.mem_map,r2]
  constructor
  ·rintro⟨e,he,rfl⟩
   obtain⟨l,hl,he⟩:=(h2 e).1 he
   rw[EnAt.parts W he]
   obtain⟨k,kd,k1,_⟩:=he
   exact⟨hl,k,k1⟩
  ·rintro⟨hp,k,hk⟩
   obtain⟨kd,hkd⟩:=W.node hk
   have:EnAt M (ql5 (qo [47] p) kd) p:=⟨k,kd,hk,hkd,rfl⟩
   exact⟨_,(h2 _).2 ⟨p,hp,this⟩,EnAt.parts W this⟩
 have hnd:(es.map (fun e=>qq e.1)).Nodup:=by
  unfold List.Nodup
  rw[List.pairwise_map]
  exact h3.imp (fun h e=>by unfold qfy at h;rw[e] at h;exact Q1 h)
 have a:=QE hnd (fun p hp=>(hmem p).1 hp)
 have b:=QE r1 (fun p hp=>(hmem p).2 hp)
 rw[List.length_map] at a b
 omega
end
theorem JQ (a:En):¬ qfy a a:=Q1
theorem qah (a b c:En):qfy a b→qfy b c→qfy a c:=Qi
end Go.AX
namespace Go.AX
open Go.Proofs Go.RowKit
set_option maxRecDepth 100000
set_option linter.unusedSimpArgs false
set_option linter.unusedVariables false
theorem KM {e:En} (h:YW e=true):∃ ps nm,e.1=qo [47] (ps++[nm])∧(∀ x∈ps++[nm],Good x)∧ps.length+1≤8∧(qo [47] (ps++[nm])).length≤140∧ZW ([],e.2.1,e.2.2.1,e.2.2.2)=true:=by
 unfold YW at h
 cases h1:Zd e.1 with
 | false=>rw[h1] at h;cases h
 | true =>
  rw[h1,cond_true] at h
  obtain⟨l,hl,e1,hg,h8,hb⟩:=pathE_iff.1 h1
  obtain⟨ps,nm,rfl⟩:=Jg hl
  exact⟨ps,nm,e1,hg,by simpa using h8,by rw[← e1];exact hb,h⟩
theorem qz4 {ps:List (List Nat)} {nd:Nd} (hne:ps≠[]) (hg:∀ x∈ps,Good x) (h8:ps.length≤8) (hb:(qo [47] ps).length≤140) (hr:ZW ([],nd.kind,nd.mode,nd.data)=true):YW (ql5 (qo [47] ps) nd)=true:=by
 unfold YW
 have:Zd (ql5 (qo [47] ps) nd).1=true:=pathE_iff.2 ⟨ps,hne,rfl,hg,h8,hb⟩
 rw[this]
 exact hr
def okP:Option (List Nat)→List Nat→Bool
 | none,_=>true
 | some p,q=>decide (YF p q < 0)
theorem XH {e:En} {l:List En} {M:Md} {K:Kids} {pv:Option (List Nat)}:Zc (e::l) M K pv=(bif YW e then (bif okP pv e.1 then (match qM (e.1.take (Z8 e.1)) K with
   | none=>none
   | some u=>match M.T u with
    | none=>none
    | some ud=>bif ud.kind != 1 then none else Zc l (VP M u ud (Yz e.1) ⟨e.2.1,e.2.2.1,e.2.2.2,[],some u,Yz e.1,0⟩) (setK e.1 M.nodes.length K) (some e.1)) else none) else none):=by cases pv <;> rfl
structure Inv (d:List En) (M:Md) (K:Kids) (pv:Option (List Nat)):Prop where
 wf:Wf M d.length
 look:∀ ps,(∀ x∈ps,Good x)→qM (qo [47] ps) K=M.at ps
 mem:∀ e,e∈d↔∃ l,l≠[]∧EnAt M e l
 rise:d.Pairwise qfy
 last:∀ e∈d,∃ p,pv=some p∧(e.1=p∨LtP (qq e.1) (qq p))
 root:M.root=0
 cwd:M.cwd=0
theorem qo4 {M:Md} {u:Nat} {ud nw:Nd} {nm:List Nat} (hu:M.T u=some ud):∀ k,(VP M u ud nm nw).T k=if k=M.nodes.length then some nw else if k=u then some { ud with kids:=setK nm M.nodes.length ud.kids } else M.T k:=by
 intro k
 have hul:=Y1 hu
 show (M.nodes.set u { ud with kids:=setK nm M.nodes.length ud.kids }++[nw])[k]?=_
 by_cases h1:k=M.nodes.length
 ·subst h1;simp
 ·rw[if_neg h1]
  by_cases h2:k < M.nodes.length
  ·rw[List.getElem?_append_left (by simpa using h2),qqb hul]
  ·rw[List.getElem?_eq_none (by simp;omega),if_neg (by omega),qfo (by omega)]
theorem qa5 {d:List En} {M:Md} {K:Kids} {pv:Option (List Nat)} (I:Inv d M K pv) {e:En} (hm:YW e=true) (hpv:okP pv e.1=true) {u:Nat} {ud:Nd}
  (hl:qM (e.1.take (Z8 e.1)) K=some u) (hu:M.T u=some ud) (hk:ud.kind=1) (hn:d.length < 128) :
  Inv (d++[e]) (VP M u ud (Yz e.1) ⟨e.2.1,e.2.2.1,e.2.2.2,[],some u,Yz e.1,0⟩) (setK e.1 M.nodes.length K) (some e.1):=by
 obtain⟨ps,nm,e1,hg,h8,hb,hr⟩:=KM hm
 have W:=I.wf
 have gp:∀ x∈ps,Good x:=fun x hx=>hg x (List.mem_append_left _ hx)
 have gn:Good nm:=hg nm (by simp)
 obtain⟨c1,c2⟩:=qbr gp gn
 rw[← e1] at c1 c2
 rw[c1,I.look ps gp] at hl
 rw[c2]
 have pe:qq e.1=ps++[nm]:=by rw[e1];exact qW hg
 have before:∀ a∈d,qfy a e:=by
  intro a ha
  obtain⟨p,rfl,hp⟩:=I.last a ha
  have hlt:LtP (qq p) (qq e.1):=of_decide_eq_true (p:=YF p e.1 < 0) hpv
  rcases hp with rfl|hp
  ·exact hlt
  ·exact Qi hp hlt
 have noat:∀ k,M.at (ps++[nm])≠some k:=by
  intro k hk2
  obtain⟨kd,hkd⟩:=W.node hk2
  have ha:EnAt M (ql5 (qo [47] (ps++[nm])) kd) (ps++[nm]):=⟨k,kd,hk2,hkd,rfl⟩
  have:=before _ ((I.mem _).2 ⟨_,by simp,ha⟩)
  unfold qfy at this
  rw[EnAt.parts W ha,pe] at this
  exact Q1 this
 have hlk:qM nm ud.kids=none:=by
  cases h:qM nm ud.kids with
  | none=>rfl
  | some j=>exact absurd (at_snoc.2 ⟨u,ud,hl,hu,h⟩) (noat j)
 obtain⟨W',ha⟩:=W.add (M':=VP M u ud nm ⟨e.2.1,e.2.2.1,e.2.2.2,[],some u,nm,0⟩) (nw:=⟨e.2.1,e.2.2.1,e.2.2.2,[],some u,nm,0⟩) hl hu hk hlk gn ⟨h8,hb⟩ hn rfl rfl rfl hr rfl rfl rfl rfl
 have hT:=qo4 (nw:=⟨e.2.1,e.2.2.1,e.2.2.2,[],some u,nm,0⟩) (nm:=nm) hu
 have keepE:∀ a l,EnAt M a l→EnAt (VP M u ud nm ⟨e.2.1,e.2.2.1,e.2.2.2,[],some u,nm,0⟩) a l:=by
  rintro a l ⟨k,kd,k1,k2,rfl⟩
  have hkn:k≠M.nodes.length:=fun e=>by rw[e,qfo (Nat.le_refl _)] at k2;cases k2
  by_cases hku:k=u
  ·subst hku
   rw[hu] at k2
   cases k2
   exact⟨k,{ ud with kids:=setK nm M.nodes.length ud.kids },(ha _ _).2 (Or.inl k1),by rw[hT,if_neg hkn,if_pos rfl],rfl⟩
  ·exact⟨k,kd,(ha _ _).2 (Or.inl k1),by rw[hT,if_neg hkn,if_neg hku];exact k2,rfl⟩
 have newE:EnAt (VP M u ud nm ⟨e.2.1,e.2.2.1,e.2.2.2,[],some u,nm,0⟩) e (ps++[nm]):=by
  refine⟨M.nodes.length,⟨e.2.1,e.2.2.1,e.2.2.2,[],some u,nm,0⟩,(ha _ _).2 (Or.inr ⟨rfl,rfl⟩),by rw[hT,if_pos rfl],?_⟩
  obtain⟨a,b,c,f⟩:=e
  simp only at e1
  unfold ql5
  rw[← e1]
 refine⟨by rw[List.length_append];exact W',fun qs hq=>?_,fun a=>?_,?_,fun a h=>⟨_,rfl,?_⟩,I.root,I.cwd⟩
 ·rw[Ye,e1]
  by_cases hqs:qs=ps++[nm]
  ·subst hqs
   rw[if_pos rfl]
   exact ((ha _ _).2 (Or.inr ⟨rfl,rfl⟩)).symm
  ·rw[if_neg (fun h=>hqs (ql8 hq hg h)),I.look qs hq]
   cases h:M.at qs with
   | some k=>exact ((ha _ _).2 (Or.inl h)).symm
   | none =>
    cases h':Md.at (VP M u ud nm ⟨e.2.1,e.2.2.1,e.2.2.2,[],some u,nm,0⟩) qs with
    | none=>rfl
    | some k =>
     rcases (ha _ _).1 h' with h2|⟨h2,_⟩
     ·rw[h] at h2;cases h2
     ·exact absurd h2 hqs
 ·rw[List.mem_append,I.mem,List.mem_singleton]
  constructor
  ·rintro (⟨l,hl2,h⟩|rfl)
   ·exact⟨l,hl2,keepE _ _ h⟩
   ·exact⟨_,by simp,newE⟩
  ·rintro⟨l,hl2,k,kd,k1,k2,rfl⟩
   rcases (ha _ _).1 k1 with k1|⟨rfl,rfl⟩
   ·left
    obtain⟨kd0,hk0⟩:=W.node k1
    refine⟨l,hl2,k,kd0,k1,hk0,?_⟩
    have hkn:k≠M.nodes.length:=fun e=>by rw[e,qfo (Nat.le_refl _)] at hk0;cases hk0
    rw[hT,if_neg hkn] at k2
    by_cases hku:k=u
    ·subst hku
     rw[if_pos rfl] at k2
     cases k2
     rw[hu] at hk0
     cases hk0
     rfl
    ·rw[if_neg hku,hk0] at k2
     cases k2
     rfl
   ·right
    obtain⟨k',kd',g1,g2,g3⟩:=newE
    rw[k1] at g1
    cases g1
    rw[k2] at g2
    cases g2
    exact g3.symm
 ·rw[List.pairwise_append]
  exact⟨I.rise,List.pairwise_singleton ..,fun a ha b hb=>by rw[List.mem_singleton] at hb;rw[hb];exact before a ha⟩
 ·rcases List.mem_append.1 h with h|h
  ·exact Or.inr (before a h)
  ·rw[List.mem_singleton] at h
   exact Or.inl (by rw[h])
theorem qmf:∀ {es d:List En} {M M':Md} {K:Kids} {pv:Option (List Nat)},Inv d M K pv→d.length+es.length≤128→Zc es M K pv=some M'→∃ K' pv',Inv (d++es) M' K' pv'
 | [],d,M,M',K,pv,I,_,h=>by
  cases h
  exact⟨K,pv,by rw[List.append_nil];exact I⟩
 | e::es,d,M,M',K,pv,I,hn,h=>by
  rw[XH] at h
  cases hm:YW e with
  | false=>rw[hm] at h;cases h
  | true =>
   rw[hm,cond_true] at h
   cases hp:okP pv e.1 with
   | false=>rw[hp] at h;cases h
   | true =>
    rw[hp,cond_true] at h
    cases hl:qM (e.1.take (Z8 e.1)) K with
    | none=>rw[hl] at h;cases h
    | some u =>
     rw[hl] at h
     simp only at h
     cases hu:M.T u with
     | none=>rw[hu] at h;cases h
     | some ud =>
      rw[hu] at h
      simp only at h
      cases hk:ud.kind != 1 with
      | true=>rw[hk] at h;cases h
      | false =>
       rw[hk,cond_false] at h
       obtain⟨K',pv',I'⟩:=qmf (qa5 I hm hp hl hu (by simpa using hk) (by simp at hn;omega)) (by simp at hn ⊢;omega) h
       exact⟨K',pv',by rw[List.append_assoc] at I';exact I'⟩
theorem MZ_at {ps:List (List Nat)} {k:Nat}:MZ.at ps=some k↔ps=[]∧k=0:=by
 have:∀ x,Z9 MZ.T 0 x=none:=fun x=>rfl
 exact XG this
theorem q5u:Wf MZ 0:=by
 have T0:MZ.T 0=some ⟨1,493,[],[],none,[],0⟩:=rfl
 have Ts:∀ k nd,MZ.T k=some nd→k=0∧nd=⟨1,493,[],[],none,[],0⟩:=by
  intro k nd h
  have:=Y1 h
  have hk:k=0:=by simp[MZ] at this;omega
  subst hk
  rw[T0] at h
  cases h
  exact⟨rfl,rfl⟩
 refine⟨⟨_,T0,rfl,rfl⟩,?_,?_,?_,?_,⟨[],_,rfl,T0,rfl⟩,?_,?_,rfl,⟨[],List.nodup_nil,?_,rfl,by omega⟩⟩
 ·intro p u ud nm j _ h2 h3
  obtain⟨_,rfl⟩:=Ts _ _ h2
  cases h3
 ·intro k nd h
  obtain⟨_,rfl⟩:=Ts _ _ h
  exact List.nodup_nil
 ·intro k nd h hk
  obtain⟨_,rfl⟩:=Ts _ _ h
  exact absurd rfl hk
 ·intro p k h
  obtain⟨rfl,_⟩:=MZ_at.1 h
  exact⟨by simp,by simp[qo]⟩
 ·intro k nd h
  obtain⟨_,rfl⟩:=Ts _ _ h
  rfl
 ·intro k h
  simp[MZ] at h
 ·intro p
  constructor
  ·intro h;cases h
  ·rintro⟨h,k,hk⟩
   exact absurd (MZ_at.1 hk).1 h
theorem qlv:Inv [] MZ [([],0)] none:=by
 refine⟨q5u,fun ps hg=>?_,fun e=>?_,List.Pairwise.nil,fun e h=>(by cases h),rfl,rfl⟩
 ·by_cases h:ps=[]
  ·subst h;rfl
  ·have:qo [47] ps≠[]:=fun e=>h ((ZE hg).1 e)
   simp only[qM,eqB_ne.2 this,cond_false]
   cases h2:MZ.at ps with
   | none=>rfl
   | some k=>exact absurd (MZ_at.1 h2).1 h
 ·constructor
  ·intro h;cases h
  ·rintro⟨l,hl,k,kd,k1,_⟩
   exact absurd (MZ_at.1 k1).1 hl
theorem q3r {es:List En} {M:Md} (h:ofT es=some M):Wf M es.length∧M.many=(es.length:Int)∧M.cwd=M.root∧qh0 M.T 20 M.root []=some es∧es.Pairwise qfy:=by
 unfold ofT at h
 cases h1:decide ((es.length:Int) > 128) with
 | true=>rw[h1] at h;cases h
 | false =>
  rw[h1,cond_false] at h
  cases h2:Zc es MZ [([],0)] none with
  | none=>rw[h2] at h;cases h
  | some M1 =>
   rw[h2] at h
   cases h
   simp only[decide_eq_false_iff_not] at h1
   obtain⟨K',pv',I⟩:=qmf qlv (by simp;omega) h2
   rw[List.nil_append] at I
   have W:Wf ⟨M1.nodes,M1.root,M1.cwd,M1.fds,(es.length:Int)⟩ es.length:=I.wf.marks I.wf.f8 I.wf.cwd I.wf.fds
   refine⟨W,rfl,by show M1.cwd=M1.root;rw[I.cwd,I.root],?_,I.rise⟩
   obtain⟨es',e1,_,e2,e3⟩:=W.ents
   have:es'=es:=Yq JQ qah e3 I.rise (fun a=>by rw[e2,I.mem];exact Iff.rfl)
   rw[← this]
   exact e1
theorem qs0 {es:List En} (h1:es.length≤128) (h2:∀ e∈es,YW e=true) (h3:es.Pairwise qfy) (h4:∀ e∈es,∀ ps nm,e.1=qo [47] (ps++[nm])→(∀ x∈ps++[nm],Good x)→ps=[]∨∃ a∈es,a.1=qo [47] ps∧a.2.1=1):∃ M,ofT es=some M:=by
 have key:∀ (r d:List En) (M:Md) (K:Kids) (pv:Option (List Nat)),Inv d M K pv→d++r=es→(match r with | []=>true|e::_=>okP pv e.1)=true→∃ M',Zc r M K pv=some M':=by
  intro r
  induction r with
  | nil=>exact fun d M K pv _ _ _=>⟨M,rfl⟩
  | cons e r ih =>
   intro d M K pv I hd hpv
   have hin:e∈es:=by rw[← hd];simp
   have hm:=h2 e hin
   obtain⟨ps,nm,e1,hg,h8,hb,hr⟩:=KM hm
   have gp:∀ x∈ps,Good x:=fun x hx=>hg x (List.mem_append_left _ hx)
   have hp:okP pv e.1=true:=hpv
   obtain⟨c1,c2⟩:=qbr gp (hg nm (by simp))
   rw[← e1] at c1
   have hup:∃ u ud,M.at ps=some u∧M.T u=some ud∧ud.kind=1:=by
    rcases h4 e hin ps nm e1 hg with rfl|⟨a,ha,a1,a2⟩
    ·obtain⟨rd,r1,r2,_⟩:=I.wf.root
     exact⟨M.root,rd,rfl,r1,r2⟩
    ·have hlt:qfy a e:=by
      show LtP (qq a.1) (qq e.1)
      rw[a1,e1,qW gp,qW hg]
      exact qhf
     have had:a∈d:=by
      rw[← hd] at ha
      rcases List.mem_append.1 ha with h|h
      ·exact h
      ·exfalso
       rw[← hd,List.pairwise_append,List.pairwise_cons] at h3
       rcases List.mem_cons.1 h with rfl|h
       ·exact JQ _ hlt
       ·exact JQ _ (qah _ _ _ hlt (h3.2.1.1 a h))
     obtain⟨l,_,hat⟩:=(I.mem a).1 had
     have:=EnAt.parts I.wf hat
     rw[a1,qW gp] at this
     subst this
     obtain⟨k,kd,k1,k2,rfl⟩:=hat
     exact⟨k,kd,k1,k2,a2⟩
   obtain⟨u,ud,u1,u2,u3⟩:=hup
   have hl:qM (e.1.take (Z8 e.1)) K=some u:=by rw[c1,I.look ps gp];exact u1
   have hlen:d.length < 128:=by
    have:=congrArg List.length hd
    simp at this
    omega
   have hk:(ud.kind != 1)=false:=by rw[u3];rfl
   simp only[XH,hm,hp,hl,u2,hk,cond_true,cond_false]
   refine ih (d++[e]) _ _ _ (qa5 I hm hp hl u2 u3 hlen) (by rw[← hd];simp) ?_
   cases r with
   | nil=>rfl
   | cons e' r =>
    show decide (YF e.1 e'.1 < 0)=true
    rw[decide_eq_true_eq]
    rw[← hd,List.pairwise_append,List.pairwise_cons] at h3
    exact h3.2.1.1 e' (by simp)
 obtain⟨M',hM⟩:=key es [] MZ [([],0)] none qlv (List.nil_append _) (by cases es <;> rfl)
 unfold ofT
 have:decide ((es.length:Int) > 128)=false:=by rw[decide_eq_false_iff_not];omega
 rw[this,cond_false,hM]
 exact⟨_,rfl⟩
theorem Wf.back {M:Md} {cnt:Nat} (W:Wf M cnt) {es:List En} (h:qh0 M.T 20 M.root []=some es):∃ M',ofT es=some M':=by
 obtain⟨es',e1,e2,e3,e4⟩:=W.ents
 rw[h] at e1
 cases e1
 obtain⟨R,r1,r2,r3,r4⟩:=W.count
 refine qs0 (by omega) (fun e he=>?_) e4 (fun e he ps nm e5 hg=>?_)
 ·obtain⟨l,hl,k,kd,k1,k2,rfl⟩:=(e3 e).1 he
  exact qz4 hl (W.good k1) (W.bound _ _ k1).1 (W.bound _ _ k1).2 (W.rest _ _ k2)
 ·by_cases hp:ps=[]
  ·exact Or.inl hp
  ·right
   obtain⟨l,hl,hat⟩:=(e3 e).1 he
   have:=EnAt.parts W hat
   rw[e5,qW hg] at this
   subst this
   obtain⟨k,kd,k1,k2,_⟩:=hat
   obtain⟨u,ud,u1,u2,u3⟩:=at_snoc.1 k1
   have hk:=(W.kid _ _ _ _ _ u1 u2 u3).1
   exact⟨ql5 (qo [47] ps) ud,(e3 _).2 ⟨ps,hp,u,ud,u1,u2,rfl⟩,rfl,hk⟩
end Go.AX
