import Derived.Test.YtkcbaokljkalcaaGreatAp3H2
set_option linter.unusedVariables false
set_option linter.unusedSimpArgs false
set_option linter.defProp false
namespace Go.AX
open Go.Proofs Go.RowKit
set_option maxRecDepth 100000
set_option linter.unusedSimpArgs false
set_option linter.unusedVariables false
abbrev Stp:=Nat→List Nat→Option Nat
def zg (s:Stp):Nat→List (List Nat)→Option Nat
 | i,[]=>some i
 | i,nm::l=>match s i nm with
  | none=>none
  | some j=>zg s j l
theorem Wt {s:Stp}:∀ {p q:List (List Nat)} {i:Nat},zg s i (p++q)=(match zg s i p with|none=>none|some k=>zg s k q)
 | [],q,i=>rfl
 | nm::p,q,i=>by
  simp only[List.cons_append,zg]
  cases s i nm with
  | none=>rfl
  | some j=>exact Wt
theorem qkv {s:Stp} {p:List (List Nat)} {nm:List Nat} {i j:Nat}:zg s i (p++[nm])=some j↔∃ u,zg s i p=some u∧s u nm=some j:=by
 rw[Wt]
 cases h:zg s i p with
 | none=>simp
 | some u =>
  simp only[zg,Option.some.injEq,exists_eq_left']
  cases s u nm <;> simp
theorem lookP_two {s:Stp} {p q:List (List Nat)} {i k:Nat}:zg s i (p++q)=some k↔∃ u,zg s i p=some u∧zg s u q=some k:=by
 rw[Wt]
 cases h:zg s i p <;> simp
theorem Wa {s s':Stp} (h:∀ i x,s' i x=s i x):∀ {p:List (List Nat)} {i:Nat},zg s' i p=zg s i p
 | [],_=>rfl
 | nm::p,i=>by
  simp only[zg,h]
  cases s i nm with
  | none=>rfl
  | some j=>exact Wa h
theorem ZZ {s s':Stp} {v:Nat} {nm:List Nat} (h:∀ i x,¬ (i=v∧x=nm)→s' i x=s i x):∀ {p:List (List Nat)} {i:Nat},(∀ q,zg s i q≠some v)→zg s' i p=zg s i p
 | [],_,_=>rfl
 | x::p,i,hv=>by
  have hi:i≠v:=fun e=>hv [] (by rw[e];rfl)
  simp only[zg,h i x (fun e=>hi e.1)]
  cases hs:s i x with
  | none=>rfl
  | some j =>
   refine ZZ h (fun q hq=>hv (x::q) ?_)
   simp only[zg,hs]
   exact hq
theorem qik {s s':Stp} {u:Nat} {nm:List Nat} (h1:s' u nm=none) (h2:∀ i x,¬ (i=u∧x=nm)→s' i x=s i x):∀ {p:List (List Nat)} {i k:Nat},zg s' i p=some k↔zg s i p=some k∧∀ q l,p=q++nm::l→zg s i q≠some u
 | [],i,k=>by
  simp only[zg]
  constructor
  ·exact fun h=>⟨h,fun q l e=>by simp at e⟩
  ·exact fun h=>h.1
 | x::p,i,k=>by
  by_cases he:i=u∧x=nm
  ·obtain⟨rfl,rfl⟩:=he
   simp only[zg,h1]
   constructor
   ·intro h;cases h
   ·rintro⟨_,h⟩;exact absurd rfl (h [] p rfl)
  ·simp only[zg,h2 i x he]
   cases hs:s i x with
   | none=>simp
   | some j =>
    simp only
    rw[qik h1 h2 (p:=p) (i:=j)]
    refine and_congr_right fun _=>⟨fun h q l e=>?_,fun h q l e=>?_⟩
    ·cases q with
     | nil =>
      simp only[List.nil_append,List.cons.injEq] at e
      intro hq
      exact he ⟨by simpa [zg] using hq,e.1⟩
     | cons y q =>
      simp only[List.cons_append,List.cons.injEq] at e
      obtain⟨rfl,e⟩:=e
      simp only[zg,hs]
      exact h q l e
    ·have:=h (x::q) l (by rw[e];rfl)
     simpa only[zg,hs] using this
theorem qpb {s s':Stp} {v j:Nat} {nm:List Nat} (h0:s v nm=none) (h1:s' v nm=some j) (h2:∀ i x,¬ (i=v∧x=nm)→s' i x=s i x) (hj:∀ l,zg s j l≠some v):∀ {p:List (List Nat)} {i k:Nat},zg s' i p=some k↔zg s i p=some k∨∃ q l,p=q++nm::l∧zg s i q=some v∧zg s j l=some k
 | [],i,k=>by simp[zg]
 | x::p,i,k=>by
  by_cases he:i=v∧x=nm
  ·obtain⟨rfl,rfl⟩:=he
   simp only[zg,h1,h0]
   rw[ZZ h2 hj]
   constructor
   ·exact fun h=>Or.inr ⟨[],p,rfl,rfl,h⟩
   ·rintro (h|⟨q,l,e,hq,hl⟩)
    ·cases h
    ·cases q with
     | nil =>
      simp only[List.nil_append,List.cons.injEq,true_and] at e
      rw[e];exact hl
     | cons y q =>
      simp only[List.cons_append,List.cons.injEq] at e
      obtain⟨rfl,e⟩:=e
      simp only[zg,h0] at hq
      cases hq
  ·simp only[zg,h2 i x he]
   cases hs:s i x with
   | none =>
    simp only[false_or]
    constructor
    ·intro h;cases h
    ·rintro ((h:(none:Option Nat)=some k)|⟨q,l,e,hq,hl⟩)
     ·cases h
     ·cases q with
      | nil =>
       simp only[List.nil_append,List.cons.injEq] at e
       exact absurd ⟨by simpa [zg] using hq,e.1⟩ he
      | cons y q =>
       simp only[List.cons_append,List.cons.injEq] at e
       obtain⟨rfl,e⟩:=e
       simp only[zg,hs] at hq
       cases hq
   | some z =>
    simp only
    rw[qpb h0 h1 h2 hj (p:=p) (i:=z)]
    refine or_congr_right ⟨?_,?_⟩
    ·rintro⟨q,l,e,hq,hl⟩
     exact⟨x::q,l,by rw[e];rfl,by simp only[zg,hs];exact hq,hl⟩
    ·rintro⟨q,l,e,hq,hl⟩
     cases q with
     | nil =>
      simp only[List.nil_append,List.cons.injEq] at e
      exact absurd ⟨by simpa [zg] using hq,e.1⟩ he
     | cons y q =>
      simp only[List.cons_append,List.cons.injEq] at e
      obtain⟨rfl,e⟩:=e
      simp only[zg,hs] at hq
      exact⟨q,l,e,hq,hl⟩
def QA (T:zi):Stp:=fun i nm=>match T i with
 | none=>none
 | some nd=>ql nm nd.kids
theorem qk9 {T:zi} {i j:Nat} {nm:List Nat}:QA T i nm=some j↔∃ nd,T i=some nd∧ql nm nd.kids=some j:=by
 unfold QA
 cases T i <;> simp
theorem zo {T:zi} {i:Nat} {nd:Nd} (h:T i=some nd) {nm:List Nat}:QA T i nm=ql nm nd.kids:=by
 unfold QA
 rw[h]
def Md.at (M:Md) (p:List (List Nat)):Option Nat:=zg (QA M.T) M.root p
structure Wf (M:Md) (n:Nat):Prop where
 root:∃ rd,M.T M.root=some rd∧rd.kind=1∧rd.up=none
 kid:∀ p u ud nm j,M.at p=some u→M.T u=some ud→ql nm ud.kids=some j→ud.kind=1∧Good nm∧∃ jd,M.T j=some jd∧jd.up=some u∧jd.name=nm
 nodup:∀ k nd,M.T k=some nd→(keys nd.kids).Nodup
 kids:∀ k nd,M.T k=some nd→nd.kids≠[]→∃ p,M.at p=some k
 bound:∀ p k,M.at p=some k→p.length≤8∧(qu [47] p).length≤140
 cwd:∃ p cd,M.at p=some M.cwd∧M.T M.cwd=some cd∧cd.kind=1
 rest:∀ k nd,M.T k=some nd→Z7 ([],nd.kind,nd.mode,nd.data)=true
 fds:∀ k,some k∈M.fds→∃ nd,M.T k=some nd∧nd.kind=2
 f8:M.fds.length=8
 count:∃ R:List (List (List Nat)),R.Nodup∧(∀ p,p∈R↔p≠[]∧∃ k,M.at p=some k)∧R.length=n∧n≤128
theorem Yk {α:Type} {l:List α} (h:l≠[]):∃ r a,l=r++[a]:=⟨l.dropLast,l.getLast h,(List.dropLast_concat_getLast h).symm⟩
theorem at_snoc {M:Md} {p:List (List Nat)} {nm:List Nat} {j:Nat}:M.at (p++[nm])=some j↔∃ u ud,M.at p=some u∧M.T u=some ud∧ql nm ud.kids=some j:=by
 unfold Md.at
 rw[qkv]
 simp only[qk9]
 constructor
 ·rintro⟨u,h,ud,h1,h2⟩;exact⟨u,ud,h,h1,h2⟩
 ·rintro⟨u,ud,h,h1,h2⟩;exact⟨u,h,ud,h1,h2⟩
theorem ZA {α:Type} [DecidableEq α]:∀ {l r:List α},l.Nodup→(∀ a∈l,a∈r)→l.length≤r.length
 | [],_,_,_=>Nat.zero_le _
 | a::l,r,hn,h=>by
  rw[List.nodup_cons] at hn
  have ha:=h a (by simp)
  have:=ZA (l:=l) (r:=r.erase a) hn.2 (fun b hb=>by
   have hne:b≠a:=fun e=>hn.1 (by rw[← e];exact hb)
   exact (List.mem_erase_of_ne hne).2 (h b (List.mem_cons_of_mem _ hb)))
  rw[List.length_erase_of_mem ha] at this
  have:0 < r.length:=List.length_pos_of_mem ha
  simp only[List.length_cons]
  omega
section
variable {M:Md} {cnt:Nat} (W:Wf M cnt)
include W
theorem Wf.node {p:List (List Nat)} {k:Nat} (h:M.at p=some k):∃ nd,M.T k=some nd:=by
 by_cases hp:p=[]
 ·subst hp
  obtain⟨rd,h1,_⟩:=W.root
  cases h
  exact⟨rd,h1⟩
 ·obtain⟨q,nm,rfl⟩:=Yk hp
  obtain⟨u,ud,h1,h2,h3⟩:=at_snoc.1 h
  obtain⟨_,_,jd,h4,_⟩:=W.kid _ _ _ _ _ h1 h2 h3
  exact⟨jd,h4⟩
theorem Wf.good:∀ {p:List (List Nat)} {k:Nat},M.at p=some k→∀ nm∈p,Good nm:=by
 intro p
 generalize hn:p.length=n
 induction n generalizing p with
 | zero =>
  intro k _ nm hm
  rw[List.length_eq_zero_iff.1 hn] at hm
  cases hm
 | succ n ih =>
  intro k h nm hm
  have hp:p≠[]:=fun e=>by rw[e] at hn;cases hn
  obtain⟨q,x,rfl⟩:=Yk hp
  obtain⟨u,ud,h1,h2,h3⟩:=at_snoc.1 h
  rcases List.mem_append.1 hm with hm|hm
  ·exact ih (by simpa using hn) h1 nm hm
  ·rw[List.mem_singleton] at hm
   subst hm
   exact (W.kid _ _ _ _ _ h1 h2 h3).2.1
theorem Wf.uniq:∀ {p q:List (List Nat)} {k:Nat},M.at p=some k→M.at q=some k→p=q:=by
 intro p
 obtain⟨rd,r1,r2,r3⟩:=W.root
 generalize hn:p.length=n
 induction n generalizing p with
 | zero =>
  intro q k hp hq
  have e:=List.length_eq_zero_iff.1 hn
  subst e
  by_cases e:q=[]
  ·exact e.symm
  ·obtain⟨q,x,rfl⟩:=Yk e
   obtain⟨u,ud,h1,h2,h3⟩:=at_snoc.1 hq
   obtain⟨_,_,jd,h4,h5,_⟩:=W.kid _ _ _ _ _ h1 h2 h3
   cases hp
   rw[r1] at h4
   cases h4
   rw[r3] at h5
   cases h5
 | succ n ih =>
  intro q k hp hq
  have e:p≠[]:=fun e=>by rw[e] at hn;cases hn
  obtain⟨p,x,rfl⟩:=Yk e
  obtain⟨u,ud,h1,h2,h3⟩:=at_snoc.1 hp
  obtain⟨_,_,jd,h4,h5,h6⟩:=W.kid _ _ _ _ _ h1 h2 h3
  by_cases e:q=[]
  ·subst e
   cases hq
   rw[r1] at h4
   cases h4
   rw[r3] at h5
   cases h5
  ·obtain⟨q,y,rfl⟩:=Yk e
   obtain⟨u',ud',g1,g2,g3⟩:=at_snoc.1 hq
   obtain⟨_,_,jd',g4,g5,g6⟩:=W.kid _ _ _ _ _ g1 g2 g3
   rw[h4] at g4
   cases g4
   rw[h5] at g5
   cases g5
   rw[ih (by simpa using hn) h1 g1,← h6,← g6]
theorem Wf.path {p:List (List Nat)}:∀ {k f:Nat},M.at p=some k→p.length < f→zM M.T f k=some (qu [47] p)∧Qh M.T f k=some p.length:=by
 obtain⟨rd,r1,r2,r3⟩:=W.root
 generalize hn:p.length=n
 induction n generalizing p with
 | zero =>
  intro k f hp hf
  have e:=List.length_eq_zero_iff.1 hn
  subst e
  cases hp
  obtain⟨f,rfl⟩:∃ g,f=g+1:=⟨f - 1,by omega⟩
  simp only[zM,Qh,r1,r3,qu]
  exact⟨trivial,trivial⟩
 | succ n ih =>
  intro k f hp hf
  have e:p≠[]:=fun e=>by rw[e] at hn;cases hn
  obtain⟨q,x,rfl⟩:=Yk e
  have hg:=W.good hp
  have hbd:=W.bound _ _ hp
  obtain⟨u,ud,h1,h2,h3⟩:=at_snoc.1 hp
  obtain⟨_,gx,jd,h4,h5,h6⟩:=W.kid _ _ _ _ _ h1 h2 h3
  obtain⟨f,rfl⟩:∃ g,f=g+1:=⟨f - 1,by omega⟩
  have hq:q.length=n:=by simpa using hn
  obtain⟨i1,i2⟩:=ih hq h1 (f:=f) (by omega)
  have hl:=JW (l:=q) (nm:=x)
  have hx:=gx.len
  have b1:Nat.ble ((qu [47] q).length+x.length) 1000000=true:=Nat.ble_eq.mpr (by omega)
  have b2:Nat.ble n 1000000=true:=Nat.ble_eq.mpr (by simp at hbd;omega)
  simp only[zM,Qh,h4,h5,i1,i2,h6,b1,b2,cond_true]
  rw[Yu (fun p hp=>hg p (List.mem_append_left _ hp)) gx.1]
  exact⟨rfl,trivial⟩
theorem Wf.klen {k:Nat} {nd:Nd} (h:M.T k=some nd):nd.kids.length≤128:=by
 by_cases e:nd.kids=[]
 ·rw[e];simp
 ·obtain⟨p,hp⟩:=W.kids k nd h e
  obtain⟨R,r1,r2,r3,r4⟩:=W.count
  have hnd:=W.nodup k nd h
  have:((keys nd.kids).map (fun nm=>p++[nm])).length≤R.length:=by
   refine ZA (List.Pairwise.map _ (fun a b hab e=>hab (by simpa using e)) hnd) ?_
   intro a ha
   obtain⟨nm,hm,rfl⟩:=List.mem_map.1 ha
   refine (r2 _).2 ⟨by simp,?_⟩
   cases hl:ql nm nd.kids with
   | none=>exact absurd hm (lookK_none.1 hl)
   | some j=>exact⟨j,at_snoc.2 ⟨k,nd,hp,h,hl⟩⟩
  simp only[keys,List.length_map] at this
  omega
theorem Wf.kgood {k:Nat} {nd:Nd} (h:M.T k=some nd):∀ nm∈keys nd.kids,Good nm:=by
 intro nm hm
 have e:nd.kids≠[]:=fun e=>by rw[e] at hm;cases hm
 obtain⟨p,hp⟩:=W.kids k nd h e
 cases hl:ql nm nd.kids with
 | none=>exact absurd hm (lookK_none.1 hl)
 | some j=>exact (W.kid _ _ _ _ _ hp h hl).2.1
theorem Wf.sort {k:Nat} {nd:Nd} (h:M.T k=some nd):ZD nd.kids=some (Q0 (keys nd.kids)):=qka (W.nodup k nd h) (W.kgood h) (by have:=W.klen h;omega)
theorem Wf.sorts:M.nodes.all (fun nd=>(ZD nd.kids).isSome)=true:=by
 rw[List.all_eq_true]
 intro nd hm
 obtain⟨k,hk,e⟩:=List.getElem_of_mem hm
 have:M.T k=some nd:=by unfold Md.T;rw[List.getElem?_eq_getElem hk,e]
 rw[W.sort this]
 rfl
theorem Wf.data {k:Nat} {nd:Nd} (h:M.T k=some nd):nd.data.length≤1024:=by
 have:=W.rest k nd h
 unfold Z7 at this
 simp only at this
 cases h1:nd.kind==1 with
 | true =>
  rw[h1,cond_true] at this
  cases h2:decide (nd.mode ≥ 0) with
  | false=>rw[h2] at this;cases this
  | true =>
   rw[h2,cond_true] at this
   cases h3:decide (nd.mode≤511) with
   | false=>rw[h3] at this;cases this
   | true =>
    rw[h3,cond_true] at this
    rw[eqB_eq.1 this]
    simp
 | false =>
  rw[h1,cond_false] at this
  cases h4:nd.kind==2 with
  | true =>
   rw[h4,cond_true] at this
   cases h2:decide (nd.mode ≥ 0) with
   | false=>rw[h2] at this;cases this
   | true =>
    rw[h2,cond_true] at this
    cases h3:decide (nd.mode≤511) with
    | false=>rw[h3] at this;cases this
    | true =>
     rw[h3,cond_true,decide_eq_true_eq] at this
     omega
  | false =>
   rw[h4,cond_false] at this
   cases h5:nd.kind==3 with
   | false=>rw[h5] at this;cases this
   | true =>
    rw[h5,cond_true] at this
    cases h6:nd.mode==511 with
    | false=>rw[h6] at this;cases this
    | true =>
     rw[h6,cond_true] at this
     unfold Qw at this
     simp only[Bool.and_eq_true] at this
     have:=Nat.le_of_ble_eq_true this.2.1
     omega
theorem Wf.kindOf {k:Nat} {nd:Nd} (h:M.T k=some nd):nd.kind=1∨nd.kind=2∨nd.kind=3:=by
 have:=W.rest k nd h
 unfold Z7 at this
 simp only at this
 cases h1:nd.kind==1 with
 | true=>exact Or.inl (by simpa using h1)
 | false =>
  cases h4:nd.kind==2 with
  | true=>exact Or.inr (Or.inl (by simpa using h4))
  | false =>
   cases h5:nd.kind==3 with
   | true=>exact Or.inr (Or.inr (by simpa using h5))
   | false=>rw[h1,h4,h5] at this;cases this
end
end Go.AX
namespace Go.AX
open Go.Proofs Go.RowKit
set_option maxRecDepth 100000
set_option linter.unusedSimpArgs false
set_option linter.unusedVariables false
section
variable {M:Md} {cnt:Nat} (W:Wf M cnt)
include W
theorem Wf.path20 {p:List (List Nat)} {k:Nat} (h:M.at p=some k):zM M.T 20 k=some (qu [47] p)∧Qh M.T 20 k=some p.length:=W.path h (by have:=(W.bound _ _ h).1;omega)
theorem Wf.walk {follow:Bool}:∀ {f cur hops:Nat} {names p:List (List Nat)} {cd:Nd},M.at p=some cur→M.T cur=some cd→(follow=true→cd.kind≠3)→hops≤8→names.length+9 * (8 - hops) < f→f≤1000 →
  ∃ o,Jk M.T M.root follow f cur hops names=some o∧∀ k,o=.inl k→∃ q kd,M.at q=some k∧M.T k=some kd∧(follow=true→kd.kind≠3)
 | 0,_,_,_,_,_,_,_,_,_,h,_=>by omega
 | f+1,cur,hops,[],p,cd,hp,hc,hk,_,_,_=>⟨_,rfl,fun k e=>by cases e;exact⟨p,cd,hp,hc,hk⟩⟩
 | f+1,cur,hops,nm::rest,p,cd,hp,hc,hk,hh,hm,hf=>by
  simp only[Jk,hc]
  cases h1:decide (cd.kind≠1) with
  | true=>exact⟨_,rfl,fun k e=>by cases e⟩
  | false =>
   simp only[cond_false]
   cases h2:ql nm cd.kids with
   | none=>exact⟨_,rfl,fun k e=>by cases e⟩
   | some kid =>
    obtain⟨_,gx,kd,k1,_⟩:=W.kid _ _ _ _ _ hp hc h2
    simp only[k1]
    have hq:M.at (p++[nm])=some kid:=at_snoc.2 ⟨cur,cd,hp,hc,h2⟩
    simp only[List.length_cons] at hm
    cases h3:(decide (kd.kind≠3)||(rest.isEmpty&&!follow)) with
    | true =>
     simp only[cond_true]
     refine Wf.walk hq k1 (fun e=>?_) hh (by omega) (by omega)
     subst e
     simpa using h3
    | false =>
     simp only[cond_false]
     cases h4:Nat.blt 7 hops with
     | true=>exact⟨_,rfl,fun k e=>by cases e⟩
     | false =>
      rw[← Bool.not_eq_true,Nat.blt_eq] at h4
      have hb:=W.bound _ _ hp
      rw[cond_false,(W.path20 hp).1]
      have b1:(Nat.ble (qu [47] p).length 1000&&(zs (qu [47] p)&&zs kd.data))=true:=by rw[Nat.ble_eq.mpr (by omega:(qu [47] p).length≤1000)];rfl
      simp only[b1,cond_true]
      cases h5:Yj (qu [47] p) kd.data with
      | inr n=>exact⟨_,rfl,fun k e=>by cases e⟩
      | inl names =>
       have hg:=VO h5
       have b2:Nat.ble (names.length+rest.length) 50000=true:=Nat.ble_eq.mpr (by omega)
       simp only[b2,cond_true]
       obtain⟨rd,r1,r2,r3⟩:=W.root
       exact Wf.walk (p:=[]) rfl r1 (fun _=>by rw[r2];decide) (by omega) (by simp only[List.length_append];omega) (by omega)
theorem Wf.names {b:List Nat}:∃ o,Yp M.T M.cwd b=some o∧∀ names,o=.inl names→(∀ nm∈names,Good nm)∧names.length≤8∧(qu [47] names).length≤140:=by
 obtain⟨p,cd,h1,h2,h3⟩:=W.cwd
 have hb:=W.bound _ _ h1
 unfold Yp
 rw[(W.path20 h1).1]
 have b1:(Nat.ble (qu [47] p).length 1000&&(zs (qu [47] p)&&zs b))=true:=by rw[Nat.ble_eq.mpr (by omega:(qu [47] p).length≤1000)];rfl
 simp only[b1,cond_true]
 cases h5:Yj (qu [47] p) b with
 | inr n=>exact⟨_,rfl,fun k e=>by cases e⟩
 | inl names =>
  have hg:=VO h5
  have b2:Nat.ble names.length 50000=true:=Nat.ble_eq.mpr (by omega)
  simp only[b2,cond_true]
  exact⟨_,rfl,fun k e=>by cases e;exact hg⟩
theorem Wf.find {b:List Nat} {follow:Bool}:∃ o,zE M.T M.root M.cwd b follow=some o∧∀ k,o=.inl k→∃ q kd,M.at q=some k∧M.T k=some kd∧(follow=true→kd.kind≠3):=by
 obtain⟨o,h1,h2⟩:=W.names (b:=b)
 unfold zE
 rw[h1]
 cases o with
 | inr n=>exact⟨_,rfl,fun k e=>by cases e⟩
 | inl names =>
  obtain⟨rd,r1,r2,r3⟩:=W.root
  exact W.walk (p:=[]) rfl r1 (fun _=>by rw[r2];decide) (by omega) (by have:=(h2 _ rfl).2.1;omega) (by omega)
theorem Wf.place {b:List Nat}:∃ o,zy M.T M.root M.cwd b=some o∧∀ u nm,o=.inl (u,nm)→∃ q ud,M.at q=some u∧M.T u=some ud∧ud.kind=1∧Good nm:=by
 obtain⟨o,h1,h2⟩:=W.names (b:=b)
 unfold zy
 rw[h1]
 cases o with
 | inr n=>exact⟨_,rfl,fun k nm e=>by cases e⟩
 | inl names =>
  have hg:=h2 _ rfl
  simp only
  cases h3:names[names.length - 1]? with
  | none=>exact⟨_,rfl,fun k nm e=>by cases e⟩
  | some nm =>
   obtain⟨rd,r1,r2,r3⟩:=W.root
   obtain⟨w,w1,w2⟩:=W.walk (follow:=true) (f:=200) (names:=names.take (names.length - 1)) (p:=[]) rfl r1 (fun _=>by rw[r2];decide) (Nat.zero_le 8) (by simp only[List.length_take];omega) (by omega)
   simp only[w1]
   cases w with
   | inr n=>exact⟨_,rfl,fun k nm e=>by cases e⟩
   | inl u =>
    obtain⟨q,ud,u1,u2,_⟩:=w2 u rfl
    simp only[u2]
    cases h4:decide (ud.kind≠1) with
    | true=>exact⟨_,rfl,fun k nm e=>by cases e⟩
    | false =>
     refine⟨_,rfl,fun k nm' e=>?_⟩
     cases e
     exact⟨q,ud,u1,u2,by simpa using h4,hg.1 _ (List.mem_of_getElem? h3)⟩
end
end Go.AX
namespace Go.AX
open Go.Proofs Go.RowKit
set_option maxRecDepth 100000
set_option linter.unusedSimpArgs false
set_option linter.unusedVariables false
theorem Wf.vals {M M':Md} {cnt:Nat} (W:Wf M cnt) (hr:M'.root=M.root) (h8:M'.fds.length=8)
  (hT:∀ k,(M.T k=none∧M'.T k=none)∨∃ nd nd',M.T k=some nd∧M'.T k=some nd'∧nd'.kids=nd.kids∧nd'.up=nd.up∧nd'.name=nd.name∧nd'.kind=nd.kind∧Z7 ([],nd'.kind,nd'.mode,nd'.data)=true)
  (hcw:∃ p cd,M.at p=some M'.cwd∧M.T M'.cwd=some cd∧cd.kind=1) (hfd:∀ k,some k∈M'.fds→∃ nd,M.T k=some nd∧nd.kind=2):Wf M' cnt∧∀ p,M'.at p=M.at p:=by
 have hs:∀ i x,QA M'.T i x=QA M.T i x:=by
  intro i x
  unfold QA
  rcases hT i with⟨h1,h2⟩|⟨nd,nd',h1,h2,h3,_⟩
  ·rw[h1,h2]
  ·rw[h1,h2];simp only[h3]
 have ha:∀ p,M'.at p=M.at p:=fun p=>by unfold Md.at;rw[hr];exact Wa hs
 have fw:∀ k nd,M.T k=some nd→∃ nd',M'.T k=some nd'∧nd'.kids=nd.kids∧nd'.up=nd.up∧nd'.name=nd.name∧nd'.kind=nd.kind:=by
  intro k nd h
  rcases hT k with⟨h1,_⟩|⟨md,nd',h1,h2,h3,h4,h5,h6,_⟩
  ·rw[h] at h1;cases h1
  ·rw[h] at h1;cases h1;exact⟨nd',h2,h3,h4,h5,h6⟩
 have bw:∀ k nd',M'.T k=some nd'→∃ nd,M.T k=some nd∧nd'.kids=nd.kids∧nd'.up=nd.up∧nd'.name=nd.name∧nd'.kind=nd.kind∧Z7 ([],nd'.kind,nd'.mode,nd'.data)=true:=by
  intro k nd' h
  rcases hT k with⟨_,h1⟩|⟨nd,md,h1,h2,h3⟩
  ·rw[h] at h1;cases h1
  ·rw[h] at h2;cases h2;exact⟨nd,h1,h3⟩
 refine⟨⟨?_,?_,?_,?_,?_,?_,?_,?_,h8,?_⟩,ha⟩
 ·obtain⟨rd,r1,r2,r3⟩:=W.root
  obtain⟨nd',h1,h2,h3,h4,h5⟩:=fw _ _ r1
  exact⟨nd',by rw[hr];exact h1,by rw[h5];exact r2,by rw[h3];exact r3⟩
 ·intro p u ud nm j h1 h2 h3
  rw[ha] at h1
  obtain⟨nd,g1,g2,g3,g4,g5,_⟩:=bw _ _ h2
  rw[g2] at h3
  obtain⟨c1,c2,jd,c3,c4,c5⟩:=W.kid _ _ _ _ _ h1 g1 h3
  obtain⟨jd',d1,d2,d3,d4,d5⟩:=fw _ _ c3
  exact⟨by rw[g5];exact c1,c2,jd',d1,by rw[d3];exact c4,by rw[d4];exact c5⟩
 ·intro k nd h
  obtain⟨md,g1,g2,_⟩:=bw _ _ h
  rw[g2]
  exact W.nodup _ _ g1
 ·intro k nd h hk
  obtain⟨md,g1,g2,_⟩:=bw _ _ h
  rw[g2] at hk
  simp only[ha]
  exact W.kids _ _ g1 hk
 ·intro p k h
  rw[ha] at h
  exact W.bound _ _ h
 ·obtain⟨p,cd,h1,h2,h3⟩:=hcw
  obtain⟨nd',g1,_,_,_,g5⟩:=fw _ _ h2
  exact⟨p,nd',by rw[ha];exact h1,g1,by rw[g5];exact h3⟩
 ·intro k nd h
  obtain⟨md,_,_,_,_,_,g6⟩:=bw _ _ h
  exact g6
 ·intro k hk
  obtain⟨nd,h1,h2⟩:=hfd k hk
  obtain⟨nd',g1,_,_,_,g5⟩:=fw _ _ h1
  exact⟨nd',g1,by rw[g5];exact h2⟩
 ·obtain⟨R,r1,r2,r3⟩:=W.count
  exact⟨R,r1,fun p=>by rw[r2];simp only[ha],r3⟩
theorem qqi {M:Md} {k i:Nat} {nd':Nd} (h:k < M.nodes.length):(M.nodes.set k nd')[i]?=if i=k then some nd' else M.T i:=by
 rw[List.getElem?_set]
 by_cases e:k=i
 ·subst e;simp[h]
 ·have:i≠k:=fun e2=>e e2.symm
  simp[e,this,Md.T]
theorem Wf.setv {M:Md} {cnt:Nat} (W:Wf M cnt) {k:Nat} {nd nd':Nd} (hk:M.T k=some nd) (e1:nd'.kids=nd.kids) (e2:nd'.up=nd.up) (e3:nd'.name=nd.name) (e4:nd'.kind=nd.kind) (e5:Z7 ([],nd'.kind,nd'.mode,nd'.data)=true):Wf { M with nodes:=M.nodes.set k nd' } cnt∧∀ p,Md.at { M with nodes:=M.nodes.set k nd' } p=M.at p:=by
 refine W.vals rfl W.f8 (fun i=>?_) W.cwd W.fds
 have e:Md.T { M with nodes:=M.nodes.set k nd' } i=if i=k then some nd' else M.T i:=qqi (QP hk)
 rw[e]
 by_cases h:i=k
 ·subst h
  exact Or.inr ⟨nd,nd',hk,if_pos rfl,e1,e2,e3,e4,e5⟩
 ·rw[if_neg h]
  cases hi:M.T i with
  | none=>exact Or.inl ⟨rfl,rfl⟩
  | some md=>exact Or.inr ⟨md,md,rfl,rfl,rfl,rfl,rfl,rfl,W.rest _ _ hi⟩
theorem Wf.marks {M:Md} {cnt:Nat} (W:Wf M cnt) {cwd:Nat} {fds:List (Option Nat)} {many:Int} (h8:fds.length=8)
  (hcw:∃ p cd,M.at p=some cwd∧M.T cwd=some cd∧cd.kind=1) (hfd:∀ k,some k∈fds→∃ nd,M.T k=some nd∧nd.kind=2):Wf ⟨M.nodes,M.root,cwd,fds,many⟩ cnt:=by
 refine (W.vals (M':=⟨M.nodes,M.root,cwd,fds,many⟩) rfl h8 (fun i=>?_) hcw hfd).1
 cases hi:M.T i with
 | none=>exact Or.inl ⟨rfl,hi⟩
 | some md=>exact Or.inr ⟨md,md,rfl,hi,rfl,rfl,rfl,rfl,W.rest _ _ hi⟩
theorem Kv {M:Md} {k:Nat} (h:M.nodes.length≤k):M.T k=none:=by
 unfold Md.T
 exact List.getElem?_eq_none h
theorem Vg {s:Stp} {i k:Nat} (h:∀ x,s i x=none):∀ {l:List (List Nat)},zg s i l=some k↔l=[]∧k=i
 | []=>by simp[zg,eq_comm]
 | x::l=>by simp[zg,h x]
theorem Wf.add {M M':Md} {cnt:Nat} (W:Wf M cnt) {pu:List (List Nat)} {u:Nat} {ud nw:Nd} {nm:List Nat} (hp:M.at pu=some u) (hu:M.T u=some ud) (hk:ud.kind=1) (hl:ql nm ud.kids=none) (hg:Good nm)
  (hb:pu.length+1≤8∧(qu [47] (pu++[nm])).length≤140) (hn:cnt < 128) (e1:nw.kids=[]) (e2:nw.up=some u) (e3:nw.name=nm) (e4:Z7 ([],nw.kind,nw.mode,nw.data)=true)
  (hM:M'.nodes=M.nodes.set u { ud with kids:=setK nm M.nodes.length ud.kids }++[nw]) (hr:M'.root=M.root) (hc:M'.cwd=M.cwd) (hf:M'.fds=M.fds) :
  Wf M' (cnt+1)∧∀ p k,M'.at p=some k↔M.at p=some k∨(p=pu++[nm]∧k=M.nodes.length):=by
 have hul:=QP hu
 have hT:∀ k,M'.T k=if k=M.nodes.length then some nw else if k=u then some { ud with kids:=setK nm M.nodes.length ud.kids } else M.T k:=by
  intro k
  have e:M'.T k=(M.nodes.set u { ud with kids:=setK nm M.nodes.length ud.kids }++[nw])[k]?:=by unfold Md.T;rw[hM]
  rw[e]
  by_cases h1:k=M.nodes.length
  ·subst h1;simp
  ·rw[if_neg h1]
   by_cases h2:k < M.nodes.length
   ·rw[List.getElem?_append_left (by simpa using h2),qqi hul]
   ·rw[List.getElem?_eq_none (by simp;omega),if_neg (by omega),Kv (by omega)]
 have hTn:M.T M.nodes.length=none:=Kv (Nat.le_refl _)
 have hun:u≠M.nodes.length:=by omega
 have Tu:M'.T u=some { ud with kids:=setK nm M.nodes.length ud.kids }:=by rw[hT,if_neg hun,if_pos rfl]
 have Tn:M'.T M.nodes.length=some nw:=by rw[hT,if_pos rfl]
 have To:∀ k,k≠u→k≠M.nodes.length→M'.T k=M.T k:=fun k h1 h2=>by rw[hT,if_neg h2,if_neg h1]
 have s0:QA M.T u nm=none:=by rw[zo hu];exact hl
 have s1:QA M'.T u nm=some M.nodes.length:=by rw[zo Tu];simp[Zq]
 have s2:∀ i x,¬ (i=u∧x=nm)→QA M'.T i x=QA M.T i x:=by
  intro i x h
  by_cases h1:i=u
  ·subst h1
   have:x≠nm:=fun e=>h ⟨rfl,e⟩
   rw[zo Tu,zo hu]
   simp[Zq,this]
  ·by_cases h2:i=M.nodes.length
   ·subst h2
    rw[zo Tn,e1]
    unfold QA
    rw[hTn]
    rfl
   ·unfold QA
    rw[To i h1 h2]
 have sn:∀ x,QA M.T M.nodes.length x=none:=fun x=>by unfold QA;rw[hTn]
 have ha:∀ p k,M'.at p=some k↔M.at p=some k∨(p=pu++[nm]∧k=M.nodes.length):=by
  intro p k
  unfold Md.at
  rw[hr,qpb s0 s1 s2 (fun l e=>by have:=((Vg sn).1 e).2;omega)]
  refine or_congr_right ⟨?_,?_⟩
  ·rintro⟨q,l,e,hq,hl⟩
   obtain⟨rfl,rfl⟩:=(Vg sn).1 hl
   rw[W.uniq hp hq]
   exact⟨e,rfl⟩
  ·rintro⟨e,rfl⟩
   exact⟨pu,[],e,hp,rfl⟩
 have na:∀ k,M.at (pu++[nm])≠some k:=by
  intro k h
  obtain⟨u',ud',h1,h2,h3⟩:=at_snoc.1 h
  rw[hp] at h1
  cases h1
  rw[hu] at h2
  cases h2
  rw[hl] at h3
  cases h3
 have nz:∀ p,M.at p≠some M.nodes.length:=by
  intro p h
  obtain⟨nd,h1⟩:=W.node h
  rw[hTn] at h1
  cases h1
 refine⟨⟨?_,?_,?_,?_,?_,?_,?_,?_,?_,?_⟩,ha⟩
 ·obtain⟨rd,r1,r2,r3⟩:=W.root
  rw[hr]
  by_cases h:M.root=u
  ·rw[h,hu] at r1
   cases r1
   exact⟨{ ud with kids:=setK nm M.nodes.length ud.kids },by rw[h];exact Tu,r2,r3⟩
  ·exact⟨rd,by rw[To _ h (fun e=>by rw[e,hTn] at r1;cases r1)];exact r1,r2,r3⟩
 ·intro p v vd x j h1 h2 h3
  have old:∀ v vd,M.at p=some v→M.T v=some vd→ql x vd.kids=some j→vd.kind=1∧Good x∧∃ jd,M'.T j=some jd∧jd.up=some v∧jd.name=x:=by
   intro v vd g1 g2 g3
   obtain⟨c1,c2,jd,c3,c4,c5⟩:=W.kid _ _ _ _ _ g1 g2 g3
   refine⟨c1,c2,?_⟩
   have hj:j≠M.nodes.length:=fun e=>by rw[e,hTn] at c3;cases c3
   by_cases h:j=u
   ·subst h
    rw[hu] at c3
    cases c3
    exact⟨_,Tu,c4,c5⟩
   ·exact⟨jd,by rw[To _ h hj];exact c3,c4,c5⟩
  rcases (ha p v).1 h1 with g1|⟨rfl,rfl⟩
  ·by_cases hv:v=u
   ·subst hv
    rw[Tu] at h2
    cases h2
    rw[Zq] at h3
    by_cases hx:x=nm
    ·rw[if_pos hx] at h3
     cases h3
     subst hx
     exact⟨hk,hg,nw,Tn,e2,e3⟩
    ·rw[if_neg hx] at h3
     have:=old v ud g1 hu h3
     exact this
   ·have hv2:v≠M.nodes.length:=fun e=>nz p (by rw[← e];exact g1)
    rw[To _ hv hv2] at h2
    exact old _ _ g1 h2 h3
  ·rw[Tn] at h2
   cases h2
   rw[e1] at h3
   cases h3
 ·intro k nd h
  by_cases h1:k=u
  ·subst h1
   rw[Tu] at h
   cases h
   exact qjq (W.nodup _ _ hu) hl
  ·by_cases h2:k=M.nodes.length
   ·subst h2
    rw[Tn] at h
    cases h
    rw[e1]
    exact List.nodup_nil
   ·rw[To _ h1 h2] at h
    exact W.nodup _ _ h
 ·intro k nd h hks
  by_cases h1:k=u
  ·subst h1
   exact⟨pu,(ha _ _).2 (Or.inl hp)⟩
  ·by_cases h2:k=M.nodes.length
   ·subst h2
    rw[Tn] at h
    cases h
    exact absurd e1 hks
   ·rw[To _ h1 h2] at h
    obtain⟨p,hp⟩:=W.kids _ _ h hks
    exact⟨p,(ha _ _).2 (Or.inl hp)⟩
 ·intro p k h
  rcases (ha p k).1 h with h|⟨rfl,rfl⟩
  ·exact W.bound _ _ h
  ·exact⟨by simpa using hb.1,hb.2⟩
 ·obtain⟨p,cd,h1,h2,h3⟩:=W.cwd
  rw[hc]
  by_cases h:M.cwd=u
  ·rw[h] at h1 h2 ⊢
   rw[hu] at h2
   cases h2
   exact⟨p,_,(ha _ _).2 (Or.inl h1),Tu,h3⟩
  ·exact⟨p,cd,(ha _ _).2 (Or.inl h1),by rw[To _ h (fun e=>nz p (by rw[← e];exact h1))];exact h2,h3⟩
 ·intro k nd h
  by_cases h1:k=u
  ·subst h1
   rw[Tu] at h
   cases h
   have:=W.rest _ _ hu
   exact this
  ·by_cases h2:k=M.nodes.length
   ·subst h2
    rw[Tn] at h
    cases h
    exact e4
   ·rw[To _ h1 h2] at h
    exact W.rest _ _ h
 ·intro k h
  rw[hf] at h
  obtain⟨nd,h1,h2⟩:=W.fds k h
  by_cases h3:k=u
  ·subst h3
   rw[hu] at h1
   cases h1
   rw[hk] at h2
   cases h2
  ·exact⟨nd,by rw[To _ h3 (fun e=>by rw[e,hTn] at h1;cases h1)];exact h1,h2⟩
 ·rw[hf];exact W.f8
 ·obtain⟨R,r1,r2,r3,r4⟩:=W.count
  refine⟨(pu++[nm])::R,?_,?_,by simp[r3],by omega⟩
  ·rw[List.nodup_cons]
   refine⟨fun e=>?_,r1⟩
   obtain⟨_,k,hk⟩:=(r2 _).1 e
   exact na k hk
  ·intro p
   rw[List.mem_cons,r2]
   constructor
   ·rintro (rfl|⟨h1,k,h2⟩)
    ·exact⟨by simp,_,(ha _ _).2 (Or.inr ⟨rfl,rfl⟩)⟩
    ·exact⟨h1,k,(ha _ _).2 (Or.inl h2)⟩
   ·rintro⟨h1,k,h2⟩
    rcases (ha _ _).1 h2 with h2|⟨rfl,_⟩
    ·exact Or.inr ⟨h1,k,h2⟩
    ·exact Or.inl rfl
end Go.AX
namespace Go.AX
open Go.Proofs Go.RowKit
set_option maxRecDepth 100000
set_option linter.unusedSimpArgs false
set_option linter.unusedVariables false
theorem Wf.del {M M':Md} {cnt:Nat} (W:Wf M cnt) {pu:List (List Nat)} {u j:Nat} {ud jd:Nd} {nm:List Nat} (hp:M.at pu=some u) (hu:M.T u=some ud) (hl:ql nm ud.kids=some j) (hj:M.T j=some jd) (hjk:jd.kids=[]) (hjc:j≠M.cwd)
  (hM:M'.nodes=M.nodes.set u { ud with kids:=qH nm ud.kids }) (hr:M'.root=M.root) (hc:M'.cwd=M.cwd) (hf:M'.fds=M.fds) :
  1≤cnt∧Wf M' (cnt - 1):=by
 have hT:∀ k,M'.T k=if k=u then some { ud with kids:=qH nm ud.kids } else M.T k:=fun k=>by
  have:M'.T k=(M.nodes.set u { ud with kids:=qH nm ud.kids })[k]?:=by unfold Md.T;rw[hM]
  rw[this,qqi (QP hu)]
 have Tu:M'.T u=some { ud with kids:=qH nm ud.kids }:=by rw[hT,if_pos rfl]
 have To:∀ k,k≠u→M'.T k=M.T k:=fun k h=>by rw[hT,if_neg h]
 have hpj:M.at (pu++[nm])=some j:=at_snoc.2 ⟨u,ud,hp,hu,hl⟩
 have s1:QA M'.T u nm=none:=by rw[zo Tu];simp[Ze (W.nodup _ _ hu)]
 have s2:∀ i x,¬ (i=u∧x=nm)→QA M'.T i x=QA M.T i x:=by
  intro i x h
  by_cases h1:i=u
  ·subst h1
   have:x≠nm:=fun e=>h ⟨rfl,e⟩
   rw[zo Tu,zo hu]
   simp[Ze (W.nodup _ _ hu),this]
  ·unfold QA
   rw[To i h1]
 have ha:∀ p k,M'.at p=some k↔M.at p=some k∧p≠pu++[nm]:=by
  intro p k
  unfold Md.at
  rw[hr,qik s1 s2]
  refine and_congr_right fun hk=>⟨fun h e=>h pu [] e hp,fun h q l e hq=>?_⟩
  have hq:M.at q=some u:=hq
  have:=W.uniq hp hq
  subst this
  cases l with
  | nil=>exact h e
  | cons x l =>
   subst e
   have e:pu++nm::x::l=(pu++[nm])++x::l:=by simp
   rw[e] at hk
   obtain⟨w,w1,w2⟩:=lookP_two.1 hk
   have w1:M.at (pu++[nm])=some w:=w1
   rw[hpj] at w1
   cases w1
   simp only[zg,zo hj,hjk,ql] at w2
   cases w2
 have fw:∀ k nd,M.T k=some nd→∃ nd',M'.T k=some nd'∧nd'.up=nd.up∧nd'.name=nd.name∧nd'.kind=nd.kind:=by
  intro k nd h
  by_cases h1:k=u
  ·subst h1
   rw[hu] at h
   cases h
   exact⟨_,Tu,rfl,rfl,rfl⟩
  ·exact⟨nd,by rw[To k h1];exact h,rfl,rfl,rfl⟩
 have bw:∀ k nd',M'.T k=some nd'→∃ nd,M.T k=some nd∧(nd'.kids).Sublist nd.kids∧nd'.kind=nd.kind∧nd'.mode=nd.mode∧nd'.data=nd.data∧(∀ x i,ql x nd'.kids=some i→ql x nd.kids=some i):=by
  intro k nd' h
  by_cases h1:k=u
  ·subst h1
   rw[Tu] at h
   cases h
   refine⟨ud,hu,erase_sub,rfl,rfl,rfl,fun x i hx=>?_⟩
   rw[Ze (W.nodup _ _ hu)] at hx
   by_cases e:x=nm
   ·rw[if_pos e] at hx;cases hx
   ·rw[if_neg e] at hx;exact hx
  ·rw[To k h1] at h
   exact⟨nd',h,List.Sublist.refl _,rfl,rfl,rfl,fun _ _ h=>h⟩
 obtain⟨R,r1,r2,r3,r4⟩:=W.count
 have hin:pu++[nm]∈R:=(r2 _).2 ⟨by simp,j,hpj⟩
 have hpos:1≤cnt:=by rw[← r3];exact List.length_pos_of_mem hin
 refine⟨hpos,?_,?_,?_,?_,?_,?_,?_,?_,?_,?_⟩
 ·obtain⟨rd,q1,q2,q3⟩:=W.root
  obtain⟨nd',h1,h2,h3,h4⟩:=fw _ _ q1
  exact⟨nd',by rw[hr];exact h1,by rw[h4];exact q2,by rw[h2];exact q3⟩
 ·intro p v vd x i h1 h2 h3
  have h1:=((ha _ _).1 h1).1
  obtain⟨nd,g1,_,g3,_,_,g6⟩:=bw _ _ h2
  obtain⟨c1,c2,id,c3,c4,c5⟩:=W.kid _ _ _ _ _ h1 g1 (g6 _ _ h3)
  obtain⟨id',d1,d2,d3,_⟩:=fw _ _ c3
  exact⟨by rw[g3];exact c1,c2,id',d1,by rw[d2];exact c4,by rw[d3];exact c5⟩
 ·intro k nd h
  obtain⟨md,g1,g2,_⟩:=bw _ _ h
  exact List.Nodup.sublist (g2.map _) (W.nodup _ _ g1)
 ·intro k nd h hks
  obtain⟨md,g1,g2,_⟩:=bw _ _ h
  have:md.kids≠[]:=fun e=>by rw[e] at g2;exact hks (List.sublist_nil.1 g2)
  obtain⟨p,hp2⟩:=W.kids _ _ g1 this
  refine⟨p,(ha _ _).2 ⟨hp2,fun e=>?_⟩⟩
  subst e
  rw[hpj] at hp2
  cases hp2
  rw[hj] at g1
  cases g1
  exact this hjk
 ·exact fun p k h=>W.bound _ _ ((ha _ _).1 h).1
 ·obtain⟨p,cd,h1,h2,h3⟩:=W.cwd
  obtain⟨nd',g1,_,_,g4⟩:=fw _ _ h2
  rw[hc]
  refine⟨p,nd',(ha _ _).2 ⟨h1,fun e=>?_⟩,g1,by rw[g4];exact h3⟩
  rw[e,hpj] at h1
  cases h1
  exact hjc rfl
 ·intro k nd h
  obtain⟨md,g1,_,g3,g4,g5,_⟩:=bw _ _ h
  rw[g3,g4,g5]
  exact W.rest _ _ g1
 ·intro k h
  rw[hf] at h
  obtain⟨nd,h1,h2⟩:=W.fds k h
  obtain⟨nd',g1,_,_,g4⟩:=fw _ _ h1
  exact⟨nd',g1,by rw[g4];exact h2⟩
 ·rw[hf];exact W.f8
 ·refine⟨R.erase (pu++[nm]),List.Nodup.erase _ r1,fun p=>?_,by rw[List.length_erase_of_mem hin,r3],by omega⟩
  rw[List.Nodup.mem_erase_iff r1,r2]
  constructor
  ·rintro⟨h1,h2,k,h3⟩
   exact⟨h2,k,(ha _ _).2 ⟨h3,h1⟩⟩
  ·rintro⟨h2,k,h3⟩
   obtain⟨h4,h5⟩:=(ha _ _).1 h3
   exact⟨h5,h2,k,h4⟩
open Classical in
noncomputable def reP (po pn p:List (List Nat)):List (List Nat):=if h:∃ l,p=po++l then pn++h.choose else p
theorem qd7 {po pn l:List (List Nat)}:reP po pn (po++l)=pn++l:=by
 have h:∃ r,po++l=po++r:=⟨l,rfl⟩
 unfold reP
 rw[dif_pos h]
 rw[← List.append_cancel_left h.choose_spec]
theorem W6 {po pn p:List (List Nat)} (h:¬ ∃ l,p=po++l):reP po pn p=p:=by
 unfold reP
 rw[dif_neg h]
theorem Wf.mv {M M':Md} {cnt:Nat} (W:Wf M cnt) {pu pv:List (List Nat)} {u v j:Nat} {ud vd jd:Nd} {old nm:List Nat} (hp:M.at pu=some u) (hu:M.T u=some ud) (hl:ql old ud.kids=some j) (hj:M.T j=some jd)
  (hq:M.at pv=some v) (hv:M.T v=some vd) (hvk:vd.kind=1) (hg:Good nm) (hb:∀ q l,pv=q++l→M.at q≠some j)
  (hy:∀ k,ql nm vd.kids=some k→k≠j∧k≠M.cwd∧∃ kd,M.T k=some kd∧kd.kids=[])
  (hbd:∀ l k,zg (QA M.T) j l=some k→pv.length+1+l.length≤8∧(qu [47] (pv++nm::l)).length≤140)
  (hTv:M'.T v=some { vd with kids:=setK nm j (QK u v old ud vd).kids }) (hTu:u≠v→M'.T u=some { ud with kids:=qH old ud.kids }) (hTj:M'.T j=some { jd with up:=some v,name:=nm }) (hTo:∀ i,i≠v→i≠u→i≠j→M'.T i=M.T i)
  (hr:M'.root=M.root) (hc:M'.cwd=M.cwd) (hf:M'.fds=M.fds) :
  (ql nm vd.kids≠none→1≤cnt)∧Wf M' (if ql nm vd.kids=none then cnt else cnt - 1):=by
 have hpo:M.at (pu++[old])=some j:=at_snoc.2 ⟨u,ud,hp,hu,hl⟩
 have hbe:∀ l,M.at ((pu++[old])++l)≠some v:=by
  intro l h
  exact hb _ _ (W.uniq hq h) hpo
 have hbu:∀ l,M.at ((pu++[old])++l)≠some u:=by
  intro l h
  have:=congrArg List.length (W.uniq hp h)
  simp at this
 have hju:j≠u:=fun e=>hbu [] (by rw[List.append_nil,hpo,e])
 have hjv:j≠v:=fun e=>hbe [] (by rw[List.append_nil,hpo,e])
 have nd1:=W.nodup _ _ hu
 have nd2:=W.nodup _ _ hv
 -- the kids of v,less what goes
 have kv:∀ x,ql x (QK u v old ud vd).kids=if u=v∧x=old then none else ql x vd.kids:=by
  intro x
  unfold QK
  by_cases e:u=v
  ·subst e
   rw[hu] at hv
   cases hv
   rw[Nat.beq_refl,cond_true]
   simp only[Ze nd1]
   simp
  ·have:Nat.beq u v=false:=by rw[zN,decide_eq_false_iff_not];exact e
   rw[this,cond_false]
   simp[e]
 have kn:(keys (QK u v old ud vd).kids).Nodup:=by
  unfold QK
  cases Nat.beq u v with
  | true=>exact qau nd1
  | false=>exact nd2
 have hon:¬ (u=v∧nm=old):=by
  rintro⟨rfl,rfl⟩
  rw[hu] at hv
  cases hv
  exact (hy j hl).1 rfl
 let s1:Stp:=fun i x=>if i=u∧x=old then none else QA M.T i x
 let s2:Stp:=fun i x=>if i=v∧x=nm then none else s1 i x
 have a1:s1 u old=none:=if_pos ⟨rfl,rfl⟩
 have a2:∀ i x,¬ (i=u∧x=old)→s1 i x=QA M.T i x:=fun i x h=>if_neg h
 have b1:s2 v nm=none:=if_pos ⟨rfl,rfl⟩
 have b2:∀ i x,¬ (i=v∧x=nm)→s2 i x=s1 i x:=fun i x h=>if_neg h
 have c1:QA M'.T v nm=some j:=by rw[zo hTv];simp[Zq]
 have c2:∀ i x,¬ (i=v∧x=nm)→QA M'.T i x=s2 i x:=by
  intro i x h
  rw[b2 i x h]
  by_cases h1:i=v
  ·subst h1
   have hx:x≠nm:=fun e=>h ⟨rfl,e⟩
   rw[zo hTv]
   simp only[Zq,if_neg hx,kv]
   by_cases e:u=i∧x=old
   ·obtain⟨rfl,rfl⟩:=e
    rw[a1]
    simp
   ·rw[a2 i x (fun e2=>e ⟨e2.1.symm,e2.2⟩),zo hv]
    simp[e]
  ·by_cases h2:i=u
   ·subst h2
    rw[zo (hTu h1)]
    simp only[Ze nd1]
    by_cases e:x=old
    ·subst e;rw[a1];simp
    ·rw[a2 i x (fun e2=>e e2.2),zo hu];simp[e]
   ·rw[a2 i x (fun e=>h2 e.1)]
    by_cases h3:i=j
    ·subst h3
     rw[zo hTj,zo hj]
    ·unfold QA
     rw[hTo i h1 h2 h3]
 have at1:∀ p k,zg s1 M.root p=some k↔M.at p=some k∧¬ ∃ l,p=(pu++[old])++l:=by
  intro p k
  rw[qik a1 a2]
  refine and_congr_right fun hk=>⟨?_,fun h q l e hq2=>?_⟩
  ·rintro h ⟨l,e⟩
   exact h pu l (by rw[e];simp) hp
  ·have:=W.uniq hp hq2
   subst this
   exact h ⟨l,by rw[e];simp⟩
 have at2:∀ p k,zg s2 M.root p=some k↔M.at p=some k∧(¬ ∃ l,p=(pu++[old])++l)∧¬ ∃ l,p=(pv++[nm])++l:=by
  intro p k
  rw[qik b1 b2,at1,and_assoc]
  refine and_congr_right fun hk=>and_congr_right fun hA=>⟨?_,fun h q l e hq2=>?_⟩
  ·rintro h ⟨l,e⟩
   refine h pv l (by rw[e];simp) ((at1 _ _).2 ⟨hq,?_⟩)
   rintro⟨l,e⟩
   rw[e] at hq
   exact hbe l hq
  ·have:=W.uniq hq ((at1 _ _).1 hq2).1
   subst this
   exact h ⟨l,by rw[e];simp⟩
 have fromJ:∀ l k,zg (QA M.T) j l=some k↔M.at ((pu++[old])++l)=some k:=by
  intro l k
  unfold Md.at
  rw[lookP_two]
  constructor
  ·exact fun h=>⟨j,hpo,h⟩
  ·rintro⟨w,w1,w2⟩
   have w1:M.at (pu++[old])=some w:=w1
   rw[hpo] at w1
   cases w1
   exact w2
 have s2j:∀ l k,zg s2 j l=some k↔zg (QA M.T) j l=some k:=by
  intro l k
  have e1:zg s1 j l=zg (QA M.T) j l:=ZZ (v:=u) (nm:=old) a2 (fun q h=>hbu q ((fromJ _ _).1 h))
  have e2:zg s2 j l=zg s1 j l:=by
   refine ZZ (v:=v) (nm:=nm) b2 (fun q h=>hbe q ((fromJ _ _).1 ?_))
   rw[← ZZ (v:=u) (nm:=old) a2 (fun q h=>hbu q ((fromJ _ _).1 h))]
   exact h
  rw[e2,e1]
 have ha:∀ p k,M'.at p=some k↔(M.at p=some k∧(¬ ∃ l,p=(pu++[old])++l)∧¬ ∃ l,p=(pv++[nm])++l)∨∃ l,p=(pv++[nm])++l∧M.at ((pu++[old])++l)=some k:=by
  intro p k
  have:M'.at p=zg (QA M'.T) M.root p:=by unfold Md.at;rw[hr]
  rw[this,qpb b1 c1 c2 (fun l h=>hbe l ((fromJ _ _).1 ((s2j _ _).1 h))),at2]
  refine or_congr_right ⟨?_,?_⟩
  ·rintro⟨q,l,e,h1,h2⟩
   have:=W.uniq hq ((at2 _ _).1 h1).1
   subst this
   exact⟨l,by rw[e];simp,(fromJ _ _).1 ((s2j _ _).1 h2)⟩
  ·rintro⟨l,e,h⟩
   refine⟨pv,l,by rw[e];simp,(at2 _ _).2 ⟨hq,?_,?_⟩,(s2j _ _).2 ((fromJ _ _).2 h)⟩
   ·rintro⟨l,e⟩
    rw[e] at hq
    exact hbe l hq
   ·rintro⟨l,e⟩
    have:=congrArg List.length e
    simp at this
 have below_y:∀ l k,M.at ((pv++[nm])++l)=some k→l=[]∧ql nm vd.kids=some k:=by
  intro l k h
  obtain⟨w,w1,w2⟩:=lookP_two.1 h
  obtain⟨v',vd',v1,v2,v3⟩:=at_snoc.1 w1
  rw[hq] at v1
  cases v1
  rw[hv] at v2
  cases v2
  obtain⟨_,_,kd,k1,k2⟩:=hy _ v3
  cases l with
  | nil=>cases w2;exact⟨rfl,v3⟩
  | cons x l =>
   simp only[zg,zo k1,k2,ql] at w2
   cases w2
 have fw:∀ i nd,M.T i=some nd→∃ nd',M'.T i=some nd'∧nd'.kind=nd.kind∧(i≠j→nd'.up=nd.up∧nd'.name=nd.name):=by
  intro i nd h
  by_cases h1:i=v
  ·subst h1;rw[hv] at h;cases h;exact⟨_,hTv,rfl,fun _=>⟨rfl,rfl⟩⟩
  ·by_cases h2:i=u
   ·subst h2;rw[hu] at h;cases h;exact⟨_,hTu h1,rfl,fun _=>⟨rfl,rfl⟩⟩
   ·by_cases h3:i=j
    ·subst h3;rw[hj] at h;cases h;exact⟨_,hTj,rfl,fun e=>absurd rfl e⟩
    ·exact⟨nd,by rw[hTo i h1 h2 h3];exact h,rfl,fun _=>⟨rfl,rfl⟩⟩
 have bw:∀ i nd',M'.T i=some nd'→∃ nd,M.T i=some nd∧nd'.kind=nd.kind∧nd'.mode=nd.mode∧nd'.data=nd.data∧(i≠v→nd'.kids.Sublist nd.kids)∧(keys nd'.kids).Nodup:=by
  intro i nd' h
  by_cases h1:i=v
  ·subst h1
   rw[hTv] at h;cases h
   refine⟨vd,hv,rfl,rfl,rfl,fun e=>absurd rfl e,?_⟩
   by_cases e:ql nm (QK u i old ud vd).kids=none
   ·exact qjq kn e
   ·have:∀ {l:Kids},(keys l).Nodup→(keys (setK nm j l)).Nodup:=by
     intro l
     induction l with
     | nil=>intro _;simp[setK,keys]
     | cons q l ih =>
      obtain⟨r,z⟩:=q
      intro hn
      simp only[keys,List.map_cons,List.nodup_cons] at hn
      simp only[setK]
      cases e:eqB nm r with
      | true =>
       rw[cond_true]
       have:=eqB_eq.1 e
       subst this
       simp only[keys,List.map_cons,List.nodup_cons]
       exact hn
      | false =>
       rw[cond_false]
       simp only[keys,List.map_cons,List.nodup_cons]
       refine⟨fun hm=>?_,ih hn.2⟩
       have hx:ql r (setK nm j l)≠none:=fun h=>lookK_none.1 h hm
       rw[Zq,if_neg (fun e2=>eqB_ne.1 e e2.symm)] at hx
       exact hx (lookK_none.2 hn.1)
    exact this kn
  ·by_cases h2:i=u
   ·subst h2;rw[hTu h1] at h;cases h;exact⟨ud,hu,rfl,rfl,rfl,fun _=>erase_sub,qau nd1⟩
   ·by_cases h3:i=j
    ·subst h3;rw[hTj] at h;cases h;exact⟨jd,hj,rfl,rfl,rfl,fun _=>List.Sublist.refl _,by have:=W.nodup _ _ hj;exact this⟩
    ·rw[hTo i h1 h2 h3] at h;exact⟨nd',h,rfl,rfl,rfl,fun _=>List.Sublist.refl _,W.nodup _ _ h⟩
 -- where an old node is now
 have now:∀ p k,M.at p=some k→(¬ ∃ l,p=(pv++[nm])++l)→∃ p',M'.at p'=some k:=by
  intro p k h hB
  by_cases hA:∃ l,p=(pu++[old])++l
  ·obtain⟨l,rfl⟩:=hA
   exact⟨_,(ha _ _).2 (Or.inr ⟨l,rfl,h⟩)⟩
  ·exact⟨p,(ha _ _).2 (Or.inl ⟨h,hA,hB⟩)⟩
 have was:∀ p k,M'.at p=some k→∃ p0,M.at p0=some k:=by
  intro p k h
  rcases (ha _ _).1 h with h|⟨l,_,h⟩
  ·exact⟨p,h.1⟩
  ·exact⟨_,h⟩
 obtain⟨R,r1,r2,r3,r4⟩:=W.count
 have hin:ql nm vd.kids≠none→pv++[nm]∈R:=by
  intro h
  cases e:ql nm vd.kids with
  | none=>exact absurd e h
  | some k=>exact (r2 _).2 ⟨by simp,k,at_snoc.2 ⟨v,vd,hq,hv,e⟩⟩
 refine⟨fun h=>by rw[← r3];exact List.length_pos_of_mem (hin h),?_,?_,?_,?_,?_,?_,?_,?_,?_,?_⟩
 ·obtain⟨rd,q1,q2,q3⟩:=W.root
  obtain⟨nd',h1,h2,h3⟩:=fw _ _ q1
  have:M.root≠j:=fun e=>by
   have:=W.uniq (p:=[]) (q:=pu++[old]) (k:=M.root) rfl (by rw[e];exact hpo)
   simp at this
  exact⟨nd',by rw[hr];exact h1,by rw[h2];exact q2,by rw[(h3 this).1];exact q3⟩
 ·intro p w wd x i h1 h2 h3
  obtain⟨wd0,g1,g2,_⟩:=bw _ _ h2
  obtain⟨p0,hp0⟩:=was _ _ h1
  by_cases e:w=v∧x=nm
  ·obtain⟨rfl,rfl⟩:=e
   have hi:=c1
   rw[zo h2,h3] at hi
   cases hi
   rw[hv] at g1
   cases g1
   exact⟨by rw[g2];exact hvk,hg,_,hTj,rfl,rfl⟩
  ·have hi:=c2 w x e
   rw[zo h2,h3,b2 w x e] at hi
   have e2:¬ (w=u∧x=old):=fun e2=>by rw[e2.1,e2.2,a1] at hi;cases hi
   rw[a2 w x e2,zo g1] at hi
   obtain⟨d1,d2,id,d3,d4,d5⟩:=W.kid _ _ _ _ _ hp0 g1 hi.symm
   have hij:i≠j:=by
    intro e3
    subst e3
    have:=W.uniq hpo (at_snoc.2 ⟨w,wd0,hp0,g1,hi.symm⟩)
    obtain⟨rfl,e4⟩:=List.append_inj' this rfl
    rw[hp] at hp0
    cases hp0
    simp at e4
    exact e2 ⟨rfl,e4.symm⟩
   obtain⟨id',f1,f2,f3⟩:=fw _ _ d3
   exact⟨by rw[g2];exact d1,d2,id',f1,by rw[(f3 hij).1];exact d4,by rw[(f3 hij).2];exact d5⟩
 ·intro k nd h
  obtain⟨_,_,_,_,_,_,g⟩:=bw _ _ h
  exact g
 ·intro k nd h hks
  by_cases h1:k=v
  ·subst h1
   refine now pv k hq ?_
   rintro⟨l,e⟩
   have:=congrArg List.length e
   simp at this
  ·obtain⟨md,g1,_,_,_,g5,_⟩:=bw _ _ h
   have hmk:md.kids≠[]:=fun e=>by have:=g5 h1;rw[e] at this;exact hks (List.sublist_nil.1 this)
   obtain⟨p,hp2⟩:=W.kids _ _ g1 hmk
   refine now p k hp2 ?_
   rintro⟨l,rfl⟩
   obtain⟨rfl,hy2⟩:=below_y _ _ hp2
   obtain⟨_,_,kd,k1,k2⟩:=hy _ hy2
   rw[g1] at k1
   cases k1
   exact hmk k2
 ·intro p k h
  rcases (ha _ _).1 h with h'|⟨l,rfl,h'⟩
  ·exact W.bound _ _ h'.1
  ·have:=hbd l k ((fromJ _ _).2 h')
   simp only[List.length_append,List.length_cons,List.length_nil] at this ⊢
   refine⟨by omega,?_⟩
   have e:pv++[nm]++l=pv++nm::l:=by simp
   rw[e]
   exact this.2
 ·obtain⟨p,cd,h1,h2,h3⟩:=W.cwd
  obtain⟨nd',g1,g2,_⟩:=fw _ _ h2
  have hB:¬ ∃ l,p=(pv++[nm])++l:=by
   rintro⟨l,rfl⟩
   obtain⟨rfl,hy2⟩:=below_y _ _ h1
   exact (hy _ hy2).2.1 rfl
  obtain⟨p',hp'⟩:=now p _ h1 hB
  exact⟨p',nd',by rw[hc];exact hp',by rw[hc];exact g1,by rw[g2];exact h3⟩
 ·intro k nd h
  obtain⟨md,g1,g3,g4,g5,_⟩:=bw _ _ h
  rw[g3,g4,g5]
  exact W.rest _ _ g1
 ·intro k h
  rw[hf] at h
  obtain⟨nd,h1,h2⟩:=W.fds k h
  obtain⟨nd',g1,g2,_⟩:=fw _ _ h1
  exact⟨nd',g1,by rw[g2];exact h2⟩
 ·rw[hf];exact W.f8
 ·have hR:∀ p,p∈R.erase (pv++[nm])↔p≠[]∧(∃ k,M.at p=some k)∧¬ ∃ l,p=(pv++[nm])++l:=by
   intro p
   rw[List.Nodup.mem_erase_iff r1,r2]
   constructor
   ·rintro⟨h1,h2,k,h3⟩
    refine⟨h2,⟨k,h3⟩,?_⟩
    rintro⟨l,rfl⟩
    obtain⟨rfl,_⟩:=below_y _ _ h3
    exact h1 (by simp)
   ·rintro⟨h1,h2,h3⟩
    exact⟨fun e=>h3 ⟨[],by rw[e];simp⟩,h1,h2⟩
  have hrp:∀ p,(∃ k,M.at p=some k)→(¬ ∃ l,p=(pv++[nm])++l)→(¬ ∃ l,p=(pu++[old])++l)→∀ l,p≠(pv++[nm])++l:=fun p _ h _ l e=>h ⟨l,e⟩
  refine⟨(R.erase (pv++[nm])).map (reP (pu++[old]) (pv++[nm])),?_,?_,?_,?_⟩
  ·unfold List.Nodup
   rw[List.pairwise_map]
   refine List.Pairwise.imp_of_mem ?_ (List.Nodup.erase _ r1)
   intro a b ha2 hb2 hab e
   obtain⟨_,_,a3⟩:=(hR a).1 ha2
   obtain⟨_,_,b3⟩:=(hR b).1 hb2
   by_cases hA:∃ l,a=(pu++[old])++l
   ·obtain⟨l,rfl⟩:=hA
    rw[qd7] at e
    by_cases hB:∃ l,b=(pu++[old])++l
    ·obtain⟨l',rfl⟩:=hB
     rw[qd7] at e
     exact hab (by rw[List.append_cancel_left e])
    ·rw[W6 hB] at e
     exact b3 ⟨l,e.symm⟩
   ·rw[W6 hA] at e
    by_cases hB:∃ l,b=(pu++[old])++l
    ·obtain⟨l',rfl⟩:=hB
     rw[qd7] at e
     exact a3 ⟨l',e⟩
    ·rw[W6 hB] at e
     exact hab e
  ·intro p
   rw[List.mem_map]
   constructor
   ·rintro⟨q,h1,rfl⟩
    obtain⟨q1,⟨k,q2⟩,q3⟩:=(hR q).1 h1
    by_cases hA:∃ l,q=(pu++[old])++l
    ·obtain⟨l,rfl⟩:=hA
     rw[qd7]
     exact⟨by simp,k,(ha _ _).2 (Or.inr ⟨l,rfl,q2⟩)⟩
    ·rw[W6 hA]
     exact⟨q1,k,(ha _ _).2 (Or.inl ⟨q2,hA,q3⟩)⟩
   ·rintro⟨h1,k,h2⟩
    rcases (ha _ _).1 h2 with⟨h3,h4,h5⟩|⟨l,rfl,h3⟩
    ·exact⟨p,(hR p).2 ⟨h1,⟨k,h3⟩,h5⟩,W6 h4⟩
    ·refine⟨(pu++[old])++l,(hR _).2 ⟨by simp,⟨k,h3⟩,?_⟩,qd7⟩
     rintro⟨r,e⟩
     rw[e] at h3
     obtain⟨rfl,hy2⟩:=below_y _ _ h3
     rw[List.append_nil] at h3 e
     -- y lies below j: so does v
     by_cases hl0:l=[]
     ·subst hl0
      rw[List.append_nil] at e
      rw[← e,hpo] at h3
      cases h3
      exact (hy _ hy2).1 rfl
     ·obtain⟨l',z,rfl⟩:=Yk hl0
      have e3:((pu++[old])++l')++[z]=pv++[nm]:=by rw[← e];simp
      obtain⟨e4,_⟩:=List.append_inj' e3 rfl
      rw[← e4] at hq
      exact hbe _ hq
  ·rw[List.length_map]
   by_cases e:ql nm vd.kids=none
   ·rw[if_pos e,List.erase_of_not_mem,r3]
    intro hm
    obtain⟨_,k,hk⟩:=(r2 _).1 hm
    obtain⟨_,h⟩:=below_y [] k (by rw[List.append_nil];exact hk)
    rw[e] at h
    cases h
   ·rw[if_neg e,List.length_erase_of_mem (hin e),r3]
  ·by_cases e:ql nm vd.kids=none
   ·rw[if_pos e];exact r4
   ·rw[if_neg e];omega
end Go.AX
namespace Go.AX
open Go.Proofs Go.RowKit
set_option maxRecDepth 100000
set_option linter.unusedSimpArgs false
set_option linter.unusedVariables false
set_option linter.unusedSectionVars false
theorem q3g {m:Int} {d:List Nat}:Z7 ([],1,m,d)=true↔0≤m∧m≤511∧d=[]:=by
 have e:Z7 ([],1,m,d)=(bif decide (m ≥ 0) then bif decide (m≤511) then eqB d [] else false else false):=rfl
 rw[e]
 by_cases h1:m ≥ 0
 ·by_cases h2:m≤511
  ·simp[h1,h2,eqB_eq]
  ·simp[h1,h2]
 ·simp[h1];try (intro h;omega)
theorem qef {m:Int} {d:List Nat}:Z7 ([],2,m,d)=true↔0≤m∧m≤511∧d.length≤1024:=by
 have e:Z7 ([],2,m,d)=(bif decide (m ≥ 0) then bif decide (m≤511) then decide ((d.length:Int)≤1024) else false else false):=rfl
 rw[e]
 by_cases h1:m ≥ 0
 ·by_cases h2:m≤511
  ·simp[h1,h2];omega
  ·simp[h1,h2]
 ·simp[h1];try (intro h;omega)
theorem q3v {m:Int} {d:List Nat}:Z7 ([],3,m,d)=true↔m=511∧Qw d=true:=by
 have e:Z7 ([],3,m,d)=(bif m==511 then Qw d else false):=rfl
 rw[e]
 by_cases h1:m=511
 ·simp[h1]
 ·simp[h1]
theorem qet:∀ {n:Nat},(qds [0] n).length=n
 | 0=>rfl
 | n+1=>by simp only[qds,List.length_append,qet (n:=n)];simp;omega
theorem qmh {d:List Nat} {n:Nat}:(Y4 d n).length=n:=by
 unfold Y4
 cases h:Nat.ble n d.length with
 | true=>have:=Nat.le_of_ble_eq_true h;simp;omega
 | false =>
  have:¬ n≤d.length:=fun e=>by rw[Nat.ble_eq.mpr e] at h;cases h
  simp only[cond_false,List.length_append,qet];omega
theorem qa1 {d wd r:List Nat} {off:Int} (h:Zt d off wd=.inl r) (hd:d.length≤1024):r.length≤1024:=by
 unfold Zt at h
 cases h1:(decide (off < 0)||Nat.blt 512 wd.length) with
 | true=>rw[h1] at h;cases h
 | false =>
  rw[h1,cond_false] at h
  simp only[Bool.or_eq_false_iff,decide_eq_false_iff_not] at h1
  cases h2:decide (off > 1024 - (wd.length:Int)) with
  | true=>rw[h2] at h;cases h
  | false =>
   rw[h2,cond_false] at h
   simp only[decide_eq_false_iff_not] at h2
   cases h3:Nat.blt 0 wd.length with
   | false=>rw[h3] at h;cases h;exact hd
   | true =>
    rw[h3] at h
    cases h
    simp only[List.length_append,qmh,List.length_drop]
    omega
theorem qf1 {d r:List Nat} {off num:Int} (h:Jf d off num=.inl r):r.length≤d.length:=by
 unfold Jf at h
 cases h1:(decide (off < 0)||(decide (num < 0)||decide (num > 512))) with
 | true=>rw[h1] at h;cases h
 | false =>
  rw[h1] at h
  cases h
  simp only[List.length_take,List.length_drop]
  omega
theorem qoq {l r:List (List Nat)}:(qu [47] r).length≤(qu [47] (l++r)).length:=by
 by_cases h1:l=[]
 ·subst h1;simp
 ·by_cases h2:r=[]
  ·subst h2;simp[qu]
  ·rw[qfn h1 h2];simp;omega
section
variable {M:Md} {cnt:Nat} (W:Wf M cnt)
include W
theorem Wf.belowJ {top:Nat} {p:List (List Nat)}:∀ {f i:Nat},M.at p=some i→p.length < f→∃ b,Zm M.T top f i=some b∧(b=false→∀ q l,p=q++l→M.at q≠some top):=by
 generalize hn:p.length=n
 induction n generalizing p with
 | zero =>
  intro f i hp hf
  have e:=List.length_eq_zero_iff.1 hn
  subst e
  obtain⟨f,rfl⟩:∃ g,f=g+1:=⟨f - 1,by omega⟩
  obtain⟨rd,r1,r2,r3⟩:=W.root
  have hi:i=M.root:=by cases hp;rfl
  subst hi
  simp only[Zm,r1,r3]
  cases h:Nat.beq M.root top with
  | true=>exact⟨_,rfl,fun e=>by cases e⟩
  | false =>
   refine⟨_,rfl,fun _ q l e h2=>?_⟩
   have e:=(List.append_eq_nil_iff.1 e.symm).1
   subst e
   cases h2
   rw[Nat.beq_refl] at h
   cases h
 | succ n ih =>
  intro f i hp hf
  obtain⟨f,rfl⟩:∃ g,f=g+1:=⟨f - 1,by omega⟩
  have e:p≠[]:=fun e=>by rw[e] at hn;cases hn
  obtain⟨p,x,rfl⟩:=Yk e
  obtain⟨u,ud,h1,h2,h3⟩:=at_snoc.1 hp
  obtain⟨_,_,jd,h4,h5,_⟩:=W.kid _ _ _ _ _ h1 h2 h3
  simp only[Zm,h4,h5]
  cases h:Nat.beq i top with
  | true=>exact⟨_,rfl,fun e=>by cases e⟩
  | false =>
   obtain⟨b,b1,b2⟩:=ih (by simpa using hn) h1 (f:=f) (by omega)
   refine⟨b,b1,fun hb q l e hq=>?_⟩
   by_cases hl:l=[]
   ·subst hl
    rw[List.append_nil] at e
    subst e
    rw[hp] at hq
    cases hq
    rw[Nat.beq_refl] at h
    cases h
   ·obtain⟨l,y,rfl⟩:=Yk hl
    rw[← List.append_assoc] at e
    obtain⟨e,_⟩:=List.append_inj' e rfl
    exact b2 hb q l e hq
theorem Wf.each {dp lg:Nat} {P:List (List Nat)}:∀ {f i:Nat} {ps:List (List Nat)},M.at (P++ps)=some i→9≤(P++ps).length+f →
  ∃ b,Ja M.T dp lg f i (qu [47] ps)=some b∧(b=true→∀ l k,l≠[]→M.at (P++ps++l)=some k→Qy (dp+(ps++l).length) (lg+1+(qu [47] (ps++l)).length)=true)
 | 0,i,ps,hp,hf=>by have:=(W.bound _ _ hp).1;omega
 | f+1,i,ps,hp,hf=>by
  obtain⟨nd,hn⟩:=W.node hp
  have gp:=W.good hp
  have key:∀ names:List (List Nat),(∀ nm∈names,nm∈keys nd.kids)→∃ b,WT dp lg (Ja M.T dp lg f) nd.kids (qu [47] ps) names=some b∧(b=true→∀ nm∈names,∀ l k,M.at (P++ps++nm::l)=some k→Qy (dp+(ps++nm::l).length) (lg+1+(qu [47] (ps++nm::l)).length)=true):=by
   intro names
   induction names with
   | nil=>exact fun _=>⟨true,rfl,fun _ nm h=>by cases h⟩
   | cons nm names ih =>
    intro hm
    obtain⟨b,b1,b2⟩:=ih (fun x hx=>hm x (List.mem_cons_of_mem _ hx))
    cases hl:ql nm nd.kids with
    | none=>exact absurd (hm nm (by simp)) (lookK_none.1 hl)
    | some j =>
     have gn:=W.kgood hn nm (hm nm (by simp))
     have hj:M.at (P++(ps++[nm]))=some j:=by rw[← List.append_assoc];exact at_snoc.2 ⟨i,nd,hp,hn,hl⟩
     have gj:∀ x∈ps++[nm],Good x:=fun x hx=>W.good hj x (List.mem_append_right _ hx)
     have ej:zd (qu [47] ps) nm=qu [47] (ps++[nm]):=Yu (fun x hx=>gj x (List.mem_append_left _ hx)) gn.1
     have bj:=W.bound _ _ hj
     have sj:=qoq (l:=P) (r:=ps++[nm])
     have s2:=JW (l:=ps) (nm:=nm)
     have gl:=gn.len
     have lp:(ps++[nm]).length≤8:=by have:=bj.1;simp at this ⊢;omega
     have c1:(Nat.ble (qu [47] (ps++[nm])).length 1000&&(Nat.ble ((qu [47] ps).length+nm.length) 1000000&&Nat.ble (ps++[nm]).length 1000))=true:=by
      rw[Nat.ble_eq.mpr (by omega),Nat.ble_eq.mpr (by omega),Nat.ble_eq.mpr (by omega)];rfl
     simp only[WT,hl,ej,zT gj,c1,cond_true]
     cases hfit:Qy (dp+(ps++[nm]).length) (lg+1+(qu [47] (ps++[nm])).length) with
     | false=>exact⟨false,rfl,fun e=>by cases e⟩
     | true =>
      obtain⟨b',d1,d2⟩:=Wf.each (dp:=dp) (lg:=lg) (f:=f) hj (by simp at hf ⊢;omega)
      simp only[cond_true,d1]
      cases b' with
      | false=>exact⟨false,rfl,fun e=>by cases e⟩
      | true =>
       refine⟨b,b1,fun hb x hx l k hk=>?_⟩
       rcases List.mem_cons.1 hx with rfl|hx
       ·by_cases e:l=[]
        ·subst e;exact hfit
        ·have e2:ps++x::l=ps++[x]++l:=by simp
         have e3:P++ps++x::l=P++(ps++[x])++l:=by simp
         rw[e3] at hk
         rw[e2]
         exact d2 rfl l k e hk
       ·exact b2 hb x hx l k hk
  obtain⟨b,b1,b2⟩:=key (Q0 (keys nd.kids)) (fun nm h=>sort_mem.1 h)
  simp only[Ja,hn,W.sort hn]
  refine⟨b,b1,fun hb l k hl hk=>?_⟩
  cases l with
  | nil=>exact absurd rfl hl
  | cons nm l =>
   refine b2 hb nm (sort_mem.2 ?_) l k hk
   obtain⟨w,w1,w2⟩:=lookP_two.1 hk
   have w1:M.at (P++ps)=some w:=w1
   rw[hp] at w1
   cases w1
   simp only[zg,zo hn] at w2
   cases hx:ql nm nd.kids with
   | none=>rw[hx] at w2;cases w2
   | some z=>exact List.mem_map.2 ⟨_,KI hx,rfl⟩
end
def qx3 (an:An):Prop:=an.data.length≤1024∧an.names.length≤128∧∀ nm∈an.names,Good nm
def Out (M:Md) (c:Cl) (r:Nat ⊕ (An × Md)):Prop :=
 qx3 (qgu M r).1∧(∃ n',Wf (qgu M r).2 n'∧(qgu M r).2.many=(n':Int))∧(qgu M r).2.root=M.root∧(qgu M r).2.nodes.length≤M.nodes.length+1∧((qgu M r).2.nodes=M.nodes∨((qgu M r).1.status=0∧5≤c.op∧c.op≤16∧c.op≠14∧c.op≠15))
theorem XH {a b c d:Int}:qx3 ⟨a,b,c,d,[],[]⟩:=⟨by simp,by simp,fun nm h=>by cases h⟩
section
variable {M:Md} {cnt:Nat} (W:Wf M cnt) (hm:M.many=(cnt:Int)) {c:Cl}
include W hm
theorem Out.inl {n:Nat}:Out M c (.inl n):=⟨XH,⟨cnt,W,hm⟩,rfl,Nat.le_succ _,Or.inl rfl⟩
theorem Out.same {an:An} (h:qx3 an):Out M c (.inr (an,M)):=⟨h,⟨cnt,W,hm⟩,rfl,Nat.le_succ _,Or.inl rfl⟩
theorem Out.marks {an:An} (h:qx3 an) {cwd:Nat} {fds:List (Option Nat)} (W':Wf ⟨M.nodes,M.root,cwd,fds,M.many⟩ cnt):Out M c (.inr (an,⟨M.nodes,M.root,cwd,fds,M.many⟩)):=⟨h,⟨cnt,W',hm⟩,rfl,Nat.le_succ _,Or.inl rfl⟩
theorem Out.setv {an:An} (h:qx3 an) (hs:an.status=0) (ho:5≤c.op∧c.op≤16∧c.op≠14∧c.op≠15) {k:Nat} {nd nd':Nd} (hk:M.T k=some nd) (e1:nd'.kids=nd.kids) (e2:nd'.up=nd.up) (e3:nd'.name=nd.name) (e4:nd'.kind=nd.kind) (e5:Z7 ([],nd'.kind,nd'.mode,nd'.data)=true):Out M c (.inr (an,{ M with nodes:=M.nodes.set k nd' })) :=
 ⟨h,⟨cnt,(W.setv hk e1 e2 e3 e4 e5).1,hm⟩,rfl,by show (M.nodes.set k nd').length≤_;simp,Or.inr ⟨hs,ho⟩⟩
theorem qy5:∃ r,do1 M c=some r∧Out M c r:=by
 obtain⟨o,h1,h2⟩:=W.find (b:=c.path) (follow:=false)
 unfold do1
 rw[h1]
 cases o with
 | inr n=>exact⟨_,rfl,Out.inl W hm⟩
 | inl k =>
  obtain⟨q,kd,_,k2,_⟩:=h2 k rfl
  simp only[k2]
  exact⟨_,rfl,Out.same W hm XH⟩
theorem qz3:∃ r,do2 M c=some r∧Out M c r:=by
 obtain⟨o,h1,h2⟩:=W.find (b:=c.path) (follow:=true)
 unfold do2
 rw[h1]
 cases o with
 | inr n=>exact⟨_,rfl,Out.inl W hm⟩
 | inl k =>
  obtain⟨q,kd,_,k2,_⟩:=h2 k rfl
  simp only[k2]
  cases decide (kd.kind=1) with
  | true=>exact⟨_,rfl,Out.inl W hm⟩
  | false =>
   simp only[cond_false]
   cases h:Jf kd.data c.off c.num with
   | inr e=>exact⟨_,rfl,Out.inl W hm⟩
   | inl d=>exact⟨_,rfl,Out.same W hm ⟨by have:=qf1 h;have:=W.data k2;show d.length≤1024;omega,by simp,fun nm h=>by cases h⟩⟩
theorem q18:∃ r,do3 M c=some r∧Out M c r:=by
 obtain⟨o,h1,h2⟩:=W.find (b:=c.path) (follow:=true)
 unfold do3
 rw[W.sorts,cond_true,h1]
 cases o with
 | inr n=>exact⟨_,rfl,Out.inl W hm⟩
 | inl k =>
  obtain⟨q,kd,_,k2,_⟩:=h2 k rfl
  simp only[k2,W.sort k2]
  cases decide (kd.kind=1) with
  | true =>
   refine⟨_,rfl,Out.same W hm ⟨by simp,?_,fun nm h=>W.kgood k2 nm (sort_mem.1 h)⟩⟩
   show (Q0 (keys kd.kids)).length≤128
   rw[qjj]
   have:=W.klen k2
   simpa [keys] using this
  | false=>exact⟨_,rfl,Out.inl W hm⟩
theorem q2g:∃ r,do4 M c=some r∧Out M c r:=by
 obtain⟨o,h1,h2⟩:=W.find (b:=c.path) (follow:=false)
 unfold do4
 rw[h1]
 cases o with
 | inr n=>exact⟨_,rfl,Out.inl W hm⟩
 | inl k =>
  obtain⟨q,kd,_,k2,_⟩:=h2 k rfl
  simp only[k2]
  cases decide (kd.kind=3) with
  | true=>exact⟨_,rfl,Out.same W hm ⟨W.data k2,by simp,fun nm h=>by cases h⟩⟩
  | false=>exact⟨_,rfl,Out.inl W hm⟩
theorem qvt (ho:c.op=10):∃ r,q0f M c=some r∧Out M c r:=by
 obtain⟨o,h1,h2⟩:=W.find (b:=c.path) (follow:=true)
 unfold q0f
 rw[h1]
 cases o with
 | inr n=>exact⟨_,rfl,Out.inl W hm⟩
 | inl k =>
  obtain⟨q,kd,_,k2,k3⟩:=h2 k rfl
  have k3:=k3 rfl
  simp only[k2]
  cases h:decide (c.mode < 0∨c.mode > 511) with
  | true=>exact⟨_,rfl,Out.inl W hm⟩
  | false =>
   simp only[decide_eq_false_iff_not,not_or] at h
   refine⟨_,rfl,Out.setv W hm XH rfl (by omega) k2 rfl rfl rfl rfl ?_⟩
   have hr:=W.rest _ _ k2
   show Z7 ([],kd.kind,c.mode,kd.data)=true
   rcases W.kindOf k2 with e|e|e
   ·rw[e] at hr ⊢;rw[q3g] at hr ⊢;exact⟨by omega,by omega,hr.2.2⟩
   ·rw[e] at hr ⊢;rw[qef] at hr ⊢;exact⟨by omega,by omega,hr.2.2⟩
   ·exact absurd e k3
theorem qx4 (ho:c.op=8) (hd:c.data.length≤10000000000000000000):∃ r,do8 M c=some r∧Out M c r:=by
 obtain⟨o,h1,h2⟩:=W.find (b:=c.path) (follow:=true)
 unfold do8
 rw[Nat.ble_eq.mpr hd,cond_true,h1]
 cases o with
 | inr n=>exact⟨_,rfl,Out.inl W hm⟩
 | inl k =>
  obtain⟨q,kd,_,k2,k3⟩:=h2 k rfl
  have k3:=k3 rfl
  simp only[k2]
  cases h:decide (kd.kind=1) with
  | true=>exact⟨_,rfl,Out.inl W hm⟩
  | false =>
   simp only[decide_eq_false_iff_not] at h
   have k4:kd.kind=2:=by rcases W.kindOf k2 with e|e|e;exact absurd e h;exact e;exact absurd e k3
   have hr:=W.rest _ _ k2
   rw[k4,qef] at hr
   simp only[cond_false]
   cases hw:Zt kd.data c.off c.data with
   | inr e=>exact⟨_,rfl,Out.inl W hm⟩
   | inl d =>
    have hl:=qa1 hw (W.data k2)
    simp only[Nat.ble_eq.mpr (show d.length≤40000 by omega),cond_true]
    refine⟨_,rfl,Out.setv W hm XH rfl (by omega) k2 rfl rfl rfl rfl ?_⟩
    show Z7 ([],kd.kind,kd.mode,d)=true
    rw[k4,qef]
    exact⟨hr.1,hr.2.1,hl⟩
theorem q1k (ho:c.op=9):∃ r,do9 M c=some r∧Out M c r:=by
 obtain⟨o,h1,h2⟩:=W.find (b:=c.path) (follow:=true)
 unfold do9
 rw[h1]
 cases o with
 | inr n=>exact⟨_,rfl,Out.inl W hm⟩
 | inl k =>
  obtain⟨q,kd,_,k2,k3⟩:=h2 k rfl
  have k3:=k3 rfl
  simp only[k2]
  cases h:decide (kd.kind=1) with
  | true=>exact⟨_,rfl,Out.inl W hm⟩
  | false =>
   simp only[decide_eq_false_iff_not] at h
   have k4:kd.kind=2:=by rcases W.kindOf k2 with e|e|e;exact absurd e h;exact e;exact absurd e k3
   have hr:=W.rest _ _ k2
   rw[k4,qef] at hr
   simp only[cond_false]
   cases h4:decide (c.num < 0) with
   | true=>exact⟨_,rfl,Out.inl W hm⟩
   | false =>
    simp only[cond_false]
    cases h5:decide (c.num > 1024) with
    | true=>exact⟨_,rfl,Out.inl W hm⟩
    | false =>
     simp only[decide_eq_false_iff_not] at h4 h5
     refine⟨_,rfl,Out.setv W hm XH rfl (by omega) k2 rfl rfl rfl rfl ?_⟩
     show Z7 ([],kd.kind,kd.mode,Y4 kd.data c.num.toNat)=true
     rw[k4,qef,qmh]
     exact⟨hr.1,hr.2.1,by omega⟩
theorem qhn (ho:5≤c.op∧c.op≤7) {kind mode:Int} {data:List Nat} {good:Bool} (hg:good=true→Z7 ([],kind,mode,data)=true) :
  ∃ r,(match zy M.T M.root M.cwd c.path with
 | none=>none
 | some (.inr n)=>some (.inl n)
 | some (.inl (u,nm))=>match M.T u with
  | none=>none
  | some ud=>match Qh M.T 20 u with
   | none=>none
   | some d=>match zM M.T 20 u with
    | none=>none
    | some p=>bif Nat.ble (p.length+nm.length) 1000000&&Nat.ble d 1000000 then (match ql nm ud.kids with
     | some _=>some (.inl 2)
     | none=>bif !good then some (.inl 5) else bif !Qy (d+1) (zd p nm).length then some (.inl 8) else bif decide (M.many ≥ 128) then some (.inl 10) else
      some (.inr (an0,qpk M u ud nm ⟨kind,mode,data,[],some u,nm,0⟩))) else none)=some r∧Out M c r:=by
 obtain⟨o,h1,h2⟩:=W.place (b:=c.path)
 rw[h1]
 cases o with
 | inr n=>exact⟨_,rfl,Out.inl W hm⟩
 | inl q =>
  obtain⟨u,nm⟩:=q
  obtain⟨pu,ud,u1,u2,u3,gn⟩:=h2 u nm rfl
  obtain⟨p1,p2⟩:=W.path20 u1
  have bd:=W.bound _ _ u1
  have gl:=gn.len
  simp only[u2,p1,p2]
  have c1:(Nat.ble ((qu [47] pu).length+nm.length) 1000000&&Nat.ble pu.length 1000000)=true:=by rw[Nat.ble_eq.mpr (by omega),Nat.ble_eq.mpr (by omega)];rfl
  rw[c1,cond_true]
  cases hl:ql nm ud.kids with
  | some j=>exact⟨_,rfl,Out.inl W hm⟩
  | none =>
   simp only
   cases good with
   | false=>exact⟨_,rfl,Out.inl W hm⟩
   | true =>
    simp only[Bool.not_true,cond_false]
    rw[Yu (W.good u1) gn.1]
    cases hf:Qy (pu.length+1) (qu [47] (pu++[nm])).length with
    | false=>exact⟨_,rfl,Out.inl W hm⟩
    | true =>
     simp only[Bool.not_true,cond_false]
     cases h128:decide (M.many ≥ 128) with
     | true=>exact⟨_,rfl,Out.inl W hm⟩
     | false =>
      simp only[decide_eq_false_iff_not] at h128
      unfold Qy at hf
      simp only[Bool.and_eq_true] at hf
      have a:=W.add (M':=qpk M u ud nm ⟨kind,mode,data,[],some u,nm,0⟩) u1 u2 u3 hl gn ⟨Nat.le_of_ble_eq_true hf.1,Nat.le_of_ble_eq_true hf.2⟩ (by omega) (nw:=⟨kind,mode,data,[],some u,nm,0⟩) rfl rfl rfl (hg rfl) rfl rfl rfl rfl
      refine⟨_,rfl,XH,⟨cnt+1,a.1,?_⟩,rfl,?_,Or.inr ⟨rfl,by omega⟩⟩
      ·show M.many+1=_
       omega
      ·show (M.nodes.set u _++[_]).length≤_
       simp
theorem q1j (ho:c.op=5):∃ r,do5 M c=some r∧Out M c r:=by
 have h:=qhn W hm (c:=c) (by omega) (kind:=2) (mode:=c.mode) (data:=[]) (good:=!decide (c.mode < 0∨c.mode > 511)) (fun h=>by
  rw[qef]
  simp only[Bool.not_eq_true',decide_eq_false_iff_not,not_or] at h
  exact⟨by omega,by omega,by simp⟩)
 simp only[Bool.not_not] at h
 exact h
theorem qzd (ho:c.op=6):∃ r,do6 M c=some r∧Out M c r:=by
 have h:=qhn W hm (c:=c) (by omega) (kind:=1) (mode:=c.mode) (data:=[]) (good:=!decide (c.mode < 0∨c.mode > 511)) (fun h=>by
  rw[q3g]
  simp only[Bool.not_eq_true',decide_eq_false_iff_not,not_or] at h
  exact⟨by omega,by omega,rfl⟩)
 simp only[Bool.not_not] at h
 exact h
theorem qx5 (ho:c.op=7):∃ r,do7 M c=some r∧Out M c r :=
 qhn W hm (c:=c) (by omega) (kind:=3) (mode:=511) (data:=c.data) (good:=Qw c.data) (fun h=>by rw[q3v];exact⟨rfl,h⟩)
theorem qmb {file:Bool} (ho:c.op=11∨c.op=12):∃ r,qx1 M c file=some r∧Out M c r:=by
 obtain⟨o,h1,h2⟩:=W.place (b:=c.path)
 unfold qx1
 rw[h1]
 cases o with
 | inr n=>exact⟨_,rfl,Out.inl W hm⟩
 | inl q =>
  obtain⟨u,nm⟩:=q
  obtain⟨pu,ud,u1,u2,u3,gn⟩:=h2 u nm rfl
  simp only[u2]
  cases hl:ql nm ud.kids with
  | none=>exact⟨_,rfl,Out.inl W hm⟩
  | some j =>
   obtain⟨_,_,jd,j1,_⟩:=W.kid _ _ _ _ _ u1 u2 hl
   simp only[j1]
   cases t1:(file&&decide (jd.kind=1)) with
   | true=>exact⟨_,rfl,Out.inl W hm⟩
   | false =>
   simp only[cond_false]
   cases t2:(!file&&!decide (jd.kind=1)) with
   | true=>exact⟨_,rfl,Out.inl W hm⟩
   | false =>
   simp only[cond_false]
   cases t3:(!file&&!jd.kids.isEmpty) with
   | true=>exact⟨_,rfl,Out.inl W hm⟩
   | false =>
   simp only[cond_false]
   cases t4:(!file&&Nat.beq j M.cwd) with
   | true=>exact⟨_,rfl,Out.inl W hm⟩
   | false =>
   have hpj:M.at (pu++[nm])=some j:=at_snoc.2 ⟨u,ud,u1,u2,hl⟩
   have nokids:jd.kind≠1→jd.kids=[]:=by
    intro h
    cases hk:jd.kids with
    | nil=>rfl
    | cons q l =>
     have:=qej (l:=jd.kids) (p:=q.1) (j:=q.2) (W.nodup _ _ j1) (by rw[hk];simp)
     exact absurd (W.kid _ _ _ _ _ hpj j1 this).1 h
   have hk:jd.kids=[]:=by
    cases file with
    | true=>exact nokids (by simpa using t1)
    | false=>simpa using t3
   have hc:j≠M.cwd:=by
    intro e
    cases file with
    | true =>
     obtain⟨p,cd,_,c2,c3⟩:=W.cwd
     rw[← e,j1] at c2
     cases c2
     simp[c3] at t1
    | false =>
     rw[e,Nat.beq_refl] at t4
     cases t4
   have hpos:decide (-999999≤M.many)=true:=by rw[decide_eq_true_eq];omega
   simp only[cond_false,hpos,cond_true]
   have d:=W.del (M':={ M with nodes:=M.nodes.set u { ud with kids:=qH nm ud.kids },many:=M.many - 1 }) u1 u2 hl j1 hk hc rfl rfl rfl rfl
   refine⟨_,rfl,XH,⟨cnt - 1,d.2,?_⟩,rfl,?_,Or.inr ⟨rfl,by omega⟩⟩
   ·show M.many - 1=_
    omega
   ·show (M.nodes.set u _).length≤_
    simp
theorem qwz:∃ r,qze M c=some r∧Out M c r:=by
 obtain⟨o,h1,h2⟩:=W.find (b:=c.path) (follow:=true)
 unfold qze
 rw[h1]
 cases o with
 | inr n=>exact⟨_,rfl,Out.inl W hm⟩
 | inl k =>
  obtain⟨q,kd,_,k2,k3⟩:=h2 k rfl
  have k3:=k3 rfl
  simp only[k2]
  cases h:decide (kd.kind=1) with
  | true=>exact⟨_,rfl,Out.inl W hm⟩
  | false =>
   simp only[decide_eq_false_iff_not] at h
   have k4:kd.kind=2:=by rcases W.kindOf k2 with e|e|e;exact absurd e h;exact e;exact absurd e k3
   simp only[cond_false]
   cases hfr:Vl M.fds 0 with
   | none=>exact⟨_,rfl,Out.inl W hm⟩
   | some i =>
    refine⟨_,rfl,Out.marks W hm XH (W.marks (by simp[W.f8]) W.cwd (fun z hz=>?_))⟩
    rcases List.mem_or_eq_of_mem_set hz with hz|hz
    ·exact W.fds z hz
    ·cases hz;exact⟨kd,k2,k4⟩
theorem qlv {k:Nat} (h:fdT M.fds c.fd=some k):∃ nd,M.T k=some nd∧nd.kind=2:=by
 unfold fdT at h
 cases hb:(decide (c.fd < 0)||decide (c.fd ≥ 8)) with
 | true=>rw[hb] at h;cases h
 | false =>
  rw[hb,cond_false,List.getD_eq_getElem?_getD] at h
  cases he:M.fds[c.fd.toNat]? with
  | none=>rw[he] at h;cases h
  | some o =>
   rw[he] at h
   have h:o=some k:=h
   subst h
   exact W.fds k (List.mem_of_getElem? he)
theorem qxd:∃ r,q1v M c=some r∧Out M c r:=by
 unfold q1v
 cases h:fdT M.fds c.fd with
 | none=>exact⟨_,rfl,Out.inl W hm⟩
 | some k =>
  obtain⟨kd,k2,k3⟩:=qlv W hm h
  simp only[k2]
  cases h:Jf kd.data c.off c.num with
  | inr e=>exact⟨_,rfl,Out.inl W hm⟩
  | inl d=>exact⟨_,rfl,Out.same W hm ⟨by have:=qf1 h;have:=W.data k2;show d.length≤1024;omega,by simp,fun nm h=>by cases h⟩⟩
theorem qxu (ho:c.op=16) (hd:c.data.length≤10000000000000000000):∃ r,qy0 M c=some r∧Out M c r:=by
 unfold qy0
 cases h:fdT M.fds c.fd with
 | none=>exact⟨_,rfl,Out.inl W hm⟩
 | some k =>
  obtain⟨kd,k2,k4⟩:=qlv W hm h
  simp only[k2,Nat.ble_eq.mpr hd,cond_true]
  have hr:=W.rest _ _ k2
  rw[k4,qef] at hr
  cases hw:Zt kd.data c.off c.data with
  | inr e=>exact⟨_,rfl,Out.inl W hm⟩
  | inl d =>
   have hl:=qa1 hw (W.data k2)
   simp only[Nat.ble_eq.mpr (show d.length≤40000 by omega),cond_true]
   refine⟨_,rfl,Out.setv W hm XH rfl (by omega) k2 rfl rfl rfl rfl ?_⟩
   show Z7 ([],kd.kind,kd.mode,d)=true
   rw[k4,qef]
   exact⟨hr.1,hr.2.1,hl⟩
theorem qw0:∃ r,qz5 M c=some r∧Out M c r:=by
 unfold qz5
 cases h:fdT M.fds c.fd with
 | none=>exact⟨_,rfl,Out.inl W hm⟩
 | some k =>
  refine⟨_,rfl,Out.marks W hm XH (W.marks (by simp[W.f8]) W.cwd (fun z hz=>?_))⟩
  rcases List.mem_or_eq_of_mem_set hz with hz|hz
  ·exact W.fds z hz
  ·cases hz
theorem qwa:∃ r,qye M c=some r∧Out M c r:=by
 obtain⟨o,h1,h2⟩:=W.find (b:=c.path) (follow:=true)
 unfold qye
 rw[h1]
 cases o with
 | inr n=>exact⟨_,rfl,Out.inl W hm⟩
 | inl k =>
  obtain⟨q,kd,k1,k2,k3⟩:=h2 k rfl
  simp only[k2]
  cases h:decide (kd.kind=1) with
  | false=>exact⟨_,rfl,Out.inl W hm⟩
  | true =>
   simp only[decide_eq_true_eq] at h
   exact⟨_,rfl,Out.marks W hm XH (W.marks W.f8 ⟨q,kd,k1,k2,h⟩ W.fds)⟩
theorem qup (ho:c.op=13):∃ r,qzu M c=some r∧Out M c r:=by
 obtain⟨o,h1,h2⟩:=W.place (b:=c.path)
 obtain⟨o2,g1,g2⟩:=W.place (b:=c.path2)
 unfold qzu qsw
 rw[h1]
 cases o with
 | inr n=>exact⟨_,rfl,Out.inl W hm⟩
 | inl q =>
 obtain⟨u,old⟩:=q
 obtain⟨pu,ud,u1,u2,u3,go⟩:=h2 u old rfl
 simp only[g1]
 cases o2 with
 | inr n=>exact⟨_,rfl,Out.inl W hm⟩
 | inl q =>
 obtain⟨v,nm⟩:=q
 obtain⟨pv,vd,v1,v2,v3,gn⟩:=g2 v nm rfl
 simp only[u2,v2]
 cases hl:ql old ud.kids with
 | none=>exact⟨_,rfl,Out.inl W hm⟩
 | some j =>
 obtain⟨_,_,jd,j1,_⟩:=W.kid _ _ _ _ _ u1 u2 hl
 have hpo:M.at (pu++[old])=some j:=at_snoc.2 ⟨u,ud,u1,u2,hl⟩
 simp only[j1]
 have main:∀ y,ql nm vd.kids=y→(∀ k,y=some k→k≠j∧∃ kd,M.T k=some kd)→∃ r,(match qr8 M.T M.cwd u old j jd v nm y with
  | none=>none
  | some (.inl n)=>some (Sum.inl n)
  | some (.inr none)=>some (Sum.inr (an0,M))
  | some (.inr (some m))=>match M.T m.u with
   | none=>none
   | some ud=>match M.T m.v with
    | none=>none
    | some vd=>match M.T m.j with
     | none=>none
     | some jd=>bif decide (-999999≤M.many) then some (Sum.inr (an0,{ M with nodes:=qnn M.nodes m ud vd jd,many:=bif m.y.isSome then M.many - 1 else M.many })) else none)=some r∧Out M c r:=by
  intro y hy hyk
  have bv:=W.bound _ _ v1
  have hB:∃ b,(bif decide (jd.kind=1) then Zm M.T j 20 v else some false)=some b∧(b=false→∀ q l,pv=q++l→M.at q≠some j):=by
   cases hk:decide (jd.kind=1) with
   | true=>exact W.belowJ v1 (by omega)
   | false =>
    refine⟨false,rfl,fun _ q l e hq=>?_⟩
    simp only[decide_eq_false_iff_not] at hk
    cases l with
    | nil =>
     rw[List.append_nil] at e
     rw[← e,v1] at hq
     cases hq
     rw[v2] at j1
     cases j1
     exact hk v3
    | cons x l =>
     rw[e] at v1
     obtain⟨w,w1,w2⟩:=lookP_two.1 v1
     have w1:M.at q=some w:=w1
     rw[hq] at w1
     cases w1
     simp only[zg,zo j1] at w2
     cases hx:ql x jd.kids with
     | none=>rw[hx] at w2;cases w2
     | some z=>exact hk (W.kid _ _ _ _ _ hq j1 hx).1
  obtain⟨b,b1,b2⟩:=hB
  unfold qr8
  rw[b1]
  cases b with
  | true=>exact⟨_,rfl,Out.inl W hm⟩
  | false =>
  have b2:=b2 rfl
  simp only
  have tail:(∀ k,y=some k→k≠M.cwd∧∃ kd,M.T k=some kd∧kd.kids=[])→∃ r,(match (match qkx M.T v nm j with
   | none=>none
   | some false=>some (Sum.inl 8)
   | some true=>bif Nat.beq j u||Nat.beq j v then none else some (Sum.inr (some ⟨u,old,j,v,nm,y⟩)):Option (Nat ⊕ Option Mv)) with
  | none=>none
  | some (.inl n)=>some (Sum.inl n)
  | some (.inr none)=>some (Sum.inr (an0,M))
  | some (.inr (some m))=>match M.T m.u with
   | none=>none
   | some ud=>match M.T m.v with
    | none=>none
    | some vd=>match M.T m.j with
     | none=>none
     | some jd=>bif decide (-999999≤M.many) then some (Sum.inr (an0,{ M with nodes:=qnn M.nodes m ud vd jd,many:=bif m.y.isSome then M.many - 1 else M.many })) else none)=some r∧Out M c r:=by
   intro e2
   obtain⟨p1,p2⟩:=W.path20 v1
   have gl:=gn.len
   have en:=Yu (W.good v1) gn.1
   have hF:∃ b,qkx M.T v nm j=some b∧(b=true→∀ l k,zg (QA M.T) j l=some k→pv.length+1+l.length≤8∧(qu [47] (pv++nm::l)).length≤140):=by
    unfold qkx
    simp only[p1,p2,en]
    have lj:(qu [47] (pv++[nm])).length≤200:=by
     by_cases e:pv=[]
     ·subst e;show nm.length≤200;omega
     ·rw[Jx e];simp;omega
    have c1:(Nat.ble pv.length 900&&(Nat.ble ((qu [47] pv).length+nm.length) 1000000&&Nat.ble (qu [47] (pv++[nm])).length 100000))=true:=by rw[Nat.ble_eq.mpr (by omega),Nat.ble_eq.mpr (by omega),Nat.ble_eq.mpr (by omega)];rfl
    rw[c1,cond_true]
    cases hf:Qy (pv.length+1) (qu [47] (pv++[nm])).length with
    | false=>exact⟨false,rfl,fun e=>by cases e⟩
    | true =>
     obtain⟨b,d1,d2⟩:=W.each (dp:=pv.length+1) (lg:=(qu [47] (pv++[nm])).length) (P:=pu++[old]) (ps:=[]) (f:=20) (i:=j) (by rw[List.append_nil];exact hpo) (by omega)
     refine⟨b,d1,fun hb l k hk=>?_⟩
     unfold Qy at hf
     simp only[Bool.and_eq_true] at hf
     have f1:=Nat.le_of_ble_eq_true hf.1
     have f2:=Nat.le_of_ble_eq_true hf.2
     by_cases hl:l=[]
     ·subst hl;exact⟨by simpa using f1,f2⟩
     ·have hk2:M.at (pu++[old]++[]++l)=some k:=by rw[List.append_nil];exact lookP_two.2 ⟨j,hpo,hk⟩
      have:=d2 hb l k hl hk2
      unfold Qy at this
      simp only[Bool.and_eq_true,List.nil_append] at this
      have f3:=Nat.le_of_ble_eq_true this.1
      have f4:=Nat.le_of_ble_eq_true this.2
      refine⟨f3,?_⟩
      have e3:pv++nm::l=(pv++[nm])++l:=by simp
      rw[e3,qfn (by simp) hl]
      simp only[List.length_append,List.length_cons] at f4 ⊢
      omega
   obtain⟨b,f1,f2⟩:=hF
   simp only[f1]
   cases b with
   | false=>exact⟨_,rfl,Out.inl W hm⟩
   | true =>
   have f2:=f2 rfl
   have hju:j≠u:=fun e=>by
    have:=congrArg List.length (W.uniq hpo (by rw[e];exact u1))
    simp at this
   have hjv:j≠v:=fun e=>b2 pv [] (by simp) (by rw[e];exact v1)
   have q1:Nat.beq j u=false:=by rw[zN,decide_eq_false_iff_not];exact hju
   have q2:Nat.beq j v=false:=by rw[zN,decide_eq_false_iff_not];exact hjv
   have hpos:decide (-999999≤M.many)=true:=by rw[decide_eq_true_eq];omega
   simp only[q1,q2,Bool.or_self,cond_false,u2,v2,j1,hpos,cond_true]
   let m:Mv:=⟨u,old,j,v,nm,y⟩
   let M':Md:={ M with nodes:=qnn M.nodes m ud vd jd,many:=bif m.y.isSome then M.many - 1 else M.many }
   have hat:∀ i,i < M.nodes.length→∃ d,M'.T i=some d:=fun i hi=>qa9 (M:=M') (by show i < (qnn M.nodes m ud vd jd).length;rw[Kn];exact hi)
   have ra:∀ {i:Nat} {d:Nd},M'.T i=some d→_:=fun {i d} h=>qnv (m:=m) (l:=M.nodes) (ud:=ud) (vd:=vd) (jd:=jd) (i:=i) (d:=d) (QP v2) (QP u2) (QP j1) h
   have Tv:M'.T v=some { vd with kids:=setK nm j (QK u v old ud vd).kids }:=by
    obtain⟨d,hd⟩:=hat v (QP v2)
    rcases ra hd with⟨_,e⟩|⟨e,_⟩|⟨e,_⟩|⟨e,_⟩
    ·rw[hd,e]
    all_goals exact absurd rfl e
   have Tu:u≠v→M'.T u=some { ud with kids:=qH old ud.kids }:=by
    intro huv
    obtain⟨d,hd⟩:=hat u (QP u2)
    rcases ra hd with⟨e,_⟩|⟨_,_,e⟩|⟨_,e,_⟩|⟨_,e,_⟩
    ·exact absurd e huv
    ·rw[hd,e]
    ·exact absurd rfl e
    ·exact absurd rfl e
   have Tj:M'.T j=some { jd with up:=some v,name:=nm }:=by
    obtain⟨d,hd⟩:=hat j (QP j1)
    rcases ra hd with⟨e,_⟩|⟨_,e,_⟩|⟨_,_,_,e⟩|⟨_,_,e,_⟩
    ·exact absurd e hjv
    ·exact absurd e hju
    ·rw[hd,e]
    ·exact absurd rfl e
   have To:∀ i,i≠v→i≠u→i≠j→M'.T i=M.T i:=by
    intro i n1 n2 n3
    by_cases hi:i < M.nodes.length
    ·obtain⟨d,hd⟩:=hat i hi
     rcases ra hd with⟨e,_⟩|⟨_,e,_⟩|⟨_,_,e,_⟩|⟨_,_,_,e⟩
     ·exact absurd e n1
     ·exact absurd e n2
     ·exact absurd e n3
     ·rw[hd];exact e.symm
    ·rw[Kv (M:=M) (k:=i) (by omega),Kv (M:=M') (by show (qnn M.nodes m ud vd jd).length≤i;rw[Kn];omega)]
   have mv:=W.mv (M':=M') u1 u2 hl j1 v1 v2 v3 gn b2 (fun k hk=>by
    obtain⟨k1,k2⟩:=hyk k (by rw[← hy];exact hk)
    obtain⟨k3,k4⟩:=e2 k (by rw[← hy];exact hk)
    exact⟨k1,k3,k4⟩) f2 Tv Tu Tj To rfl rfl rfl
   refine⟨_,rfl,XH,⟨_,mv.2,?_⟩,rfl,?_,Or.inr ⟨rfl,by omega⟩⟩
   ·show (bif y.isSome then M.many - 1 else M.many)=_
    cases y with
    | none=>rw[if_pos hy];exact hm
    | some k =>
     have:ql nm vd.kids≠none:=by rw[hy];simp
     have:=mv.1 this
     rw[if_neg (by rw[hy];simp)]
     show M.many - 1=_
     omega
   ·show (qnn M.nodes m ud vd jd).length≤_
    rw[Kn]
    exact Nat.le_succ _
  cases y with
  | none=>exact tail (fun k e=>by cases e)
  | some k =>
   obtain⟨_,kd,k1⟩:=hyk k rfl
   simp only[yT,k1]
   cases t1:(decide (jd.kind=1)&&!decide (kd.kind=1)) with
   | true=>exact⟨_,rfl,Out.inl W hm⟩
   | false =>
    simp only[cond_false]
    cases t2:(!decide (jd.kind=1)&&decide (kd.kind=1)) with
    | true=>exact⟨_,rfl,Out.inl W hm⟩
    | false =>
     simp only[cond_false]
     cases t3:(!kd.kids.isEmpty) with
     | true=>exact⟨_,rfl,Out.inl W hm⟩
     | false =>
      simp only[cond_false]
      cases t4:Nat.beq k M.cwd with
      | true=>exact⟨_,rfl,Out.inl W hm⟩
      | false =>
       refine tail (fun z hz=>?_)
       cases hz
       exact⟨fun e=>(by rw[e,Nat.beq_refl] at t4;cases t4),kd,k1,by simpa using t3⟩
 cases hk:ql nm vd.kids with
 | none=>exact main none hk (fun k e=>by cases e)
 | some k =>
  obtain⟨_,_,kd,k1,_⟩:=W.kid _ _ _ _ _ v1 v2 hk
  simp only[k1]
  cases he:Nat.beq k j with
  | true=>exact⟨_,rfl,Out.same W hm XH⟩
  | false =>
   refine main (some k) hk (fun z e=>?_)
   cases e
   exact⟨fun e=>(by rw[e,Nat.beq_refl] at he;cases he),kd,k1⟩
theorem qtd (hd:c.data.length≤10000000000000000000):∃ an M' n',doM M c=some (an,M')∧qx3 an∧Wf M' n'∧M'.many=(n':Int)∧M'.root=M.root∧M'.nodes.length≤M.nodes.length+1∧(M'.nodes=M.nodes∨(an.status=0∧5≤c.op∧c.op≤16∧c.op≠14∧c.op≠15)):=by
 unfold doM
 cases hb:(decide (c.op < 1)||decide (c.op > 18)) with
 | true=>exact⟨_,_,cnt,rfl,XH,W,hm,rfl,Nat.le_succ _,Or.inl rfl⟩
 | false =>
  rw[cond_false]
  have key:∃ r,doR M c c.op.toNat=some r∧Out M c r:=by
   rw[Bool.or_eq_false_iff,decide_eq_false_iff_not,decide_eq_false_iff_not] at hb
   have hc:c.op=1∨c.op=2∨c.op=3∨c.op=4∨c.op=5∨c.op=6∨c.op=7∨c.op=8∨c.op=9∨c.op=10∨c.op=11∨c.op=12∨c.op=13∨c.op=14∨c.op=15∨c.op=16∨c.op=17∨c.op=18:=by omega
   rcases hc with e|e|e|e|e|e|e|e|e|e|e|e|e|e|e|e|e|e <;> rw[e]
   ·exact qy5 W hm
   ·exact qz3 W hm
   ·exact q18 W hm
   ·exact q2g W hm
   ·exact q1j W hm e
   ·exact qzd W hm e
   ·exact qx5 W hm e
   ·exact qx4 W hm e hd
   ·exact q1k W hm e
   ·exact qvt W hm e
   ·exact qmb W hm (Or.inl e)
   ·exact qmb W hm (Or.inr e)
   ·exact qup W hm e
   ·exact qwz W hm
   ·exact qxd W hm
   ·exact qxu W hm e hd
   ·exact qw0 W hm
   ·exact qwa W hm
  obtain⟨r,h1,h2,⟨n',h3,h4⟩,h5,h6,h7⟩:=key
  rw[h1]
  exact⟨_,_,n',rfl,h2,h3,h4,h5,h6,h7⟩
end
end Go.AX
namespace Go.AX
open Go.Proofs Go.RowKit
set_option maxRecDepth 100000
set_option linter.unusedSimpArgs false
set_option linter.unusedVariables false
abbrev qie (a b:En):Prop:=LtP (qw a.1) (qw b.1)
def EnAt (M:Md) (e:En) (ps:List (List Nat)):Prop:=∃ k kd,M.at ps=some k∧M.T k=some kd∧e=qf7 (qu [47] ps) kd
section
variable {M:Md} {cnt:Nat} (W:Wf M cnt)
include W
theorem EnAt.parts {e:En} {ps:List (List Nat)} (h:EnAt M e ps):qw e.1=ps:=by
 obtain⟨k,kd,h1,h2,rfl⟩:=h
 exact zT (W.good h1)
theorem Wf.entsAll:∀ {f i:Nat} {ps:List (List Nat)},M.at ps=some i→9≤ps.length+f →
  ∃ es,J6 M.T f i (qu [47] ps)=some es∧(∀ e,e∈es↔∃ l,l≠[]∧EnAt M e (ps++l))∧es.Pairwise qie
 | 0,i,ps,hp,hf=>by have:=(W.bound _ _ hp).1;omega
 | f+1,i,ps,hp,hf=>by
  obtain⟨nd,hn⟩:=W.node hp
  have key:∀ names:List (List Nat),(∀ nm∈names,nm∈keys nd.kids)→names.Pairwise (fun a b=>ltB a b=true)→∃ es,K8 M.T (J6 M.T f) nd.kids (qu [47] ps) names=some es ∧
    (∀ e,e∈es↔∃ nm l,nm∈names∧EnAt M e (ps++nm::l))∧es.Pairwise qie:=by
   intro names
   induction names with
   | nil=>exact fun _ _=>⟨[],rfl,fun e=>by simp,List.Pairwise.nil⟩
   | cons nm names ih =>
    intro hm hs
    rw[List.pairwise_cons] at hs
    obtain⟨r,r1,r2,r3⟩:=ih (fun x hx=>hm x (List.mem_cons_of_mem _ hx)) hs.2
    cases hl:ql nm nd.kids with
    | none=>exact absurd (hm nm (by simp)) (lookK_none.1 hl)
    | some j =>
     have gn:=W.kgood hn nm (hm nm (by simp))
     have hj:M.at (ps++[nm])=some j:=at_snoc.2 ⟨i,nd,hp,hn,hl⟩
     obtain⟨jd,hjd⟩:=W.node hj
     have gj:=W.good hj
     have ej:zd (qu [47] ps) nm=qu [47] (ps++[nm]):=Yu (fun x hx=>gj x (List.mem_append_left _ hx)) gn.1
     have bj:=W.bound _ _ hp
     have gl:=gn.len
     obtain⟨es,d1,d2,d3⟩:=Wf.entsAll (f:=f) hj (by simp at hf ⊢;omega)
     have c1:Nat.ble ((qu [47] ps).length+nm.length) 1000000=true:=Nat.ble_eq.mpr (by omega)
     simp only[K8,hl,c1,cond_true,hjd,ej,d1,r1]
     have e0:EnAt M (qf7 (qu [47] (ps++[nm])) jd) (ps++[nm]):=⟨j,jd,hj,hjd,rfl⟩
     have p0:=EnAt.parts W e0
     refine⟨_,rfl,fun e=>?_,?_⟩
     ·rw[List.mem_cons,List.mem_append,d2,r2]
      constructor
      ·rintro (rfl|⟨l,hl2,he⟩|⟨x,l,hx,he⟩)
       ·exact⟨nm,[],by simp,e0⟩
       ·exact⟨nm,l,by simp,by simpa using he⟩
       ·exact⟨x,l,List.mem_cons_of_mem _ hx,he⟩
      ·rintro⟨x,l,hx,he⟩
       rcases List.mem_cons.1 hx with rfl|hx
       ·by_cases hl2:l=[]
        ·subst hl2
         left
         obtain⟨k,kd,k1,k2,rfl⟩:=he
         rw[hj] at k1
         cases k1
         rw[hjd] at k2
         cases k2
         rfl
        ·exact Or.inr (Or.inl ⟨l,hl2,by simpa using he⟩)
       ·exact Or.inr (Or.inr ⟨x,l,hx,he⟩)
     ·have later:∀ l e,e∈r→LtP (ps++nm::l) (qw e.1):=by
       intro l e he
       obtain⟨x,l',hx,he⟩:=(r2 e).1 he
       rw[EnAt.parts W he,qgv,Xz]
       exact Or.inl (hs.1 x hx)
      rw[List.pairwise_cons,List.pairwise_append]
      refine⟨fun e he=>?_,d3,r3,fun a ha b hb=>?_⟩
      ·show LtP (qw (qf7 (qu [47] (ps++[nm])) jd).1) (qw e.1)
       rw[p0]
       rcases List.mem_append.1 he with he|he
       ·obtain⟨l,hl2,he⟩:=(d2 e).1 he
        rw[EnAt.parts W he]
        cases l with
        | nil=>exact absurd rfl hl2
        | cons x l=>exact qge
       ·exact later [] e he
      ·obtain⟨l,hl2,ha⟩:=(d2 a).1 ha
       show LtP (qw a.1) (qw b.1)
       rw[EnAt.parts W ha]
       have:=later l b hb
       simpa using this
  obtain⟨es,e1,e2,e3⟩:=key (Q0 (keys nd.kids)) (fun nm h=>sort_mem.1 h) (VB (W.nodup _ _ hn))
  simp only[J6,hn,W.sort hn]
  refine⟨es,e1,fun e=>?_,e3⟩
  rw[e2]
  constructor
  ·rintro⟨nm,l,_,he⟩
   exact⟨nm::l,by simp,he⟩
  ·rintro⟨l,hl,he⟩
   cases l with
   | nil=>exact absurd rfl hl
   | cons nm l =>
    refine⟨nm,l,sort_mem.2 ?_,he⟩
    obtain⟨k,kd,k1,_⟩:=he
    obtain⟨w,w1,w2⟩:=lookP_two.1 k1
    have w1:M.at ps=some w:=w1
    rw[hp] at w1
    cases w1
    simp only[zg,zo hn] at w2
    cases hx:ql nm nd.kids with
    | none=>rw[hx] at w2;cases w2
    | some z=>exact List.mem_map.2 ⟨_,KI hx,rfl⟩
theorem Wf.ents:∃ es,J6 M.T 20 M.root []=some es∧es.length=cnt∧(∀ e,e∈es↔∃ l,l≠[]∧EnAt M e l)∧es.Pairwise qie:=by
 obtain⟨es,h1,h2,h3⟩:=W.entsAll (f:=20) (i:=M.root) (ps:=[]) rfl (by simp)
 simp only[List.nil_append] at h2
 refine⟨es,h1,?_,h2,h3⟩
 obtain⟨R,r1,r2,r3,r4⟩:=W.count
 have hmem:∀ p,p∈es.map (fun e=>qw e.1)↔p∈R:=by
  intro p
  rw[List.mem_map,r2]
  constructor
  ·rintro⟨e,he,rfl⟩
   obtain⟨l,hl,he⟩:=(h2 e).1 he
   rw[EnAt.parts W he]
   obtain⟨k,kd,k1,_⟩:=he
   exact⟨hl,k,k1⟩
  ·rintro⟨hp,k,hk⟩
   obtain⟨kd,hkd⟩:=W.node hk
   have:EnAt M (qf7 (qu [47] p) kd) p:=⟨k,kd,hk,hkd,rfl⟩
   exact⟨_,(h2 _).2 ⟨p,hp,this⟩,EnAt.parts W this⟩
 have hnd:(es.map (fun e=>qw e.1)).Nodup:=by
  unfold List.Nodup
  rw[List.pairwise_map]
  exact h3.imp (fun h e=>by unfold qie at h;rw[e] at h;exact Qt h)
 have a:=ZA hnd (fun p hp=>(hmem p).1 hp)
 have b:=ZA r1 (fun p hp=>(hmem p).2 hp)
 rw[List.length_map] at a b
 omega
end
theorem Xd (a:En):¬ qie a a:=Qt
theorem WZ (a b c:En):qie a b→qie b c→qie a c:=QU
end Go.AX
namespace Go.AX
open Go.Proofs Go.RowKit
set_option maxRecDepth 100000
set_option linter.unusedSimpArgs false
set_option linter.unusedVariables false
theorem qff {e:En} (h:V7 e=true):∃ ps nm,e.1=qu [47] (ps++[nm])∧(∀ x∈ps++[nm],Good x)∧ps.length+1≤8∧(qu [47] (ps++[nm])).length≤140∧Z7 ([],e.2.1,e.2.2.1,e.2.2.2)=true:=by
 unfold V7 at h
 cases h1:X9 e.1 with
 | false=>rw[h1] at h;cases h
 | true =>
  rw[h1,cond_true] at h
  obtain⟨l,hl,e1,hg,h8,hb⟩:=pathE_iff.1 h1
  obtain⟨ps,nm,rfl⟩:=Yk hl
  exact⟨ps,nm,e1,hg,by simpa using h8,by rw[← e1];exact hb,h⟩
theorem q1x {ps:List (List Nat)} {nd:Nd} (hne:ps≠[]) (hg:∀ x∈ps,Good x) (h8:ps.length≤8) (hb:(qu [47] ps).length≤140) (hr:Z7 ([],nd.kind,nd.mode,nd.data)=true):V7 (qf7 (qu [47] ps) nd)=true:=by
 unfold V7
 have:X9 (qf7 (qu [47] ps) nd).1=true:=pathE_iff.2 ⟨ps,hne,rfl,hg,h8,hb⟩
 rw[this]
 exact hr
def okP:Option (List Nat)→List Nat→Bool
 | none,_=>true
 | some p,q=>decide (Jh p q < 0)
theorem qal {e:En} {l:List En} {M:Md} {K:Kids} {pv:Option (List Nat)}:Yh (e::l) M K pv=(bif V7 e then (bif okP pv e.1 then (match ql (e.1.take (Y2 e.1)) K with
   | none=>none
   | some u=>match M.T u with
    | none=>none
    | some ud=>bif ud.kind != 1 then none else Yh l (Wn M u ud (Jv e.1) ⟨e.2.1,e.2.2.1,e.2.2.2,[],some u,Jv e.1,0⟩) (setK e.1 M.nodes.length K) (some e.1)) else none) else none):=by cases pv <;> rfl
structure Inv (d:List En) (M:Md) (K:Kids) (pv:Option (List Nat)):Prop where
 wf:Wf M d.length
 look:∀ ps,(∀ x∈ps,Good x)→ql (qu [47] ps) K=M.at ps
 mem:∀ e,e∈d↔∃ l,l≠[]∧EnAt M e l
 rise:d.Pairwise qie
 last:∀ e∈d,∃ p,pv=some p∧(e.1=p∨LtP (qw e.1) (qw p))
 root:M.root=0
 cwd:M.cwd=0
theorem q15 {M:Md} {u:Nat} {ud nw:Nd} {nm:List Nat} (hu:M.T u=some ud):∀ k,(Wn M u ud nm nw).T k=if k=M.nodes.length then some nw else if k=u then some { ud with kids:=setK nm M.nodes.length ud.kids } else M.T k:=by
 intro k
 have hul:=QP hu
 show (M.nodes.set u { ud with kids:=setK nm M.nodes.length ud.kids }++[nw])[k]?=_
 by_cases h1:k=M.nodes.length
 ·subst h1;simp
 ·rw[if_neg h1]
  by_cases h2:k < M.nodes.length
  ·rw[List.getElem?_append_left (by simpa using h2),qqi hul]
  ·rw[List.getElem?_eq_none (by simp;omega),if_neg (by omega),Kv (by omega)]
theorem qir {d:List En} {M:Md} {K:Kids} {pv:Option (List Nat)} (I:Inv d M K pv) {e:En} (hm:V7 e=true) (hpv:okP pv e.1=true) {u:Nat} {ud:Nd}
  (hl:ql (e.1.take (Y2 e.1)) K=some u) (hu:M.T u=some ud) (hk:ud.kind=1) (hn:d.length < 128) :
  Inv (d++[e]) (Wn M u ud (Jv e.1) ⟨e.2.1,e.2.2.1,e.2.2.2,[],some u,Jv e.1,0⟩) (setK e.1 M.nodes.length K) (some e.1):=by
 obtain⟨ps,nm,e1,hg,h8,hb,hr⟩:=qff hm
 have W:=I.wf
 have gp:∀ x∈ps,Good x:=fun x hx=>hg x (List.mem_append_left _ hx)
 have gn:Good nm:=hg nm (by simp)
 obtain⟨c1,c2⟩:=qjd gp gn
 rw[← e1] at c1 c2
 rw[c1,I.look ps gp] at hl
 rw[c2]
 have pe:qw e.1=ps++[nm]:=by rw[e1];exact zT hg
 have before:∀ a∈d,qie a e:=by
  intro a ha
  obtain⟨p,rfl,hp⟩:=I.last a ha
  have hlt:LtP (qw p) (qw e.1):=of_decide_eq_true (p:=Jh p e.1 < 0) hpv
  rcases hp with rfl|hp
  ·exact hlt
  ·exact QU hp hlt
 have noat:∀ k,M.at (ps++[nm])≠some k:=by
  intro k hk2
  obtain⟨kd,hkd⟩:=W.node hk2
  have ha:EnAt M (qf7 (qu [47] (ps++[nm])) kd) (ps++[nm]):=⟨k,kd,hk2,hkd,rfl⟩
  have:=before _ ((I.mem _).2 ⟨_,by simp,ha⟩)
  unfold qie at this
  rw[EnAt.parts W ha,pe] at this
  exact Qt this
 have hlk:ql nm ud.kids=none:=by
  cases h:ql nm ud.kids with
  | none=>rfl
  | some j=>exact absurd (at_snoc.2 ⟨u,ud,hl,hu,h⟩) (noat j)
 obtain⟨W',ha⟩:=W.add (M':=Wn M u ud nm ⟨e.2.1,e.2.2.1,e.2.2.2,[],some u,nm,0⟩) (nw:=⟨e.2.1,e.2.2.1,e.2.2.2,[],some u,nm,0⟩) hl hu hk hlk gn ⟨h8,hb⟩ hn rfl rfl rfl hr rfl rfl rfl rfl
 have hT:=q15 (nw:=⟨e.2.1,e.2.2.1,e.2.2.2,[],some u,nm,0⟩) (nm:=nm) hu
 have keepE:∀ a l,EnAt M a l→EnAt (Wn M u ud nm ⟨e.2.1,e.2.2.1,e.2.2.2,[],some u,nm,0⟩) a l:=by
  rintro a l ⟨k,kd,k1,k2,rfl⟩
  have hkn:k≠M.nodes.length:=fun e=>by rw[e,Kv (Nat.le_refl _)] at k2;cases k2
  by_cases hku:k=u
  ·subst hku
   rw[hu] at k2
   cases k2
   exact⟨k,{ ud with kids:=setK nm M.nodes.length ud.kids },(ha _ _).2 (Or.inl k1),by rw[hT,if_neg hkn,if_pos rfl],rfl⟩
  ·exact⟨k,kd,(ha _ _).2 (Or.inl k1),by rw[hT,if_neg hkn,if_neg hku];exact k2,rfl⟩
 have newE:EnAt (Wn M u ud nm ⟨e.2.1,e.2.2.1,e.2.2.2,[],some u,nm,0⟩) e (ps++[nm]):=by
  refine⟨M.nodes.length,⟨e.2.1,e.2.2.1,e.2.2.2,[],some u,nm,0⟩,(ha _ _).2 (Or.inr ⟨rfl,rfl⟩),by rw[hT,if_pos rfl],?_⟩
  obtain⟨a,b,c,f⟩:=e
  simp only at e1
  unfold qf7
  rw[← e1]
 refine⟨by rw[List.length_append];exact W',fun qs hq=>?_,fun a=>?_,?_,fun a h=>⟨_,rfl,?_⟩,I.root,I.cwd⟩
 ·rw[Zq,e1]
  by_cases hqs:qs=ps++[nm]
  ·subst hqs
   rw[if_pos rfl]
   exact ((ha _ _).2 (Or.inr ⟨rfl,rfl⟩)).symm
  ·rw[if_neg (fun h=>hqs (qm6 hq hg h)),I.look qs hq]
   cases h:M.at qs with
   | some k=>exact ((ha _ _).2 (Or.inl h)).symm
   | none =>
    cases h':Md.at (Wn M u ud nm ⟨e.2.1,e.2.2.1,e.2.2.2,[],some u,nm,0⟩) qs with
    | none=>rfl
    | some k =>
     rcases (ha _ _).1 h' with h2|⟨h2,_⟩
     ·rw[h] at h2;cases h2
     ·exact absurd h2 hqs
 ·rw[List.mem_append,I.mem,List.mem_singleton]
  constructor
  ·rintro (⟨l,hl2,h⟩|rfl)
   ·exact⟨l,hl2,keepE _ _ h⟩
   ·exact⟨_,by simp,newE⟩
  ·rintro⟨l,hl2,k,kd,k1,k2,rfl⟩
   rcases (ha _ _).1 k1 with k1|⟨rfl,rfl⟩
   ·left
    obtain⟨kd0,hk0⟩:=W.node k1
    refine⟨l,hl2,k,kd0,k1,hk0,?_⟩
    have hkn:k≠M.nodes.length:=fun e=>by rw[e,Kv (Nat.le_refl _)] at hk0;cases hk0
    rw[hT,if_neg hkn] at k2
    by_cases hku:k=u
    ·subst hku
     rw[if_pos rfl] at k2
     cases k2
     rw[hu] at hk0
     cases hk0
     rfl
    ·rw[if_neg hku,hk0] at k2
     cases k2
     rfl
   ·right
    obtain⟨k',kd',g1,g2,g3⟩:=newE
    rw[k1] at g1
    cases g1
    rw[k2] at g2
    cases g2
    exact g3.symm
 ·rw[List.pairwise_append]
  exact⟨I.rise,List.pairwise_singleton ..,fun a ha b hb=>by rw[List.mem_singleton] at hb;rw[hb];exact before a ha⟩
 ·rcases List.mem_append.1 h with h|h
  ·exact Or.inr (before a h)
  ·rw[List.mem_singleton] at h
   exact Or.inl (by rw[h])
theorem qly:∀ {es d:List En} {M M':Md} {K:Kids} {pv:Option (List Nat)},Inv d M K pv→d.length+es.length≤128→Yh es M K pv=some M'→∃ K' pv',Inv (d++es) M' K' pv'
 | [],d,M,M',K,pv,I,_,h=>by
  cases h
  exact⟨K,pv,by rw[List.append_nil];exact I⟩
 | e::es,d,M,M',K,pv,I,hn,h=>by
  rw[qal] at h
  cases hm:V7 e with
  | false=>rw[hm] at h;cases h
  | true =>
   rw[hm,cond_true] at h
   cases hp:okP pv e.1 with
   | false=>rw[hp] at h;cases h
   | true =>
    rw[hp,cond_true] at h
    cases hl:ql (e.1.take (Y2 e.1)) K with
    | none=>rw[hl] at h;cases h
    | some u =>
     rw[hl] at h
     simp only at h
     cases hu:M.T u with
     | none=>rw[hu] at h;cases h
     | some ud =>
      rw[hu] at h
      simp only at h
      cases hk:ud.kind != 1 with
      | true=>rw[hk] at h;cases h
      | false =>
       rw[hk,cond_false] at h
       obtain⟨K',pv',I'⟩:=qly (qir I hm hp hl hu (by simpa using hk) (by simp at hn;omega)) (by simp at hn ⊢;omega) h
       exact⟨K',pv',by rw[List.append_assoc] at I';exact I'⟩
theorem MZ_at {ps:List (List Nat)} {k:Nat}:MZ.at ps=some k↔ps=[]∧k=0:=by
 have:∀ x,QA MZ.T 0 x=none:=fun x=>rfl
 exact Vg this
theorem q3u:Wf MZ 0:=by
 have T0:MZ.T 0=some ⟨1,493,[],[],none,[],0⟩:=rfl
 have Ts:∀ k nd,MZ.T k=some nd→k=0∧nd=⟨1,493,[],[],none,[],0⟩:=by
  intro k nd h
  have:=QP h
  have hk:k=0:=by simp[MZ] at this;omega
  subst hk
  rw[T0] at h
  cases h
  exact⟨rfl,rfl⟩
 refine⟨⟨_,T0,rfl,rfl⟩,?_,?_,?_,?_,⟨[],_,rfl,T0,rfl⟩,?_,?_,rfl,⟨[],List.nodup_nil,?_,rfl,by omega⟩⟩
 ·intro p u ud nm j _ h2 h3
  obtain⟨_,rfl⟩:=Ts _ _ h2
  cases h3
 ·intro k nd h
  obtain⟨_,rfl⟩:=Ts _ _ h
  exact List.nodup_nil
 ·intro k nd h hk
  obtain⟨_,rfl⟩:=Ts _ _ h
  exact absurd rfl hk
 ·intro p k h
  obtain⟨rfl,_⟩:=MZ_at.1 h
  exact⟨by simp,by simp[qu]⟩
 ·intro k nd h
  obtain⟨_,rfl⟩:=Ts _ _ h
  rfl
 ·intro k h
  simp[MZ] at h
 ·intro p
  constructor
  ·intro h;cases h
  ·rintro⟨h,k,hk⟩
   exact absurd (MZ_at.1 hk).1 h
theorem qsm:Inv [] MZ [([],0)] none:=by
 refine⟨q3u,fun ps hg=>?_,fun e=>?_,List.Pairwise.nil,fun e h=>(by cases h),rfl,rfl⟩
 ·by_cases h:ps=[]
  ·subst h;rfl
  ·have:qu [47] ps≠[]:=fun e=>h ((XN hg).1 e)
   simp only[ql,eqB_ne.2 this,cond_false]
   cases h2:MZ.at ps with
   | none=>rfl
   | some k=>exact absurd (MZ_at.1 h2).1 h
 ·constructor
  ·intro h;cases h
  ·rintro⟨l,hl,k,kd,k1,_⟩
   exact absurd (MZ_at.1 k1).1 hl
theorem qz2 {es:List En} {M:Md} (h:ofT es=some M):Wf M es.length∧M.many=(es.length:Int)∧M.cwd=M.root∧J6 M.T 20 M.root []=some es∧es.Pairwise qie:=by
 unfold ofT at h
 cases h1:decide ((es.length:Int) > 128) with
 | true=>rw[h1] at h;cases h
 | false =>
  rw[h1,cond_false] at h
  cases h2:Yh es MZ [([],0)] none with
  | none=>rw[h2] at h;cases h
  | some M1 =>
   rw[h2] at h
   cases h
   simp only[decide_eq_false_iff_not] at h1
   obtain⟨K',pv',I⟩:=qly qsm (by simp;omega) h2
   rw[List.nil_append] at I
   have W:Wf ⟨M1.nodes,M1.root,M1.cwd,M1.fds,(es.length:Int)⟩ es.length:=I.wf.marks I.wf.f8 I.wf.cwd I.wf.fds
   refine⟨W,rfl,by show M1.cwd=M1.root;rw[I.cwd,I.root],?_,I.rise⟩
   obtain⟨es',e1,_,e2,e3⟩:=W.ents
   have:es'=es:=YW Xd WZ e3 I.rise (fun a=>by rw[e2,I.mem];exact Iff.rfl)
   rw[← this]
   exact e1
theorem qp4 {es:List En} (h1:es.length≤128) (h2:∀ e∈es,V7 e=true) (h3:es.Pairwise qie) (h4:∀ e∈es,∀ ps nm,e.1=qu [47] (ps++[nm])→(∀ x∈ps++[nm],Good x)→ps=[]∨∃ a∈es,a.1=qu [47] ps∧a.2.1=1):∃ M,ofT es=some M:=by
 have key:∀ (r d:List En) (M:Md) (K:Kids) (pv:Option (List Nat)),Inv d M K pv→d++r=es→(match r with | []=>true|e::_=>okP pv e.1)=true→∃ M',Yh r M K pv=some M':=by
  intro r
  induction r with
  | nil=>exact fun d M K pv _ _ _=>⟨M,rfl⟩
  | cons e r ih =>
   intro d M K pv I hd hpv
   have hin:e∈es:=by rw[← hd];simp
   have hm:=h2 e hin
   obtain⟨ps,nm,e1,hg,h8,hb,hr⟩:=qff hm
   have gp:∀ x∈ps,Good x:=fun x hx=>hg x (List.mem_append_left _ hx)
   have hp:okP pv e.1=true:=hpv
   obtain⟨c1,c2⟩:=qjd gp (hg nm (by simp))
   rw[← e1] at c1
   have hup:∃ u ud,M.at ps=some u∧M.T u=some ud∧ud.kind=1:=by
    rcases h4 e hin ps nm e1 hg with rfl|⟨a,ha,a1,a2⟩
    ·obtain⟨rd,r1,r2,_⟩:=I.wf.root
     exact⟨M.root,rd,rfl,r1,r2⟩
    ·have hlt:qie a e:=by
      show LtP (qw a.1) (qw e.1)
      rw[a1,e1,zT gp,zT hg]
      exact qge
     have had:a∈d:=by
      rw[← hd] at ha
      rcases List.mem_append.1 ha with h|h
      ·exact h
      ·exfalso
       rw[← hd,List.pairwise_append,List.pairwise_cons] at h3
       rcases List.mem_cons.1 h with rfl|h
       ·exact Xd _ hlt
       ·exact Xd _ (WZ _ _ _ hlt (h3.2.1.1 a h))
     obtain⟨l,_,hat⟩:=(I.mem a).1 had
     have:=EnAt.parts I.wf hat
     rw[a1,zT gp] at this
     subst this
     obtain⟨k,kd,k1,k2,rfl⟩:=hat
     exact⟨k,kd,k1,k2,a2⟩
   obtain⟨u,ud,u1,u2,u3⟩:=hup
   have hl:ql (e.1.take (Y2 e.1)) K=some u:=by rw[c1,I.look ps gp];exact u1
   have hlen:d.length < 128:=by
    have:=congrArg List.length hd
    simp at this
    omega
   have hk:(ud.kind != 1)=false:=by rw[u3];rfl
   simp only[qal,hm,hp,hl,u2,hk,cond_true,cond_false]
   refine ih (d++[e]) _ _ _ (qir I hm hp hl u2 u3 hlen) (by rw[← hd];simp) ?_
   cases r with
   | nil=>rfl
   | cons e' r =>
    show decide (Jh e.1 e'.1 < 0)=true
    rw[decide_eq_true_eq]
    rw[← hd,List.pairwise_append,List.pairwise_cons] at h3
    exact h3.2.1.1 e' (by simp)
 obtain⟨M',hM⟩:=key es [] MZ [([],0)] none qsm (List.nil_append _) (by cases es <;> rfl)
 unfold ofT
 have:decide ((es.length:Int) > 128)=false:=by rw[decide_eq_false_iff_not];omega
 rw[this,cond_false,hM]
 exact⟨_,rfl⟩
theorem Wf.back {M:Md} {cnt:Nat} (W:Wf M cnt) {es:List En} (h:J6 M.T 20 M.root []=some es):∃ M',ofT es=some M':=by
 obtain⟨es',e1,e2,e3,e4⟩:=W.ents
 rw[h] at e1
 cases e1
 obtain⟨R,r1,r2,r3,r4⟩:=W.count
 refine qp4 (by omega) (fun e he=>?_) e4 (fun e he ps nm e5 hg=>?_)
 ·obtain⟨l,hl,k,kd,k1,k2,rfl⟩:=(e3 e).1 he
  exact q1x hl (W.good k1) (W.bound _ _ k1).1 (W.bound _ _ k1).2 (W.rest _ _ k2)
 ·by_cases hp:ps=[]
  ·exact Or.inl hp
  ·right
   obtain⟨l,hl,hat⟩:=(e3 e).1 he
   have:=EnAt.parts W hat
   rw[e5,zT hg] at this
   subst this
   obtain⟨k,kd,k1,k2,_⟩:=hat
   obtain⟨u,ud,u1,u2,u3⟩:=at_snoc.1 k1
   have hk:=(W.kid _ _ _ _ _ u1 u2 u3).1
   exact⟨qf7 (qu [47] ps) ud,(e3 _).2 ⟨ps,hp,u,ud,u1,u2,rfl⟩,rfl,hk⟩
end Go.AX
