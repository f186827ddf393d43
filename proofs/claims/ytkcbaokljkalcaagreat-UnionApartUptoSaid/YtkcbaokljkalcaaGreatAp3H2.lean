import Derived.Test.YtkcbaokljkalcaaGreatAp3H1
set_option linter.unusedVariables false
set_option linter.unusedSimpArgs false
set_option linter.defProp false
namespace Go.AX
open Go.Proofs Go.RowKit
set_option maxRecDepth 100000
set_option linter.unusedSimpArgs false
set_option linter.unusedVariables false
def Good (nm:List Nat):Prop:=nm≠[]∧qi0 nm=false
theorem eqB_eq {a b:List Nat}:eqB a b=true↔a=b:=by rw[qG,decide_eq_true_eq]
theorem eqB_ne {a b:List Nat}:eqB a b=false↔a≠b:=by rw[qG,decide_eq_false_iff_not]
theorem memB_iff {c:Nat}:∀ {l:List Nat},qpm c l=true↔c∈l
 | []=>by simp[qpm]
 | x::l=>by
  have ih:=memB_iff (c:=c) (l:=l)
  simp only[qpm,List.mem_cons]
  cases h:Nat.beq c x with
  | true=>simp[Nat.eq_of_beq_eq_true h]
  | false =>
   have:c≠x:=fun e=>by rw[e,Nat.beq_refl] at h;cases h
   simp[ih,this]
theorem qa8 {cs:List Nat}:∀ {l:List Nat},qjz cs l=false→∀ c∈l,c∉cs
 | [],_,c,h=>by cases h
 | x::l,h,c,hc=>by
  simp only[qjz] at h
  cases hm:qpm x cs with
  | true=>rw[hm] at h;cases h
  | false =>
   rw[hm,cond_false] at h
   rcases List.mem_cons.1 hc with rfl|hc
   ·intro e
    rw[memB_iff.2 e] at hm
    cases hm
   ·exact qa8 h c hc
theorem Good.ne {nm:List Nat} (h:Good nm):nm≠[]:=h.1
theorem Wl {nm:List Nat} (h:qi0 nm=false):nm.length≤16∧nm≠[46]∧nm≠[46,46]∧∀ c∈nm,c∉[47,0]:=by
 unfold qi0 at h
 simp only[Bool.or_eq_false_iff] at h
 obtain⟨h1,h2,h3,h4⟩:=h
 refine⟨?_,eqB_ne.1 h2,eqB_ne.1 h3,qa8 h4⟩
 rw[← Bool.not_eq_true,Nat.blt_eq] at h1
 omega
theorem Good.slash {nm:List Nat} (h:Good nm):47∉nm:=fun e=>(Wl h.2).2.2.2 47 e (by simp)
theorem Good.len {nm:List Nat} (h:Good nm):nm.length≤16:=(Wl h.2).1
theorem q3n {c:Nat} (h:c≠47):Nat.beq c 47=false:=by
 cases e:Nat.beq c 47 with
 | false=>rfl
 | true=>exact absurd (Nat.eq_of_beq_eq_true e) h
theorem VP:∀ {p:List Nat},47∉p→qE p=[p]
 | [],_=>rfl
 | c::l,h=>by
  have h1:c≠47:=fun e=>h (by rw[e];simp)
  have ih:=VP (p:=l) (fun e=>h (List.mem_cons_of_mem _ e))
  simp only[qE,q3n h1,cond_false,ih]
theorem qbh:∀ {p q:List Nat},47∉p→qE (p++47::q)=p::qE q
 | [],q,_=>by simp[qE]
 | c::l,q,h=>by
  have h1:c≠47:=fun e=>h (by rw[e];simp)
  have ih:=qbh (p:=l) (q:=q) (fun e=>h (List.mem_cons_of_mem _ e))
  simp only[List.cons_append,qE,q3n h1,cond_false,ih]
theorem Zg {p:List Nat} {l:List (List Nat)} (h:l≠[]):qu [47] (p::l)=p++47::qu [47] l:=by
 cases l with
 | nil=>exact absurd rfl h
 | cons q l=>rfl
theorem X7:∀ {l:List (List Nat)},l≠[]→(∀ p∈l,47∉p)→qE (qu [47] l)=l
 | [],h,_=>absurd rfl h
 | [p],_,h=>VP (h p (by simp))
 | p::q::l,_,h=>by
  rw[Zg (by simp),qbh (h p (by simp)),X7 (by simp) (fun r hr=>h r (List.mem_cons_of_mem _ hr))]
theorem XN {l:List (List Nat)} (h:∀ p∈l,Good p):qu [47] l=[]↔l=[]:=by
 constructor
 ·intro e
  cases l with
  | nil=>rfl
  | cons p l =>
   have hp:=(h p (by simp)).1
   cases l with
   | nil=>exact absurd e hp
   | cons q l =>
    rw[Zg (by simp)] at e
    simp at e
 ·rintro rfl;rfl
theorem zT {l:List (List Nat)} (h:∀ p∈l,Good p):qw (qu [47] l)=l:=by
 by_cases hl:l=[]
 ·subst hl;rfl
 ·rw[Z0 (fun e=>hl ((XN h).1 e)),X7 hl (fun p hp=>(h p hp).slash)]
theorem qm6 {l r:List (List Nat)} (h:∀ p∈l,Good p) (h':∀ p∈r,Good p) (e:qu [47] l=qu [47] r):l=r:=by
 rw[← zT h,← zT h',e]
theorem Jx {l:List (List Nat)} {nm:List Nat} (h:l≠[]):qu [47] (l++[nm])=qu [47] l++47::nm:=by
 induction l with
 | nil=>exact absurd rfl h
 | cons p l ih =>
  cases l with
  | nil=>rfl
  | cons q l =>
   rw[List.cons_append,Zg (by simp),ih (by simp),Zg (l:=q::l) (by simp)]
   simp
theorem Yu {l:List (List Nat)} {nm:List Nat} (h:∀ p∈l,Good p) (hn:nm≠[]):zd (qu [47] l) nm=qu [47] (l++[nm]):=by
 unfold zd
 by_cases hl:l=[]
 ·subst hl;rfl
 ·rw[eqB_ne.2 (fun e=>hl ((XN h).1 e)),cond_false,eqB_ne.2 hn,cond_false,Jx hl]
theorem JW {l:List (List Nat)} {nm:List Nat}:(qu [47] l).length≤(qu [47] (l++[nm])).length:=by
 by_cases hl:l=[]
 ·subst hl;simp[qu]
 ·rw[Jx hl];simp
theorem qfn {l r:List (List Nat)} (hl:l≠[]) (hr:r≠[]):qu [47] (l++r)=qu [47] l++47::qu [47] r:=by
 induction l with
 | nil=>exact absurd rfl hl
 | cons p l ih =>
  cases l with
  | nil=>exact Zg hr
  | cons q l =>
   rw[List.cons_append,Zg (by simp),ih (by simp),Zg (l:=q::l) (by simp)]
   simp
theorem Yy:∀ {ps way out:List (List Nat)},zY way ps=some out→(∀ p∈way,Good p)→∀ p∈out,Good p
 | [],way,out,h,hw=>by simp only[zY,Option.some.injEq] at h;subst h;exact hw
 | q::ps,way,out,h,hw=>by
  simp only[zY] at h
  cases h1:eqB q [] with
  | true=>rw[h1] at h;exact Yy h hw
  | false =>
   rw[h1,cond_false] at h
   cases h2:eqB q [46] with
   | true=>rw[h2] at h;exact Yy h hw
   | false =>
    rw[h2,cond_false] at h
    cases h3:eqB q [46,46] with
    | true=>rw[h3] at h;exact Yy h (fun p hp=>hw p (List.mem_of_mem_take hp))
    | false =>
     rw[h3,cond_false] at h
     cases h4:qi0 q with
     | true=>rw[h4] at h;cases h
     | false =>
      rw[h4] at h
      refine Yy h (fun p hp=>?_)
      rcases List.mem_append.1 hp with hp|hp
      ·exact hw p hp
      ·rw[List.mem_singleton] at hp;subst hp;exact⟨eqB_ne.1 h1,h4⟩
theorem qfc:∀ {ps way:List (List Nat)},(∀ p∈ps,Good p)→zY way ps=some (way++ps)
 | [],way,_=>by simp[zY]
 | q::ps,way,h=>by
  have hq:=h q (by simp)
  have hb:=Wl hq.2
  simp only[zY,eqB_ne.2 hq.1,eqB_ne.2 hb.2.1,eqB_ne.2 hb.2.2.1,hq.2,cond_false]
  rw[qfc (fun p hp=>h p (List.mem_cons_of_mem _ hp))]
  simp
theorem qfp {b:List Nat} (h:ZM b=true):∀ p∈qw b,Good p:=by
 unfold ZM at h
 cases h1:eqB b [] with
 | true=>rw[eqB_eq.1 h1];intro p hp;cases hp
 | false =>
  rw[h1,cond_false,Bool.and_eq_true] at h
  rw[Z0 (eqB_ne.1 h1)]
  intro p hp
  have:=nameB_zero.1 (allB_iff.1 h.1 p hp)
  exact⟨eqB_ne.1 this.1,this.2⟩
theorem W8 {cw b q:List Nat} (h:Qr cw b=(q,0)):∃ way,q=qu [47] way∧(∀ p∈way,Good p)∧way.length≤8∧q.length≤140:=by
 unfold Qr at h
 cases h1:ZM cw with
 | false=>rw[h1] at h;simp at h
 | true =>
  rw[h1,cond_true] at h
  cases h2:eqB b [] with
  | true=>rw[h2] at h;simp at h
  | false =>
   rw[h2,cond_false] at h
   cases h3:Nat.blt 560 b.length with
   | true=>rw[h3] at h;simp at h
   | false =>
    rw[h3,cond_false] at h
    cases h4:zY (bif qr2 b then qw cw else[]) (qE b) with
    | none=>rw[h4] at h;simp at h
    | some way =>
     rw[h4] at h
     simp only at h
     have hg:∀ p∈way,Good p:=Yy h4 (by cases qr2 b;(intro p hp;cases hp);exact qfp h1)
     cases h5:Nat.blt 8 way.length with
     | true=>rw[h5] at h;simp at h
     | false =>
      rw[h5,cond_false] at h
      cases h6:Nat.blt 140 (qu [47] way).length with
      | true=>rw[h6] at h;simp at h
      | false =>
       rw[h6] at h
       simp only[cond_false,Prod.mk.injEq,and_true] at h
       rw[← Bool.not_eq_true,Nat.blt_eq] at h5 h6
       exact⟨way,h.symm,hg,by omega,by rw[← h];omega⟩
theorem VO {cw b:List Nat} {names:List (List Nat)} (h:Yj cw b=.inl names):(∀ p∈names,Good p)∧names.length≤8∧(qu [47] names).length≤140:=by
 unfold Yj at h
 cases hc:Qr cw b with
 | mk p c =>
  rw[hc] at h
  simp only at h
  cases h1:(Nat.beq c 402||Nat.beq c 403) with
  | true=>rw[h1] at h;cases h
  | false =>
   rw[h1,cond_false] at h
   cases h2:Nat.beq c 0 with
   | false=>rw[h2] at h;cases h
   | true =>
    rw[h2] at h
    rw[Nat.eq_of_beq_eq_true h2] at hc
    obtain⟨way,e,hg,h8,hl⟩:=W8 hc
    simp only[cond_true,Sum.inl.injEq] at h
    rw[e,zT hg] at h
    subst h
    exact⟨hg,h8,by rw[← e];exact hl⟩
theorem pathE_iff {p:List Nat}:X9 p=true↔∃ ps,ps≠[]∧p=qu [47] ps∧(∀ nm∈ps,Good nm)∧ps.length≤8∧p.length≤140:=by
 constructor
 ·intro h
  unfold X9 at h
  cases hc:Qr [] (47::p) with
  | mk q c =>
   rw[hc] at h
   simp only at h
   cases h2:Nat.beq c 0 with
   | false=>rw[h2] at h;cases h
   | true =>
    rw[h2,cond_true] at h
    rw[Nat.eq_of_beq_eq_true h2] at hc
    cases h3:eqB p [] with
    | true=>rw[h3] at h;cases h
    | false =>
     rw[h3,cond_false] at h
     have e:=eqB_eq.1 h
     subst e
     obtain⟨way,e,hg,h8,hl⟩:=W8 hc
     exact⟨way,fun e2=>eqB_ne.1 h3 (by rw[e,e2];rfl),e,hg,h8,hl⟩
 ·rintro⟨ps,hne,rfl,hg,h8,hl⟩
  have hne':qu [47] ps≠[]:=fun e=>hne ((XN hg).1 e)
  have e1:qE (47::qu [47] ps)=[]::ps:=by
   have:qE (47::qu [47] ps)=[]::qE (qu [47] ps):=rfl
   rw[this,X7 hne (fun p hp=>(hg p hp).slash)]
  have hb:Nat.blt 560 (47::qu [47] ps).length=false:=by rw[← Bool.not_eq_true,Nat.blt_eq];simp;omega
  have h5:Nat.blt 8 ps.length=false:=by rw[← Bool.not_eq_true,Nat.blt_eq];omega
  have h6:Nat.blt 140 (qu [47] ps).length=false:=by rw[← Bool.not_eq_true,Nat.blt_eq];omega
  have ew:zY [] ([]::ps)=some ps:=by
   have:zY [] ([]::ps)=zY [] ps:=rfl
   rw[this,qfc hg,List.nil_append]
  have hc:Qr [] (47::qu [47] ps)=(qu [47] ps,0):=by
   unfold Qr
   have r:qr2 (47::qu [47] ps)=false:=rfl
   have c0:ZM []=true:=rfl
   have e0:eqB (47::qu [47] ps) []=false:=rfl
   rw[c0,cond_true,e0,cond_false,hb,cond_false,r,cond_false,e1,ew]
   simp only[h5,h6,cond_false]
  unfold X9
  rw[hc]
  simp only[eqB_ne.2 hne',eqB_eq.2 rfl,cond_false]
  rfl
theorem qe4 {a nm:List Nat} (h:47∉nm):∀ {k:Nat},k≤nm.length→Zj (a++47::nm) 47 (a.length+1+k)=(a.length:Int)
 | 0,_=>by
  have:(a++47::nm)[a.length]?=some 47:=by simp
  simp only[Nat.add_zero,Zj,this]
  rfl
 | k+1,hk=>by
  have ih:=qe4 (a:=a) (nm:=nm) h (k:=k) (by omega)
  have e:(a++47::nm)[a.length+1+k]?=some nm[k]:=by
   rw[List.getElem?_append_right (by omega)]
   have:a.length+1+k - a.length=k+1:=by omega
   rw[this,List.getElem?_cons_succ,List.getElem?_eq_getElem (by omega)]
  have hne:nm[k]≠47:=fun e=>h (by rw[← e];exact List.getElem_mem _)
  show (bif (match (a++47::nm)[a.length+1+k]? with|some x=>Nat.beq x 47|none=>false) then _ else Zj (a++47::nm) 47 (a.length+1+k))=_
  rw[e]
  simp only[q3n hne,cond_false]
  exact ih
theorem qa5 {b:List Nat} (h:47∉b):∀ {k:Nat},Zj b 47 k=-1
 | 0=>rfl
 | k+1=>by
  have ih:=qa5 h (k:=k)
  simp only[Zj]
  cases hk:b[k]? with
  | none=>simpa using ih
  | some x =>
   have hne:x≠47:=fun e=>h (by rw[← e];exact List.mem_of_getElem? hk)
   simp only[q3n hne,cond_false]
   exact ih
theorem qhv {nm:List Nat}:qgz (47::nm) [47]=nm:=by
 have:hpB (47::nm) [47]=true:=by
  unfold hpB
  have:decide (((47::nm).length:Int) ≥ ([47].length:Int))=true:=by rw[decide_eq_true_eq];simp;omega
  rw[this]
  rfl
 unfold qgz
 rw[this]
 rfl
theorem qgt {nm:List Nat} (h:47∉nm) (hn:nm≠[]):qgz nm [47]=nm:=by
 have:hpB nm [47]=false:=by
  cases nm with
  | nil=>exact absurd rfl hn
  | cons c l =>
   have h1:c≠47:=fun e=>h (by rw[e];simp)
   unfold hpB
   have:decide (((c::l).length:Int) ≥ ([47].length:Int))=true:=by rw[decide_eq_true_eq];simp;omega
   rw[this,cond_true,eqB_ne]
   simpa using h1
 unfold qgz
 rw[this]
 rfl
theorem qjd {l:List (List Nat)} {nm:List Nat} (h:∀ p∈l,Good p) (hn:Good nm):(qu [47] (l++[nm])).take (Y2 (qu [47] (l++[nm])))=qu [47] l∧Jv (qu [47] (l++[nm]))=nm:=by
 by_cases hl:l=[]
 ·subst hl
  have e:qu [47] ([]++[nm])=nm:=rfl
  rw[e]
  have c:Y2 nm=0:=by unfold Y2;rw[qa5 hn.slash];rfl
  unfold Jv
  rw[c]
  exact⟨rfl,qgt hn.slash hn.1⟩
 ·rw[Jx hl]
  have e:(qu [47] l++47::nm).length=(qu [47] l).length+1+nm.length:=by simp;omega
  have c:Y2 (qu [47] l++47::nm)=(qu [47] l).length:=by
   unfold Y2
   rw[e,qe4 hn.slash (Nat.le_refl _)]
   rfl
  unfold Jv
  rw[c]
  refine⟨by simp,?_⟩
  rw[List.drop_left,qhv]
theorem YC:∀ {a:List Nat},ltB a a=false
 | []=>rfl
 | a::x=>by
  have h:Nat.blt a a=false:=by rw[← Bool.not_eq_true,Nat.blt_eq];omega
  simp only[ltB,h,cond_false,Nat.beq_refl,cond_true]
  exact YC
theorem qc4 {a b:Nat} {x y:List Nat}:ltB (a::x) (b::y)=true↔a < b∨(a=b∧ltB x y=true):=by
 simp only[ltB]
 by_cases h:a < b
 ·rw[Nat.blt_eq.mpr h];simp[h]
 ·have h1:Nat.blt a b=false:=by rw[← Bool.not_eq_true,Nat.blt_eq];exact h
  rw[h1,cond_false]
  by_cases e:a=b
  ·subst e;simp
  ·have:Nat.beq a b=false:=by rw[zN,decide_eq_false_iff_not];exact e
   rw[this];simp[h,e]
theorem WF:∀ {a b c:List Nat},ltB a b=true→ltB b c=true→ltB a c=true
 | _,_,[],_,h=>by simp[ltB] at h
 | _,[],_::_,h,_=>by simp[ltB] at h
 | [],_::_,_::_,_,_=>rfl
 | a::x,b::y,c::z,h,h'=>by
  rw[qc4] at *
  rcases h with h|⟨rfl,h⟩ <;> rcases h' with h'|⟨rfl,h'⟩
  ·exact Or.inl (by omega)
  ·exact Or.inl h
  ·exact Or.inl h'
  ·exact Or.inr ⟨rfl,WF h h'⟩
theorem Wq:∀ {a b:List Nat},a≠b→ltB a b=false→ltB b a=true
 | [],[],h,_=>absurd rfl h
 | [],_::_,_,h=>by simp[ltB] at h
 | _::_,[],_,_=>rfl
 | a::x,b::y,h,h'=>by
  rw[← Bool.not_eq_true,qc4] at h'
  rw[qc4]
  by_cases e:a=b
  ·subst e
   refine Or.inr ⟨rfl,Wq (fun e=>h (by rw[e])) ?_⟩
   rw[← Bool.not_eq_true]
   exact fun e=>h' (Or.inr ⟨rfl,e⟩)
  ·refine Or.inl ?_
   have:¬ a < b:=fun e=>h' (Or.inl e)
   omega
theorem qro {a b:List Nat}:qok a b < 0↔ltB a b=true:=by
 unfold qok
 cases ltB a b with
 | true=>simp
 | false=>cases eqB a b <;> simp
theorem qn1 {a b:List Nat}:(qok a b==0)=eqB a b:=by
 unfold qok
 cases h:ltB a b with
 | true =>
  have:eqB a b=false:=by
   rw[eqB_ne]
   intro e
   rw[e,YC] at h
   cases h
  rw[this]
  rfl
 | false=>cases eqB a b <;> rfl
def LtP (a b:List (List Nat)):Prop:=qpl a b < 0
theorem Xz {a b:List Nat} {x y:List (List Nat)}:LtP (a::x) (b::y)↔ltB a b=true∨(a=b∧LtP x y):=by
 unfold LtP
 simp only[qpl,qn1]
 cases h:eqB a b with
 | true =>
  have e:=eqB_eq.1 h
  subst e
  simp[YC]
 | false =>
  have:=eqB_ne.1 h
  rw[cond_false,qro]
  simp[this]
theorem qcb {b:List Nat} {y:List (List Nat)}:LtP [] (b::y):=by unfold LtP;simp[qpl]
theorem Xk {x:List (List Nat)}:¬ LtP x []:=by
 unfold LtP
 cases x <;> simp[qpl]
theorem Qt:∀ {a:List (List Nat)},¬ LtP a a
 | []=>Xk
 | a::x=>by
  rw[Xz]
  rintro (h|⟨_,h⟩)
  ·rw[YC] at h;cases h
  ·exact Qt h
theorem QU:∀ {a b c:List (List Nat)},LtP a b→LtP b c→LtP a c
 | _,_,[],_,h=>absurd h Xk
 | _,[],_,h,_=>absurd h Xk
 | [],_::_,_::_,_,_=>qcb
 | a::x,b::y,c::z,h,h'=>by
  rw[Xz] at *
  rcases h with h|⟨rfl,h⟩ <;> rcases h' with h'|⟨rfl,h'⟩
  ·exact Or.inl (WF h h')
  ·exact Or.inl h
  ·exact Or.inl h'
  ·exact Or.inr ⟨rfl,QU h h'⟩
theorem qgv:∀ {p x y:List (List Nat)},LtP (p++x) (p++y)↔LtP x y
 | [],_,_=>Iff.rfl
 | a::p,x,y=>by
  rw[List.cons_append,List.cons_append,Xz,qgv]
  simp[YC]
theorem qge {p:List (List Nat)} {a:List Nat} {x:List (List Nat)}:LtP p (p++a::x):=by
 have:=(qgv (p:=p) (x:=[]) (y:=a::x)).2 qcb
 rwa [List.append_nil] at this
theorem XS:∀ {a b:List (List Nat)},a≠b→¬ LtP a b→LtP b a
 | [],[],h,_=>absurd rfl h
 | [],_::_,_,h=>absurd qcb h
 | _::_,[],_,_=>qcb
 | a::x,b::y,h,h'=>by
  rw[Xz] at *
  by_cases e:a=b
  ·subst e
   exact Or.inr ⟨rfl,XS (fun e=>h (by rw[e])) (fun e=>h' (Or.inr ⟨rfl,e⟩))⟩
  ·refine Or.inl (Wq e ?_)
   rw[← Bool.not_eq_true]
   exact fun e=>h' (Or.inl e)
theorem YW {α:Type} {r:α→α→Prop} (ir:∀ a,¬ r a a) (tr:∀ a b c,r a b→r b c→r a c):∀ {l l':List α},l.Pairwise r→l'.Pairwise r→(∀ a,a∈l↔a∈l')→l=l'
 | [],[],_,_,_=>rfl
 | [],b::_,_,_,h=>by have:=(h b).2 (by simp);cases this
 | a::_,[],_,_,h=>by have:=(h a).1 (by simp);cases this
 | a::l,b::l',hl,hl',h=>by
  rw[List.pairwise_cons] at hl hl'
  have e:a=b:=by
   rcases List.mem_cons.1 ((h a).1 (by simp)) with e|e
   ·exact e
   ·rcases List.mem_cons.1 ((h b).2 (by simp)) with e2|e2
    ·exact e2.symm
    ·exact absurd (tr _ _ _ (hl.1 b e2) (hl'.1 a e)) (ir a)
  subst e
  rw[YW ir tr hl.2 hl'.2 (fun x=>?_)]
  constructor
  ·intro hx
   rcases List.mem_cons.1 ((h x).1 (List.mem_cons_of_mem _ hx)) with e|e
   ·subst e;exact absurd (hl.1 _ hx) (ir _)
   ·exact e
  ·intro hx
   rcases List.mem_cons.1 ((h x).2 (List.mem_cons_of_mem _ hx)) with e|e
   ·subst e;exact absurd (hl'.1 _ hx) (ir _)
   ·exact e
abbrev Kids:=List (List Nat × Nat)
def keys (l:Kids):List (List Nat):=l.map (·.1)
theorem KI {p:List Nat} {j:Nat}:∀ {l:Kids},ql p l=some j→(p,j)∈l
 | [],h=>by cases h
 | (q,i)::l,h=>by
  simp only[ql] at h
  cases e:eqB p q with
  | true=>rw[e] at h;cases h;rw[eqB_eq.1 e];simp
  | false=>rw[e] at h;exact List.mem_cons_of_mem _ (KI h)
theorem lookK_none {p:List Nat}:∀ {l:Kids},ql p l=none↔p∉keys l
 | []=>by simp[ql,keys]
 | (q,i)::l=>by
  have ih:=lookK_none (p:=p) (l:=l)
  simp only[ql,keys,List.map_cons,List.mem_cons] at *
  cases e:eqB p q with
  | true=>simp[eqB_eq.1 e]
  | false=>simp[ih,eqB_ne.1 e]
theorem qej {p:List Nat} {j:Nat}:∀ {l:Kids},(keys l).Nodup→(p,j)∈l→ql p l=some j
 | [],_,h=>by cases h
 | (q,i)::l,hn,h=>by
  simp only[keys,List.map_cons,List.nodup_cons] at hn
  simp only[ql]
  rcases List.mem_cons.1 h with e|h
  ·cases e;rw[eqB_eq.2 rfl];rfl
  ·have:p≠q:=fun e=>hn.1 (by rw[← e];exact List.mem_map.2 ⟨_,h,rfl⟩)
   rw[eqB_ne.2 this,cond_false]
   exact qej hn.2 h
theorem Zq {p q:List Nat} {j:Nat}:∀ {l:Kids},ql q (setK p j l)=if q=p then some j else ql q l
 | []=>by
  by_cases e:q=p
  ·simp[setK,ql,e,eqB_eq.2]
  ·simp[setK,ql,e,eqB_ne.2 e]
 | (r,i)::l=>by
  have ih:=Zq (p:=p) (q:=q) (j:=j) (l:=l)
  simp only[setK]
  cases h:eqB p r with
  | true =>
   have:=eqB_eq.1 h
   subst this
   simp only[cond_true,ql]
   by_cases e:q=p
   ·simp[e,eqB_eq.2]
   ·simp[e,eqB_ne.2 e]
  | false =>
   simp only[cond_false,ql]
   by_cases e:q=p
   ·subst e;rw[h,cond_false,ih];simp
   ·rw[ih];simp[e]
theorem Ze {p q:List Nat}:∀ {l:Kids},(keys l).Nodup→ql q (qH p l)=if q=p then none else ql q l
 | [],_=>by simp[qH,ql]
 | (r,i)::l,hn=>by
  simp only[keys,List.map_cons,List.nodup_cons] at hn
  have ih:=Ze (p:=p) (q:=q) hn.2
  simp only[qH]
  cases h:eqB p r with
  | true =>
   have:=eqB_eq.1 h
   subst this
   simp only[cond_true,ql]
   by_cases e:q=p
   ·subst e;simpa using lookK_none.2 hn.1
   ·simp[e,eqB_ne.2 e]
  | false =>
   simp only[cond_false,ql]
   by_cases e:q=p
   ·subst e;rw[h,cond_false,ih];simp
   ·rw[ih];simp[e]
theorem qjl {p:List Nat} {j:Nat}:∀ {l:Kids},ql p l=none→setK p j l=l++[(p,j)]
 | [],_=>rfl
 | (r,i)::l,h=>by
  simp only[ql] at h
  simp only[setK]
  cases e:eqB p r with
  | true=>rw[e] at h;cases h
  | false =>
   rw[e] at h
   simp only[cond_false,List.cons_append]
   rw[qjl h]
theorem qjq {p:List Nat} {j:Nat} {l:Kids} (hn:(keys l).Nodup) (h:ql p l=none):(keys (setK p j l)).Nodup:=by
 rw[qjl h]
 simp only[keys,List.map_append,List.map_cons,List.map_nil]
 rw[List.nodup_append]
 refine⟨hn,by simp,?_⟩
 intro a ha b hb e
 simp at hb
 subst hb
 subst e
 exact lookK_none.1 h ha
theorem erase_sub {p:List Nat}:∀ {l:Kids},(qH p l).Sublist l
 | []=>List.Sublist.slnil
 | (r,i)::l=>by
  simp only[qH]
  cases eqB p r with
  | true=>exact List.Sublist.cons _ (List.Sublist.refl _)
  | false=>exact List.Sublist.cons_cons _ erase_sub
theorem qau {p:List Nat} {l:Kids} (hn:(keys l).Nodup):(keys (qH p l)).Nodup:=List.Nodup.sublist (erase_sub.map _) hn
theorem ins_mem {x y:List Nat}:∀ {l:List (List Nat)},y∈Zc x l↔y=x∨y∈l
 | []=>by simp[Zc]
 | z::l=>by
  simp only[Zc]
  cases ltB x z with
  | true=>simp
  | false=>simp only[cond_false,List.mem_cons,ins_mem (l:=l)];constructor <;> (rintro (h|h|h) <;> simp[h])
theorem sort_mem {y:List Nat}:∀ {l:List (List Nat)},y∈Q0 l↔y∈l
 | []=>by simp[Q0]
 | x::l=>by simp only[Q0,ins_mem,List.mem_cons,sort_mem (l:=l)]
theorem qe5 {x:List Nat}:∀ {l:List (List Nat)},l.Pairwise (fun a b=>ltB a b=true)→x∉l→(Zc x l).Pairwise (fun a b=>ltB a b=true)
 | [],_,_=>by simp[Zc]
 | z::l,h,hx=>by
  rw[List.pairwise_cons] at h
  simp only[Zc]
  cases e:ltB x z with
  | true =>
   rw[cond_true,List.pairwise_cons]
   refine⟨fun a ha=>?_,List.pairwise_cons.2 h⟩
   rcases List.mem_cons.1 ha with rfl|ha
   ·exact e
   ·exact WF e (h.1 a ha)
  | false =>
   rw[cond_false,List.pairwise_cons]
   refine⟨fun a ha=>?_,qe5 h.2 (fun e=>hx (List.mem_cons_of_mem _ e))⟩
   rcases ins_mem.1 ha with rfl|ha
   ·exact Wq (fun e=>hx (by rw[e];simp)) e
   ·exact h.1 a ha
theorem VB:∀ {l:List (List Nat)},l.Nodup→(Q0 l).Pairwise (fun a b=>ltB a b=true)
 | [],_=>by simp[Q0]
 | x::l,h=>by
  rw[List.nodup_cons] at h
  exact qe5 (VB h.2) (fun e=>h.1 (sort_mem.1 e))
theorem qnt:∀ {l:List (List Nat)},l.Pairwise (fun a b=>ltB a b=true)→qlh l=true
 | [],_=>rfl
 | [_],_=>rfl
 | x::y::l,h=>by
  rw[List.pairwise_cons] at h
  simp only[qlh]
  rw[h.1 y (by simp),cond_true]
  exact qnt h.2
theorem qfe:∀ {l:List (List Nat)},(∀ p∈l,p.length≤1000000)→J5 l=true
 | [],_=>rfl
 | x::l,h=>by
  simp only[J5]
  rw[Nat.ble_eq.mpr (h x (by simp)),cond_true]
  exact qfe (fun p hp=>h p (List.mem_cons_of_mem _ hp))
theorem qjj:∀ {l:List (List Nat)},(Q0 l).length=l.length:=fun {l}=>(Vi l).length_eq
theorem qka {l:Kids} (hn:(keys l).Nodup) (hg:∀ p∈keys l,Good p) (hl:l.length≤1000000):ZD l=some (Q0 (keys l)):=by
 unfold ZD
 have h1:qlh (Q0 (l.map (·.1)))=true:=qnt (VB hn)
 have h2:Nat.ble (Q0 (l.map (·.1))).length 1000000=true:=Nat.ble_eq.mpr (by rw[qjj];simpa using hl)
 have h3:J5 (Q0 (l.map (·.1)))=true:=qfe (fun p hp=>by have:=(hg p (sort_mem.1 hp)).len;omega)
 rw[h1,h2,h3]
 rfl
end Go.AX
