import Derived.Test.YtkcbaokljkalcaaGreatBy2H1
set_option linter.unusedVariables false
set_option linter.unusedSimpArgs false
set_option linter.defProp false
namespace Go.AX
open Go.Proofs Go.RowKit
set_option maxRecDepth 100000
set_option linter.unusedSimpArgs false
set_option linter.unusedVariables false
def Good (nm:List Nat):Prop:=nm≠[]∧qfx nm=false
theorem eqB_eq {a b:List Nat}:eqB a b=true↔a=b:=by rw[qG,decide_eq_true_eq]
theorem eqB_ne {a b:List Nat}:eqB a b=false↔a≠b:=by rw[qG,decide_eq_false_iff_not]
theorem memB_iff {c:Nat}:∀ {l:List Nat},qny c l=true↔c∈l
 | []=>by simp[qny]
 | x::l=>by
  have ih:=memB_iff (c:=c) (l:=l)
  simp only[qny,List.mem_cons]
  cases h:Nat.beq c x with
  | true=>simp[Nat.eq_of_beq_eq_true h]
  | false =>
   have:c≠x:=fun e=>by rw[e,Nat.beq_refl] at h;cases h
   simp[ih,this]
theorem WE {cs:List Nat}:∀ {l:List Nat},qf1 cs l=false→∀ c∈l,c∉cs
 | [],_,c,h=>by cases h
 | x::l,h,c,hc=>by
  simp only[qf1] at h
  cases hm:qny x cs with
  | true=>rw[hm] at h;cases h
  | false =>
   rw[hm,cond_false] at h
   rcases List.mem_cons.1 hc with rfl|hc
   ·intro e
    rw[memB_iff.2 e] at hm
    cases hm
   ·exact WE h c hc
theorem Good.ne {nm:List Nat} (h:Good nm):nm≠[]:=h.1
theorem KI {nm:List Nat} (h:qfx nm=false):nm.length≤16∧nm≠[46]∧nm≠[46,46]∧∀ c∈nm,c∉[47,0]:=by
 unfold qfx at h
 simp only[Bool.or_eq_false_iff] at h
 obtain⟨h1,h2,h3,h4⟩:=h
 refine⟨?_,eqB_ne.1 h2,eqB_ne.1 h3,WE h4⟩
 rw[← Bool.not_eq_true,Nat.blt_eq] at h1
 omega
theorem Good.slash {nm:List Nat} (h:Good nm):47∉nm:=fun e=>(KI h.2).2.2.2 47 e (by simp)
theorem Good.len {nm:List Nat} (h:Good nm):nm.length≤16:=(KI h.2).1
theorem q4r {c:Nat} (h:c≠47):Nat.beq c 47=false:=by
 cases e:Nat.beq c 47 with
 | false=>rfl
 | true=>exact absurd (Nat.eq_of_beq_eq_true e) h
theorem J8:∀ {p:List Nat},47∉p→qv p=[p]
 | [],_=>rfl
 | c::l,h=>by
  have h1:c≠47:=fun e=>h (by rw[e];simp)
  have ih:=J8 (p:=l) (fun e=>h (List.mem_cons_of_mem _ e))
  simp only[qv,q4r h1,cond_false,ih]
theorem Vg:∀ {p q:List Nat},47∉p→qv (p++47::q)=p::qv q
 | [],q,_=>by simp[qv]
 | c::l,q,h=>by
  have h1:c≠47:=fun e=>h (by rw[e];simp)
  have ih:=Vg (p:=l) (q:=q) (fun e=>h (List.mem_cons_of_mem _ e))
  simp only[List.cons_append,qv,q4r h1,cond_false,ih]
theorem QA {p:List Nat} {l:List (List Nat)} (h:l≠[]):qo [47] (p::l)=p++47::qo [47] l:=by
 cases l with
 | nil=>exact absurd rfl h
 | cons q l=>rfl
theorem JN:∀ {l:List (List Nat)},l≠[]→(∀ p∈l,47∉p)→qv (qo [47] l)=l
 | [],h,_=>absurd rfl h
 | [p],_,h=>J8 (h p (by simp))
 | p::q::l,_,h=>by
  rw[QA (by simp),Vg (h p (by simp)),JN (by simp) (fun r hr=>h r (List.mem_cons_of_mem _ hr))]
theorem join_pieces:∀ {b:List Nat},qo [47] (qv b)=b
 | []=>rfl
 | c::l=>by
  have ih:=join_pieces (b:=l)
  simp only[qv]
  cases h:Nat.beq c 47 with
  | true =>
   rw[cond_true,QA (Yk l),ih,Nat.eq_of_beq_eq_true h]
   rfl
  | false =>
   rw[cond_false]
   cases hp:qv l with
   | nil=>exact absurd hp (Yk l)
   | cons p ps =>
    rw[hp] at ih
    simp only
    cases ps with
    | nil=>simp only[qo] at ih ⊢;rw[ih]
    | cons q qs =>
     rw[QA (by simp)] at ih ⊢
     rw[← ih]
     rfl
theorem ZE {l:List (List Nat)} (h:∀ p∈l,Good p):qo [47] l=[]↔l=[]:=by
 constructor
 ·intro e
  cases l with
  | nil=>rfl
  | cons p l =>
   have hp:=(h p (by simp)).1
   cases l with
   | nil=>exact absurd e hp
   | cons q l =>
    rw[QA (by simp)] at e
    simp at e
 ·rintro rfl;rfl
theorem qW {l:List (List Nat)} (h:∀ p∈l,Good p):qq (qo [47] l)=l:=by
 by_cases hl:l=[]
 ·subst hl;rfl
 ·rw[zX (fun e=>hl ((ZE h).1 e)),JN hl (fun p hp=>(h p hp).slash)]
theorem ql8 {l r:List (List Nat)} (h:∀ p∈l,Good p) (h':∀ p∈r,Good p) (e:qo [47] l=qo [47] r):l=r:=by
 rw[← qW h,← qW h',e]
theorem Jh {l:List (List Nat)} {nm:List Nat} (h:l≠[]):qo [47] (l++[nm])=qo [47] l++47::nm:=by
 induction l with
 | nil=>exact absurd rfl h
 | cons p l ih =>
  cases l with
  | nil=>rfl
  | cons q l =>
   rw[List.cons_append,QA (by simp),ih (by simp),QA (l:=q::l) (by simp)]
   simp
theorem qae {l:List (List Nat)} {nm:List Nat} (h:∀ p∈l,Good p) (hn:nm≠[]):YP (qo [47] l) nm=qo [47] (l++[nm]):=by
 unfold YP
 by_cases hl:l=[]
 ·subst hl;rfl
 ·rw[eqB_ne.2 (fun e=>hl ((ZE h).1 e)),cond_false,eqB_ne.2 hn,cond_false,Jh hl]
theorem Wy {l:List (List Nat)} {nm:List Nat}:(qo [47] l).length≤(qo [47] (l++[nm])).length:=by
 by_cases hl:l=[]
 ·subst hl;simp[qo]
 ·rw[Jh hl];simp
theorem Yc:∀ {ps way out:List (List Nat)},zK way ps=some out→(∀ p∈way,Good p)→∀ p∈out,Good p
 | [],way,out,h,hw=>by simp only[zK,Option.some.injEq] at h;subst h;exact hw
 | q::ps,way,out,h,hw=>by
  simp only[zK] at h
  cases h1:eqB q [] with
  | true=>rw[h1] at h;exact Yc h hw
  | false =>
   rw[h1,cond_false] at h
   cases h2:eqB q [46] with
   | true=>rw[h2] at h;exact Yc h hw
   | false =>
    rw[h2,cond_false] at h
    cases h3:eqB q [46,46] with
    | true=>rw[h3] at h;exact Yc h (fun p hp=>hw p (List.mem_of_mem_take hp))
    | false =>
     rw[h3,cond_false] at h
     cases h4:qfx q with
     | true=>rw[h4] at h;cases h
     | false =>
      rw[h4] at h
      refine Yc h (fun p hp=>?_)
      rcases List.mem_append.1 hp with hp|hp
      ·exact hw p hp
      ·rw[List.mem_singleton] at hp;subst hp;exact⟨eqB_ne.1 h1,h4⟩
theorem qfg:∀ {ps way:List (List Nat)},(∀ p∈ps,Good p)→zK way ps=some (way++ps)
 | [],way,_=>by simp[zK]
 | q::ps,way,h=>by
  have hq:=h q (by simp)
  have hb:=KI hq.2
  simp only[zK,eqB_ne.2 hq.1,eqB_ne.2 hb.2.1,eqB_ne.2 hb.2.2.1,hq.2,cond_false]
  rw[qfg (fun p hp=>h p (List.mem_cons_of_mem _ hp))]
  simp
theorem qdu {b:List Nat} (h:Zt b=true):∀ p∈qq b,Good p:=by
 unfold Zt at h
 cases h1:eqB b [] with
 | true=>rw[eqB_eq.1 h1];intro p hp;cases hp
 | false =>
  rw[h1,cond_false,Bool.and_eq_true] at h
  rw[zX (eqB_ne.1 h1)]
  intro p hp
  have:=nameB_zero.1 (allB_iff.1 h.1 p hp)
  exact⟨eqB_ne.1 this.1,this.2⟩
theorem W7 {cw b q:List Nat} (h:Qf cw b=(q,0)):∃ way,q=qo [47] way∧(∀ p∈way,Good p)∧way.length≤8∧q.length≤140:=by
 unfold Qf at h
 cases h1:Zt cw with
 | false=>rw[h1] at h;simp at h
 | true =>
  rw[h1,cond_true] at h
  cases h2:eqB b [] with
  | true=>rw[h2] at h;simp at h
  | false =>
   rw[h2,cond_false] at h
   cases h3:Nat.blt 560 b.length with
   | true=>rw[h3] at h;simp at h
   | false =>
    rw[h3,cond_false] at h
    cases h4:zK (bif qq5 b then qq cw else[]) (qv b) with
    | none=>rw[h4] at h;simp at h
    | some way =>
     rw[h4] at h
     simp only at h
     have hg:∀ p∈way,Good p:=Yc h4 (by cases qq5 b;(intro p hp;cases hp);exact qdu h1)
     cases h5:Nat.blt 8 way.length with
     | true=>rw[h5] at h;simp at h
     | false =>
      rw[h5,cond_false] at h
      cases h6:Nat.blt 140 (qo [47] way).length with
      | true=>rw[h6] at h;simp at h
      | false =>
       rw[h6] at h
       simp only[cond_false,Prod.mk.injEq,and_true] at h
       rw[← Bool.not_eq_true,Nat.blt_eq] at h5 h6
       exact⟨way,h.symm,hg,by omega,by rw[← h];omega⟩
theorem Vy {cw b:List Nat} {names:List (List Nat)} (h:ZV cw b=.inl names):(∀ p∈names,Good p)∧names.length≤8∧(qo [47] names).length≤140:=by
 unfold ZV at h
 cases hc:Qf cw b with
 | mk p c =>
  rw[hc] at h
  simp only at h
  cases h1:(Nat.beq c 402||Nat.beq c 403) with
  | true=>rw[h1] at h;cases h
  | false =>
   rw[h1,cond_false] at h
   cases h2:Nat.beq c 0 with
   | false=>rw[h2] at h;cases h
   | true =>
    rw[h2] at h
    rw[Nat.eq_of_beq_eq_true h2] at hc
    obtain⟨way,e,hg,h8,hl⟩:=W7 hc
    simp only[cond_true,Sum.inl.injEq] at h
    rw[e,qW hg] at h
    subst h
    exact⟨hg,h8,by rw[← e];exact hl⟩
theorem pathE_iff {p:List Nat}:Zd p=true↔∃ ps,ps≠[]∧p=qo [47] ps∧(∀ nm∈ps,Good nm)∧ps.length≤8∧p.length≤140:=by
 constructor
 ·intro h
  unfold Zd at h
  cases hc:Qf [] (47::p) with
  | mk q c =>
   rw[hc] at h
   simp only at h
   cases h2:Nat.beq c 0 with
   | false=>rw[h2] at h;cases h
   | true =>
    rw[h2,cond_true] at h
    rw[Nat.eq_of_beq_eq_true h2] at hc
    cases h3:eqB p [] with
    | true=>rw[h3] at h;cases h
    | false =>
     rw[h3,cond_false] at h
     have e:=eqB_eq.1 h
     subst e
     obtain⟨way,e,hg,h8,hl⟩:=W7 hc
     exact⟨way,fun e2=>eqB_ne.1 h3 (by rw[e,e2];rfl),e,hg,h8,hl⟩
 ·rintro⟨ps,hne,rfl,hg,h8,hl⟩
  have hne':qo [47] ps≠[]:=fun e=>hne ((ZE hg).1 e)
  have e1:qv (47::qo [47] ps)=[]::ps:=by
   have:qv (47::qo [47] ps)=[]::qv (qo [47] ps):=rfl
   rw[this,JN hne (fun p hp=>(hg p hp).slash)]
  have hb:Nat.blt 560 (47::qo [47] ps).length=false:=by rw[← Bool.not_eq_true,Nat.blt_eq];simp;omega
  have h5:Nat.blt 8 ps.length=false:=by rw[← Bool.not_eq_true,Nat.blt_eq];omega
  have h6:Nat.blt 140 (qo [47] ps).length=false:=by rw[← Bool.not_eq_true,Nat.blt_eq];omega
  have ew:zK [] ([]::ps)=some ps:=by
   have:zK [] ([]::ps)=zK [] ps:=rfl
   rw[this,qfg hg,List.nil_append]
  have hc:Qf [] (47::qo [47] ps)=(qo [47] ps,0):=by
   unfold Qf
   have r:qq5 (47::qo [47] ps)=false:=rfl
   have c0:Zt []=true:=rfl
   have e0:eqB (47::qo [47] ps) []=false:=rfl
   rw[c0,cond_true,e0,cond_false,hb,cond_false,r,cond_false,e1,ew]
   simp only[h5,h6,cond_false]
  unfold Zd
  rw[hc]
  simp only[eqB_ne.2 hne',eqB_eq.2 rfl,cond_false]
  rfl
theorem Kd {a nm:List Nat} (h:47∉nm):∀ {k:Nat},k≤nm.length→Q9 (a++47::nm) 47 (a.length+1+k)=(a.length:Int)
 | 0,_=>by
  have:(a++47::nm)[a.length]?=some 47:=by simp
  simp only[Nat.add_zero,Q9,this]
  rfl
 | k+1,hk=>by
  have ih:=Kd (a:=a) (nm:=nm) h (k:=k) (by omega)
  have e:(a++47::nm)[a.length+1+k]?=some nm[k]:=by
   rw[List.getElem?_append_right (by omega)]
   have:a.length+1+k - a.length=k+1:=by omega
   rw[this,List.getElem?_cons_succ,List.getElem?_eq_getElem (by omega)]
  have hne:nm[k]≠47:=fun e=>h (by rw[← e];exact List.getElem_mem _)
  show (bif (match (a++47::nm)[a.length+1+k]? with|some x=>Nat.beq x 47|none=>false) then _ else Q9 (a++47::nm) 47 (a.length+1+k))=_
  rw[e]
  simp only[q4r hne,cond_false]
  exact ih
theorem XD {b:List Nat} (h:47∉b):∀ {k:Nat},Q9 b 47 k=-1
 | 0=>rfl
 | k+1=>by
  have ih:=XD h (k:=k)
  simp only[Q9]
  cases hk:b[k]? with
  | none=>simpa using ih
  | some x =>
   have hne:x≠47:=fun e=>h (by rw[← e];exact List.mem_of_getElem? hk)
   simp only[q4r hne,cond_false]
   exact ih
theorem qgj {nm:List Nat}:qg8 (47::nm) [47]=nm:=by
 have:hpB (47::nm) [47]=true:=by
  unfold hpB
  have:decide (((47::nm).length:Int) ≥ ([47].length:Int))=true:=by rw[decide_eq_true_eq];simp;omega
  rw[this]
  rfl
 unfold qg8
 rw[this]
 rfl
theorem qgx {nm:List Nat} (h:47∉nm) (hn:nm≠[]):qg8 nm [47]=nm:=by
 have:hpB nm [47]=false:=by
  cases nm with
  | nil=>exact absurd rfl hn
  | cons c l =>
   have h1:c≠47:=fun e=>h (by rw[e];simp)
   unfold hpB
   have:decide (((c::l).length:Int) ≥ ([47].length:Int))=true:=by rw[decide_eq_true_eq];simp;omega
   rw[this,cond_true,eqB_ne]
   simpa using h1
 unfold qg8
 rw[this]
 rfl
theorem qbr {l:List (List Nat)} {nm:List Nat} (h:∀ p∈l,Good p) (hn:Good nm):(qo [47] (l++[nm])).take (Z8 (qo [47] (l++[nm])))=qo [47] l∧Yz (qo [47] (l++[nm]))=nm:=by
 by_cases hl:l=[]
 ·subst hl
  have e:qo [47] ([]++[nm])=nm:=rfl
  rw[e]
  have c:Z8 nm=0:=by unfold Z8;rw[XD hn.slash];rfl
  unfold Yz
  rw[c]
  exact⟨rfl,qgx hn.slash hn.1⟩
 ·rw[Jh hl]
  have e:(qo [47] l++47::nm).length=(qo [47] l).length+1+nm.length:=by simp;omega
  have c:Z8 (qo [47] l++47::nm)=(qo [47] l).length:=by
   unfold Z8
   rw[e,Kd hn.slash (Nat.le_refl _)]
   rfl
  unfold Yz
  rw[c]
  refine⟨by simp,?_⟩
  rw[List.drop_left,qgj]
theorem QV:∀ {a:List Nat},ltB a a=false
 | []=>rfl
 | a::x=>by
  have h:Nat.blt a a=false:=by rw[← Bool.not_eq_true,Nat.blt_eq];omega
  simp only[ltB,h,cond_false,Nat.beq_refl,cond_true]
  exact QV
theorem qbo {a b:Nat} {x y:List Nat}:ltB (a::x) (b::y)=true↔a < b∨(a=b∧ltB x y=true):=by
 simp only[ltB]
 by_cases h:a < b
 ·rw[Nat.blt_eq.mpr h];simp[h]
 ·have h1:Nat.blt a b=false:=by rw[← Bool.not_eq_true,Nat.blt_eq];exact h
  rw[h1,cond_false]
  by_cases e:a=b
  ·subst e;simp
  ·have:Nat.beq a b=false:=by rw[zT,decide_eq_false_iff_not];exact e
   rw[this];simp[h,e]
theorem J4:∀ {a b c:List Nat},ltB a b=true→ltB b c=true→ltB a c=true
 | _,_,[],_,h=>by simp[ltB] at h
 | _,[],_::_,h,_=>by simp[ltB] at h
 | [],_::_,_::_,_,_=>rfl
 | a::x,b::y,c::z,h,h'=>by
  rw[qbo] at *
  rcases h with h|⟨rfl,h⟩ <;> rcases h' with h'|⟨rfl,h'⟩
  ·exact Or.inl (by omega)
  ·exact Or.inl h
  ·exact Or.inl h'
  ·exact Or.inr ⟨rfl,J4 h h'⟩
theorem Xi:∀ {a b:List Nat},a≠b→ltB a b=false→ltB b a=true
 | [],[],h,_=>absurd rfl h
 | [],_::_,_,h=>by simp[ltB] at h
 | _::_,[],_,_=>rfl
 | a::x,b::y,h,h'=>by
  rw[← Bool.not_eq_true,qbo] at h'
  rw[qbo]
  by_cases e:a=b
  ·subst e
   refine Or.inr ⟨rfl,Xi (fun e=>h (by rw[e])) ?_⟩
   rw[← Bool.not_eq_true]
   exact fun e=>h' (Or.inr ⟨rfl,e⟩)
  ·refine Or.inl ?_
   have:¬ a < b:=fun e=>h' (Or.inl e)
   omega
theorem qsd {a b:List Nat}:qpq a b < 0↔ltB a b=true:=by
 unfold qpq
 cases ltB a b with
 | true=>simp
 | false=>cases eqB a b <;> simp
theorem qn9 {a b:List Nat}:(qpq a b==0)=eqB a b:=by
 unfold qpq
 cases h:ltB a b with
 | true =>
  have:eqB a b=false:=by
   rw[eqB_ne]
   intro e
   rw[e,QV] at h
   cases h
  rw[this]
  rfl
 | false=>cases eqB a b <;> rfl
def LtP (a b:List (List Nat)):Prop:=qpp a b < 0
theorem Jx {a b:List Nat} {x y:List (List Nat)}:LtP (a::x) (b::y)↔ltB a b=true∨(a=b∧LtP x y):=by
 unfold LtP
 simp only[qpp,qn9]
 cases h:eqB a b with
 | true =>
  have e:=eqB_eq.1 h
  subst e
  simp[QV]
 | false =>
  have:=eqB_ne.1 h
  rw[cond_false,qsd]
  simp[this]
theorem XE {b:List Nat} {y:List (List Nat)}:LtP [] (b::y):=by unfold LtP;simp[qpp]
theorem Zs {x:List (List Nat)}:¬ LtP x []:=by
 unfold LtP
 cases x <;> simp[qpp]
theorem Q1:∀ {a:List (List Nat)},¬ LtP a a
 | []=>Zs
 | a::x=>by
  rw[Jx]
  rintro (h|⟨_,h⟩)
  ·rw[QV] at h;cases h
  ·exact Q1 h
theorem Qi:∀ {a b c:List (List Nat)},LtP a b→LtP b c→LtP a c
 | _,_,[],_,h=>absurd h Zs
 | _,[],_,h,_=>absurd h Zs
 | [],_::_,_::_,_,_=>XE
 | a::x,b::y,c::z,h,h'=>by
  rw[Jx] at *
  rcases h with h|⟨rfl,h⟩ <;> rcases h' with h'|⟨rfl,h'⟩
  ·exact Or.inl (J4 h h')
  ·exact Or.inl h
  ·exact Or.inl h'
  ·exact Or.inr ⟨rfl,Qi h h'⟩
theorem qhd:∀ {p x y:List (List Nat)},LtP (p++x) (p++y)↔LtP x y
 | [],_,_=>Iff.rfl
 | a::p,x,y=>by
  rw[List.cons_append,List.cons_append,Jx,qhd]
  simp[QV]
theorem qhf {p:List (List Nat)} {a:List Nat} {x:List (List Nat)}:LtP p (p++a::x):=by
 have:=(qhd (p:=p) (x:=[]) (y:=a::x)).2 XE
 rwa [List.append_nil] at this
theorem Xx:∀ {a b:List (List Nat)},a≠b→¬ LtP a b→LtP b a
 | [],[],h,_=>absurd rfl h
 | [],_::_,_,h=>absurd XE h
 | _::_,[],_,_=>XE
 | a::x,b::y,h,h'=>by
  rw[Jx] at *
  by_cases e:a=b
  ·subst e
   exact Or.inr ⟨rfl,Xx (fun e=>h (by rw[e])) (fun e=>h' (Or.inr ⟨rfl,e⟩))⟩
  ·refine Or.inl (Xi e ?_)
   rw[← Bool.not_eq_true]
   exact fun e=>h' (Or.inl e)
theorem Yq {α:Type} {r:α→α→Prop} (ir:∀ a,¬ r a a) (tr:∀ a b c,r a b→r b c→r a c):∀ {l l':List α},l.Pairwise r→l'.Pairwise r→(∀ a,a∈l↔a∈l')→l=l'
 | [],[],_,_,_=>rfl
 | [],b::_,_,_,h=>by have:=(h b).2 (by simp);cases this
 | a::_,[],_,_,h=>by have:=(h a).1 (by simp);cases this
 | a::l,b::l',hl,hl',h=>by
  rw[List.pairwise_cons] at hl hl'
  have e:a=b:=by
   rcases List.mem_cons.1 ((h a).1 (by simp)) with e|e
   ·exact e
   ·rcases List.mem_cons.1 ((h b).2 (by simp)) with e2|e2
    ·exact e2.symm
    ·exact absurd (tr _ _ _ (hl.1 b e2) (hl'.1 a e)) (ir a)
  subst e
  rw[Yq ir tr hl.2 hl'.2 (fun x=>?_)]
  constructor
  ·intro hx
   rcases List.mem_cons.1 ((h x).1 (List.mem_cons_of_mem _ hx)) with e|e
   ·subst e;exact absurd (hl.1 _ hx) (ir _)
   ·exact e
  ·intro hx
   rcases List.mem_cons.1 ((h x).2 (List.mem_cons_of_mem _ hx)) with e|e
   ·subst e;exact absurd (hl'.1 _ hx) (ir _)
   ·exact e
abbrev Kids:=List (List Nat × Nat)
def keys (l:Kids):List (List Nat):=l.map (·.1)
theorem qdq {p:List Nat} {j:Nat}:∀ {l:Kids},qM p l=some j→(p,j)∈l
 | [],h=>by cases h
 | (q,i)::l,h=>by
  simp only[qM] at h
  cases e:eqB p q with
  | true=>rw[e] at h;cases h;rw[eqB_eq.1 e];simp
  | false=>rw[e] at h;exact List.mem_cons_of_mem _ (qdq h)
theorem lookK_none {p:List Nat}:∀ {l:Kids},qM p l=none↔p∉keys l
 | []=>by simp[qM,keys]
 | (q,i)::l=>by
  have ih:=lookK_none (p:=p) (l:=l)
  simp only[qM,keys,List.map_cons,List.mem_cons] at *
  cases e:eqB p q with
  | true=>simp[eqB_eq.1 e]
  | false=>simp[ih,eqB_ne.1 e]
theorem Ye {p q:List Nat} {j:Nat}:∀ {l:Kids},qM q (setK p j l)=if q=p then some j else qM q l
 | []=>by
  by_cases e:q=p
  ·simp[setK,qM,e,eqB_eq.2]
  ·simp[setK,qM,e,eqB_ne.2 e]
 | (r,i)::l=>by
  have ih:=Ye (p:=p) (q:=q) (j:=j) (l:=l)
  simp only[setK]
  cases h:eqB p r with
  | true =>
   have:=eqB_eq.1 h
   subst this
   simp only[cond_true,qM]
   by_cases e:q=p
   ·simp[e,eqB_eq.2]
   ·simp[e,eqB_ne.2 e]
  | false =>
   simp only[cond_false,qM]
   by_cases e:q=p
   ·subst e;rw[h,cond_false,ih];simp
   ·rw[ih];simp[e]
theorem YD {p q:List Nat}:∀ {l:Kids},(keys l).Nodup→qM q (JB p l)=if q=p then none else qM q l
 | [],_=>by simp[JB,qM]
 | (r,i)::l,hn=>by
  simp only[keys,List.map_cons,List.nodup_cons] at hn
  have ih:=YD (p:=p) (q:=q) hn.2
  simp only[JB]
  cases h:eqB p r with
  | true =>
   have:=eqB_eq.1 h
   subst this
   simp only[cond_true,qM]
   by_cases e:q=p
   ·subst e;simpa using lookK_none.2 hn.1
   ·simp[e,eqB_ne.2 e]
  | false =>
   simp only[cond_false,qM]
   by_cases e:q=p
   ·subst e;rw[h,cond_false,ih];simp
   ·rw[ih];simp[e]
theorem qin {p:List Nat} {j:Nat}:∀ {l:Kids},qM p l=none→setK p j l=l++[(p,j)]
 | [],_=>rfl
 | (r,i)::l,h=>by
  simp only[qM] at h
  simp only[setK]
  cases e:eqB p r with
  | true=>rw[e] at h;cases h
  | false =>
   rw[e] at h
   simp only[cond_false,List.cons_append]
   rw[qin h]
theorem qsb {p:List Nat} {j:Nat} {l:Kids} (hn:(keys l).Nodup) (h:qM p l=none):(keys (setK p j l)).Nodup:=by
 rw[qin h]
 simp only[keys,List.map_append,List.map_cons,List.map_nil]
 rw[List.nodup_append]
 refine⟨hn,by simp,?_⟩
 intro a ha b hb e
 simp at hb
 subst hb
 subst e
 exact lookK_none.1 h ha
theorem qeg {p:List Nat}:∀ {l:Kids},(JB p l).Sublist l
 | []=>List.Sublist.slnil
 | (r,i)::l=>by
  simp only[JB]
  cases eqB p r with
  | true=>exact List.Sublist.cons _ (List.Sublist.refl _)
  | false=>exact List.Sublist.cons_cons _ qeg
theorem ins_mem {x y:List Nat}:∀ {l:List (List Nat)},y∈Y2 x l↔y=x∨y∈l
 | []=>by simp[Y2]
 | z::l=>by
  simp only[Y2]
  cases ltB x z with
  | true=>simp
  | false=>simp only[cond_false,List.mem_cons,ins_mem (l:=l)];constructor <;> (rintro (h|h|h) <;> simp[h])
theorem sort_mem {y:List Nat}:∀ {l:List (List Nat)},y∈Qq l↔y∈l
 | []=>by simp[Qq]
 | x::l=>by simp only[Qq,ins_mem,List.mem_cons,sort_mem (l:=l)]
theorem qe5 {x:List Nat}:∀ {l:List (List Nat)},l.Pairwise (fun a b=>ltB a b=true)→x∉l→(Y2 x l).Pairwise (fun a b=>ltB a b=true)
 | [],_,_=>by simp[Y2]
 | z::l,h,hx=>by
  rw[List.pairwise_cons] at h
  simp only[Y2]
  cases e:ltB x z with
  | true =>
   rw[cond_true,List.pairwise_cons]
   refine⟨fun a ha=>?_,List.pairwise_cons.2 h⟩
   rcases List.mem_cons.1 ha with rfl|ha
   ·exact e
   ·exact J4 e (h.1 a ha)
  | false =>
   rw[cond_false,List.pairwise_cons]
   refine⟨fun a ha=>?_,qe5 h.2 (fun e=>hx (List.mem_cons_of_mem _ e))⟩
   rcases ins_mem.1 ha with rfl|ha
   ·exact Xi (fun e=>hx (by rw[e];simp)) e
   ·exact h.1 a ha
theorem XY:∀ {l:List (List Nat)},l.Nodup→(Qq l).Pairwise (fun a b=>ltB a b=true)
 | [],_=>by simp[Qq]
 | x::l,h=>by
  rw[List.nodup_cons] at h
  exact qe5 (XY h.2) (fun e=>h.1 (sort_mem.1 e))
theorem qnt:∀ {l:List (List Nat)},l.Pairwise (fun a b=>ltB a b=true)→qsv l=true
 | [],_=>rfl
 | [_],_=>rfl
 | x::y::l,h=>by
  rw[List.pairwise_cons] at h
  simp only[qsv]
  rw[h.1 y (by simp),cond_true]
  exact qnt h.2
theorem qew:∀ {l:List (List Nat)},(∀ p∈l,p.length≤1000000)→Xc l=true
 | [],_=>rfl
 | x::l,h=>by
  simp only[Xc]
  rw[Nat.ble_eq.mpr (h x (by simp)),cond_true]
  exact qew (fun p hp=>h p (List.mem_cons_of_mem _ hp))
theorem qqy:∀ {l:List (List Nat)},(Qq l).length=l.length:=fun {l}=>(XP l).length_eq
theorem qk0 {l:Kids} (hn:(keys l).Nodup) (hg:∀ p∈keys l,Good p) (hl:l.length≤1000000):qlb l=some (Qq (keys l)):=by
 unfold qlb
 have h1:qsv (Qq (l.map (·.1)))=true:=qnt (XY hn)
 have h2:Nat.ble (Qq (l.map (·.1))).length 1000000=true:=Nat.ble_eq.mpr (by rw[qqy];simpa using hl)
 have h3:Xc (Qq (l.map (·.1)))=true:=qew (fun p hp=>by have:=(hg p (sort_mem.1 hp)).len;omega)
 rw[h1,h2,h3]
 rfl
end Go.AX
