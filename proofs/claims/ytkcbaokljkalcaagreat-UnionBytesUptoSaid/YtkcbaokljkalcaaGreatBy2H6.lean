import Derived.Test.YtkcbaokljkalcaaGreatBy2H5
set_option linter.unusedVariables false
set_option linter.unusedSimpArgs false
set_option linter.defProp false
namespace Go.AX
open Go.Proofs Go.RowKit
set_option maxRecDepth 1000000
set_option maxHeartbeats 400000000
set_option linter.unusedSimpArgs false
set_option linter.unusedVariables false
theorem WM:∀ {p r:List Nat},qv (p++47::r)=qv p++qv r
 | [],r=>by simp[qv]
 | c::p,r=>by
  have ih:=WM (p:=p) (r:=r)
  simp only[List.cons_append,qv,ih]
  cases hc:Nat.beq c 47 with
  | true=>simp
  | false =>
   simp only[cond_false]
   cases hp:qv p with
   | nil=>exact absurd hp (unP_pieces (b:=p)).2
   | cons q qs=>rfl
theorem qnl {k:List Nat} (h:upE k≠[]):YF (upE k) k < 0:=by
 obtain⟨r,hr⟩:=belK_iff.1 (JT rfl h)
 show LtP (qq (upE k)) (qq k)
 have hk:k≠[]:=fun e=>h (by rw[e];rfl)
 rw[zX h,zX hk]
 conv=>rhs;rw[hr]
 rw[WM]
 cases hp:qv r with
 | nil=>exact absurd hp (unP_pieces (b:=r)).2
 | cons a x=>exact qhf
theorem XX {p q:List Nat} {v:Nat}:∀ {l:List (List Nat × Nat)},qM q (setK p v l)=if q=p then some v else qM q l
 | []=>by
  simp only[setK,qM]
  cases he:eqB q p with
  | true=>rw[qG] at he;simp[of_decide_eq_true he]
  | false=>rw[qG] at he;simp[of_decide_eq_false he]
 | (r,x)::l=>by
  have ih:=XX (p:=p) (q:=q) (v:=v) (l:=l)
  simp only[setK]
  cases he:eqB p r with
  | true =>
   rw[qG] at he
   have:=of_decide_eq_true he
   subst this
   simp only[cond_true,qM]
   cases h2:eqB q p with
   | true=>rw[qG] at h2;simp[of_decide_eq_true h2]
   | false=>rw[qG] at h2;simp[of_decide_eq_false h2]
  | false =>
   rw[qG] at he
   have hpr:=of_decide_eq_false he
   simp only[cond_false,qM,ih]
   cases h2:eqB q r with
   | true =>
    rw[qG] at h2
    have:=of_decide_eq_true h2
    subst this
    have:¬ q=p:=fun h=>hpr h.symm
    simp[this]
   | false=>rfl
structure OI (pre:List En) (M:Md) (K:List (List Nat × Nat)):Prop where
 at_:∀ q u,qM q K=some u→∃ ud,M.T u=some ud∧((q=[]∧ud.kind=1)∨∃ f∈pre,f.1=q∧f.2.1=ud.kind)
 is:∀ q,q=[]∨q∈pre.map (·.1)→∃ u,qM q K=some u
theorem OI.zero:OI [] MZ [([],0)]:=by
 refine⟨fun q u h=>?_,fun q h=>?_⟩
 ·simp only[qM] at h
  cases he:eqB q [] with
  | false=>rw[he] at h;cases h
  | true =>
   rw[he] at h
   cases h
   rw[qG] at he
   exact⟨_,rfl,Or.inl ⟨of_decide_eq_true he,rfl⟩⟩
 ·rcases h with rfl|h
  ·exact⟨0,rfl⟩
  ·cases h
theorem OI.step {pre:List En} {M:Md} {K:List (List Nat × Nat)} (O:OI pre M K) {e:En} {u:Nat} {ud:Nd} (hu:M.T u=some ud) (hne:e.1≠[]) {nw:Nd} (hk:nw.kind=e.2.1) {nm:List Nat} :
  OI (pre++[e]) (VP M u ud nm nw) (setK e.1 M.nodes.length K):=by
 have hul:u < M.nodes.length:=Y1 hu
 have hT:∀ j x,M.T j=some x→∃ y,(VP M u ud nm nw).T j=some y∧y.kind=x.kind:=by
  intro j x hj
  have hjl:j < M.nodes.length:=Y1 hj
  show ∃ y,(M.nodes.set u { ud with kids:=setK nm M.nodes.length ud.kids }++[nw])[j]?=some y∧y.kind=x.kind
  rw[List.getElem?_append_left (by simpa using hjl),List.getElem?_set]
  by_cases h:u=j
  ·subst h
   rw[hu] at hj
   cases hj
   exact⟨{ ud with kids:=setK nm M.nodes.length ud.kids },by rw[if_pos rfl,if_pos hul],rfl⟩
  ·exact⟨x,by rw[if_neg h];exact hj,rfl⟩
 have hN:(VP M u ud nm nw).T M.nodes.length=some nw:=by
  show (M.nodes.set u { ud with kids:=setK nm M.nodes.length ud.kids }++[nw])[M.nodes.length]?=some nw
  rw[List.getElem?_append_right (by simp)]
  simp
 refine⟨fun q v h=>?_,fun q h=>?_⟩
 ·rw[XX] at h
  by_cases hq:q=e.1
  ·rw[if_pos hq] at h
   cases h
   exact⟨nw,hN,Or.inr ⟨e,by simp,hq.symm,hk.symm⟩⟩
  ·rw[if_neg hq] at h
   obtain⟨x,h1,h2⟩:=O.at_ q v h
   obtain⟨y,y1,y2⟩:=hT v x h1
   refine⟨y,y1,?_⟩
   rw[y2]
   rcases h2 with h2|⟨f,f1,f2⟩
   ·exact Or.inl h2
   ·exact Or.inr ⟨f,List.mem_append_left _ f1,f2⟩
 ·rw[XX]
  by_cases hq:q=e.1
  ·exact⟨_,if_pos hq⟩
  ·rw[if_neg hq]
   refine O.is q ?_
   rcases h with h|h
   ·exact Or.inl h
   ·simp only[List.map_append,List.map_cons,List.map_nil,List.mem_append,List.mem_singleton] at h
    rcases h with h|h
    ·exact Or.inr h
    ·exact absurd h hq
def qq0 (es:List En) (e:En):Prop:=upE e.1=[]∨∃ f∈es,f.1=upE e.1∧f.2.1=1
theorem qal:∀ {l pre:List En} {M:Md} {K:List (List Nat × Nat)} {pv:Option (List Nat)},OI pre M K→((pre++l).map (·.1)).Nodup→(∀ e∈l,YW e=true)→Vd l→(∀ p,pv=some p→∀ e∈l,YF p e.1 < 0) →
  (∀ e a b,l=a++e::b→qq0 (pre++a) e)→(∀ f∈pre,f.1≠[])→∃ M',Zc l M K pv=some M'
 | [],_,M,_,_,_,_,_,_,_,_,_=>⟨M,rfl⟩
 | e::l,pre,M,K,pv,O,hn,hm,hr,hpv,hd,h0=>by
  have hme:=hm e List.mem_cons_self
  have hup:=hd e [] l rfl
  rw[List.append_nil] at hup
  obtain⟨u,hu⟩:=O.is (upE e.1) (by
   rcases hup with h|⟨f,f1,f2,_⟩
   ·exact Or.inl h
   ·exact Or.inr (List.mem_map.2 ⟨f,f1,f2⟩))
  obtain⟨ud,hT,hkind⟩:=O.at_ _ _ hu
  have hk1:ud.kind=1:=by
   rcases hkind with⟨_,h⟩|⟨f,f1,f2,f3⟩
   ·exact h
   ·rcases hup with h|⟨g,g1,g2,g3⟩
    ·rw[h] at f2
     exact absurd f2 (h0 f f1)
    ·have hpn:(pre.map (·.1)).Nodup:=by
      rw[List.map_append,List.nodup_append] at hn
      exact hn.1
     have:f=g:=by
      obtain⟨i,hi⟩:=List.mem_iff_getElem?.1 f1
      obtain⟨j,hj⟩:=List.mem_iff_getElem?.1 g1
      have e1:(pre.map (·.1))[i]?=some (upE e.1):=by rw[List.getElem?_map,hi];simp[f2]
      have e2:(pre.map (·.1))[j]?=some (upE e.1):=by rw[List.getElem?_map,hj];simp[g2]
      obtain⟨l1,m1⟩:=List.getElem?_eq_some_iff.1 e1
      obtain⟨l2,m2⟩:=List.getElem?_eq_some_iff.1 e2
      have:i=j:=(List.getElem_inj hpn).1 (m1.trans m2.symm)
      subst this
      rw[hi] at hj
      cases hj
      rfl
     rw[← f3,this]
     exact g3
  have O':=O.step (e:=e) hT (qef hme) (nw:=⟨e.2.1,e.2.2.1,e.2.2.2,[],some u,Yz e.1,0⟩) rfl (nm:=Yz e.1)
  have hrc:=List.pairwise_cons.1 hr
  obtain⟨M',hM'⟩:=qal (l:=l) (pre:=pre++[e]) (pv:=some e.1) O' (by simpa using hn) (fun x hx=>hm x (List.mem_cons_of_mem _ hx)) hrc.2 (fun p hp x hx=>by cases hp;exact hrc.1 x hx) (fun x a b hab=>by
   have:=hd x (e::a) b (by rw[hab];rfl)
   simpa using this) (fun f hf=>by
   rcases List.mem_append.1 hf with h|h
   ·exact h0 f h
   ·rw[List.mem_singleton.1 h];exact qef hme)
  refine⟨M',?_⟩
  simp only[Zc,hme,cond_true]
  have hu':qM (e.1.take (Z8 e.1)) K=some u:=hu
  have hk1':(ud.kind != 1)=false:=by rw[hk1];rfl
  cases pv with
  | none =>
   simp only[hu',hT,hk1',cond_false,cond_true]
   exact hM'
  | some p =>
   have:=hpv p rfl e List.mem_cons_self
   simp only[this,decide_true,cond_true,hu',hT,hk1',cond_false]
   exact hM'
theorem qwi {es:List En} (hm:∀ e∈es,YW e=true) (hr:Vd es) (hd:∀ e∈es,qq0 es e) (hl:es.length≤128):∃ M,ofT es=some M:=by
 have hn:=Jl hr
 obtain⟨M,hM⟩:=qal (l:=es) (pre:=[]) (pv:=none) OI.zero (by simpa using hn) hm hr (fun p hp=>by cases hp) (fun e a b hab=>by
  rw[List.nil_append]
  rcases hd e (by rw[hab];simp) with h|⟨f,f1,f2,f3⟩
  ·exact Or.inl h
  ·by_cases hu:upE e.1=[]
   ·exact Or.inl hu
   ·have hlt:YF f.1 e.1 < 0:=by rw[f2];exact qnl hu
    refine Or.inr ⟨f,?_,f2,f3⟩
    rw[hab] at f1 hr
    rcases List.mem_append.1 f1 with h|h
    ·exact h
    ·exfalso
     have hpe:=(List.pairwise_append.1 hr).2.1
     rcases List.mem_cons.1 h with rfl|h
     ·exact Q1 (show LtP _ _ from hlt)
     ·have:=(List.pairwise_cons.1 hpe).1 f h
      exact Q1 (Qi (show LtP _ _ from hlt) (show LtP _ _ from this))) (fun f hf=>by cases hf)
 refine⟨{ M with many:=(es.length:Int) },?_⟩
 unfold ofT
 have:decide ((es.length:Int) > 128)=false:=by rw[decide_eq_false_iff_not];omega
 rw[this,cond_false,hM]
theorem qa1:∀ {l pre:List En} {M M':Md} {K:List (List Nat × Nat)} {pv:Option (List Nat)},OI pre M K→Zc l M K pv=some M'→∀ e∈l,qq0 (pre++l) e
 | [],_,_,_,_,_,_,_,_,h=>by cases h
 | e::l,pre,M,M',K,pv,O,h,x,hx=>by
  have hg:=(XV h).1 e List.mem_cons_self
  simp only[Zc,hg,cond_true] at h
  have h:(match qM (e.1.take (Z8 e.1)) K with
   | none=>none
   | some u=>match M.T u with
    | none=>none
    | some ud=>bif ud.kind != 1 then none else Zc l (VP M u ud (Yz e.1) ⟨e.2.1,e.2.2.1,e.2.2.2,[],some u,Yz e.1,0⟩) (setK e.1 M.nodes.length K) (some e.1))=some M':=by
   cases pv with
   | none=>exact h
   | some p =>
    cases hd:decide (YF p e.1 < 0) with
    | true=>simp only[hd,cond_true] at h;exact h
    | false=>simp[hd] at h
  cases hk:qM (e.1.take (Z8 e.1)) K with
  | none=>rw[hk] at h;cases h
  | some u =>
  rw[hk] at h
  simp only at h
  cases hu:M.T u with
  | none=>rw[hu] at h;cases h
  | some ud =>
  rw[hu] at h
  simp only at h
  cases hd:ud.kind != 1 with
  | true=>rw[hd] at h;cases h
  | false =>
  rw[hd,cond_false] at h
  have hk1:ud.kind=1:=by simpa using hd
  have O':=O.step (e:=e) hu (qef hg) (nw:=⟨e.2.1,e.2.2.1,e.2.2.2,[],some u,Yz e.1,0⟩) rfl (nm:=Yz e.1)
  rcases List.mem_cons.1 hx with rfl|hx
  ·obtain⟨ud',h1,h2⟩:=O.at_ _ _ hk
   rw[hu] at h1
   cases h1
   rcases h2 with⟨h2,_⟩|⟨f,f1,f2,f3⟩
   ·exact Or.inl h2
   ·exact Or.inr ⟨f,List.mem_append_left _ f1,f2,f3.trans hk1⟩
  ·have:=qa1 O' h x hx
   simpa using this
theorem qxy {es:List En} {M:Md} (h:ofT es=some M):∀ e∈es,qq0 es e:=by
 unfold ofT at h
 cases hl:decide ((es.length:Int) > 128) with
 | true=>rw[hl] at h;cases h
 | false =>
  rw[hl,cond_false] at h
  cases hr:Zc es MZ [([],0)] none with
  | none=>rw[hr] at h;cases h
  | some M'=>simpa using qa1 OI.zero hr
theorem KN {e:En} {pre:List En} (h:Z2 e pre=0) (h4:e.2.1≠4):Zd e.1=true∧YW (kd5 e)=true∧(e.2.1=1→e.2.2.1 ≥ 0∧e.2.2.1≤511):=by
 unfold Z2 at h
 cases h1:Vt e.2.1 with
 | false=>rw[h1] at h;cases h
 | true =>
 rw[h1,cond_true] at h
 cases h2:QP e pre != 0 with
 | true =>
  rw[h2,cond_true] at h
  rw[h] at h2
  cases h2
 | false =>
 rw[h2,cond_false] at h
 have h20:QP e pre=0:=by simpa using h2
 have hpath:Zd e.1=true:=by
  unfold QP at h20
  unfold Zd
  generalize Qf [] (47::e.1)=x at h20
  obtain⟨q,c⟩:=x
  simp only at h20 ⊢
  cases hc:Nat.beq c 0 with
  | false=>rw[hc] at h20;cases h20
  | true =>
   rw[hc,cond_true] at h20
   cases a1:eqB e.1 [] with
   | true=>rw[a1] at h20;cases h20
   | false =>
    rw[a1,cond_false] at h20
    cases a2:eqB q e.1 with
    | false=>rw[a2] at h20;cases h20
    | true=>rfl
 cases h3:Jd e with
 | false=>rw[h3] at h;cases h
 | true =>
 rw[h3,cond_true] at h
 cases h5:Yh e.2.1 (e.2.2.2.length:Int) with
 | false=>rw[h5] at h;cases h
 | true =>
 rw[h5,cond_true] at h
 unfold Jd at h3
 unfold Yh at h5
 unfold Vt at h1
 have hm:YW (kd5 e)=ZW (kd5 e):=by
  unfold YW
  show (bif Zd e.1 then _ else _)=_
  rw[hpath]
  rfl
 have n4:(e.2.1==4)=false:=by rw[beq_eq_false_iff_ne];exact h4
 refine⟨hpath,?_,fun hk=>?_⟩
 ·rw[hm]
  unfold ZW kd5
  simp only
  cases k5:e.2.1==5 with
  | true =>
   have e5:e.2.1=5:=by simpa using k5
   rw[e5] at h3 h5
   simp only[cond_true]
   have a1:((5:Int)==3)=false:=rfl
   have a2:((5:Int)==4)=false:=rfl
   have a3:((5:Int)==2)=false:=rfl
   have a4:((1:Int)==1)=true:=rfl
   rw[a1,a2,cond_false,cond_false] at h3
   rw[a1,a3,cond_false,cond_false] at h5
   rw[a4,cond_true]
   have hlen:e.2.2.2=[]:=by
    have:(e.2.2.2.length:Int)=0:=by simpa using h5
    exact List.length_eq_zero_iff.1 (by omega)
   cases b1:decide (e.2.2.1 ≥ 0) with
   | false=>rw[b1] at h3;cases h3
   | true =>
    rw[b1,cond_true] at h3
    rw[h3,cond_true,cond_true,hlen]
    rfl
  | false =>
   simp only[cond_false]
   cases k1:e.2.1==1 with
   | true =>
    have e1:e.2.1=1:=by simpa using k1
    rw[e1] at h3 h5
    have a1:((1:Int)==3)=false:=rfl
    have a2:((1:Int)==4)=false:=rfl
    have a3:((1:Int)==2)=false:=rfl
    rw[a1,a2,cond_false,cond_false] at h3
    rw[a1,a3,cond_false,cond_false] at h5
    simp only[cond_true]
    have hlen:e.2.2.2=[]:=by
     have:(e.2.2.2.length:Int)=0:=by simpa using h5
     exact List.length_eq_zero_iff.1 (by omega)
    cases b1:decide (e.2.2.1 ≥ 0) with
    | false=>rw[b1] at h3;cases h3
    | true =>
     rw[b1,cond_true] at h3
     rw[h3,cond_true,cond_true,hlen]
     rfl
   | false =>
    simp only[cond_false]
    cases k2:e.2.1==2 with
    | true =>
     have e2:e.2.1=2:=by simpa using k2
     rw[e2] at h3 h5
     have a1:((2:Int)==3)=false:=rfl
     have a2:((2:Int)==4)=false:=rfl
     have a3:((2:Int)==2)=true:=rfl
     rw[a1,a2,cond_false,cond_false] at h3
     rw[a3,cond_true] at h5
     simp only[cond_true]
     cases b1:decide (e.2.2.1 ≥ 0) with
     | false=>rw[b1] at h3;cases h3
     | true =>
      rw[b1,cond_true] at h3
      rw[h3,cond_true,cond_true]
      exact h5
    | false =>
     simp only[cond_false]
     cases k3:e.2.1==3 with
     | true =>
      have e3:e.2.1=3:=by simpa using k3
      rw[k3] at h h3 h5
      rw[k2] at h5
      rw[cond_true] at h h3
      rw[cond_false,cond_true] at h5
      rw[h3,cond_true,cond_true]
      unfold J5
      cases c1:qy1 e.2.2.2 0 with
      | true=>rw[c1] at h;cases h
      | false =>
       cases c2:decide ((e.2.2.2.length:Int) ≥ 1) with
       | false=>rw[c2] at h5;cases h5
       | true =>
        rw[c2,cond_true] at h5
        have c2:=of_decide_eq_true c2
        have c3:=of_decide_eq_true h5
        rw[Nat.ble_eq.mpr (by omega:1≤e.2.2.2.length),Nat.ble_eq.mpr (by omega:e.2.2.2.length≤64)]
        rfl
     | false =>
      exfalso
      have x1:e.2.1≠1:=by simpa using k1
      have x2:e.2.1≠2:=by simpa using k2
      have x3:e.2.1≠3:=by simpa using k3
      have x5:e.2.1≠5:=by simpa using k5
      cases y1:decide (e.2.1 ≥ 1) with
      | false=>rw[y1] at h1;cases h1
      | true =>
       rw[y1,cond_true] at h1
       have:=of_decide_eq_true y1
       have:=of_decide_eq_true h1
       omega
 ·rw[hk] at h3
  have a1:((1:Int)==3)=false:=rfl
  have a2:((1:Int)==4)=false:=rfl
  rw[a1,a2,cond_false,cond_false] at h3
  cases b1:decide (e.2.2.1 ≥ 0) with
  | false=>rw[b1] at h3;cases h3
  | true =>
   rw[b1,cond_true] at h3
   exact⟨of_decide_eq_true b1,of_decide_eq_true h3⟩
structure GN (N:List (List Nat × En)):Prop where
 may:∀ x∈N,YW x.2=true
 dir:∀ x∈N,upE x.1=[]∨∃ y,qz (upE x.1) N=some y∧y.2.1=1
theorem qe4 {q:List Nat} {y:En} {r:List (List Nat × En)}:∀ {l:List (List Nat × En)},qz q l=some y→qz q (l++r)=some y
 | [],h=>by cases h
 | (p,x)::l,h=>by
  simp only[qz,List.cons_append] at h ⊢
  cases hb:eqB q p with
  | true=>rw[hb] at h;exact h
  | false =>
   rw[hb] at h
   exact qe4 h
theorem Vn {p q:List Nat} (hq:Xj p q=false):∀ {l:List (List Nat × En)},qz q (l.filter fun x=>!Xj p x.1)=qz q l
 | []=>rfl
 | (k,x)::l=>by
  have ih:=Vn hq (l:=l)
  simp only[List.filter_cons]
  cases hb:Xj p k with
  | false=>simp only[Bool.not_false,if_true,qz,ih]
  | true =>
   simp only[Bool.not_true,Bool.false_eq_true,if_false,ih,qz]
   cases he:eqB q k with
   | false=>rfl
   | true =>
    rw[qG] at he
    rw[← of_decide_eq_true he,hq] at hb
    cases hb
theorem qh3 {p q:List Nat} {N:List (List Nat × En)} (hn:(qQ N).Nodup) (h1:Xj p q=false) (h2:q≠p):qz q (WK p N)=qz q N:=by
 unfold WK
 rw[Jy (by show (qQ _).Nodup;rw[W6];exact hn.sublist List.filter_sublist),if_neg h2,Vn h1]
theorem GN.cut {N:List (List Nat × En)} (G:GN N) (hn:(qQ N).Nodup) {p:List Nat} (hp:p≠[]):GN (WK p N):=by
 have hsub:∀ x∈WK p N,x∈N:=fun x hx=>(delG_sub.trans List.filter_sublist).mem hx
 refine⟨fun x hx=>G.may x (hsub x hx),fun x hx=>?_⟩
 obtain⟨h1,h2,h3⟩:=(XN hn).1 (List.mem_map.2 ⟨x,hx,rfl⟩)
 by_cases hu:upE x.1=[]
 ·exact Or.inl hu
 ·rcases G.dir x (hsub x hx) with h|⟨y,y1,y2⟩
  ·exact Or.inl h
  ·refine Or.inr ⟨y,?_,y2⟩
   rw[qh3 hn ?_ ?_]
   ·exact y1
   ·rw[← Bool.not_eq_true]
    intro hb
    rw[Wd hb (JT rfl hu)] at h2
    cases h2
   ·intro e
    rw[JT e hp] at h2
    cases h2
theorem GN.app {N:List (List Nat × En)} (G:GN N) {p:List Nat} {v:En} (hm:YW v=true) (hd:upE p=[]∨∃ y,qz (upE p) N=some y∧y.2.1=1):GN (N++[(p,v)]):=by
 refine⟨fun x hx=>?_,fun x hx=>?_⟩
 ·rcases List.mem_append.1 hx with h|h
  ·exact G.may x h
  ·rw[List.mem_singleton.1 h];exact hm
 ·have key:(upE x.1=[]∨∃ y,qz (upE x.1) N=some y∧y.2.1=1):=by
   rcases List.mem_append.1 hx with h|h
   ·exact G.dir x h
   ·rw[List.mem_singleton.1 h];exact hd
  rcases key with h|⟨y,y1,y2⟩
  ·exact Or.inl h
  ·exact Or.inr ⟨y,qe4 y1,y2⟩
theorem qbw {p:List Nat} {v:En} {x:List Nat × En}:∀ {l:List (List Nat × En)},x∈Y5 p v l→x∈l∨x=(p,v)
 | [],h=>by simp[Y5] at h;exact Or.inr h
 | (q,w)::l,h=>by
  simp only[Y5] at h
  cases hb:eqB p q with
  | true =>
   rw[hb,cond_true] at h
   rcases List.mem_cons.1 h with h|h
   ·exact Or.inr h
   ·exact Or.inl (List.mem_cons_of_mem _ h)
  | false =>
   rw[hb,cond_false] at h
   rcases List.mem_cons.1 h with h|h
   ·exact Or.inl (h ▸ List.mem_cons_self)
   ·rcases qbw h with h|h
    ·exact Or.inl (List.mem_cons_of_mem _ h)
    ·exact Or.inr h
theorem q14 {N:List (List Nat × En)} {e:En} (h:Wu N e=true):upE e.1=[]∨∃ y,qz (upE e.1) N=some y∧y.2.1=1:=by
 unfold Wu at h
 cases h1:eqB (upE e.1) [] with
 | true=>rw[qG] at h1;exact Or.inl (of_decide_eq_true h1)
 | false =>
  rw[h1,cond_false] at h
  cases hl:qz (upE e.1) N with
  | none=>rw[hl] at h;cases h
  | some y =>
   rw[hl] at h
   refine Or.inr ⟨y,rfl,?_⟩
   simpa using h
theorem GN.apply {N N':List (List Nat × En)} (G:GN N) (hn:(qQ N).Nodup) {e:En} {pre:List En} (hf:Z2 e pre=0) (h:Zm N e=some N'):GN N':=by
 have hne:=qbz hf
 unfold Zm at h
 cases hu:Wu N e with
 | false=>rw[hu] at h;cases h
 | true =>
 rw[hu,cond_true] at h
 have hdir:=q14 hu
 cases hl:qz e.1 N with
 | none =>
  rw[hl] at h
  simp only at h
  cases h4:e.2.1==4 with
  | true=>rw[h4] at h;cases h
  | false =>
   rw[h4] at h
   cases h
   exact G.app (KN hf (by simpa using h4)).2.1 hdir
 | some old =>
  rw[hl] at h
  simp only at h
  cases h1:e.2.1==1&&old.2.1==1 with
  | true =>
   rw[h1] at h
   cases h
   obtain⟨k1,k2⟩:=Bool.and_eq_true_iff.1 h1
   have k1:e.2.1=1:=by simpa using k1
   have k2:old.2.1=1:=by simpa using k2
   have hmo:=G.may _ (ZA hl)
   obtain⟨_,_,hmode⟩:=KN hf (by rw[k1];decide)
   have hmode:=hmode k1
   have hmv:YW (old.1,old.2.1,e.2.2.1,old.2.2.2)=true:=by
    unfold YW ZW at hmo ⊢
    simp only at hmo ⊢
    rw[k2] at hmo ⊢
    have a1:((1:Int)==1)=true:=rfl
    rw[a1] at hmo ⊢
    cases hp:Zd old.1 with
    | false=>rw[hp] at hmo;cases hmo
    | true =>
     rw[hp] at hmo
     simp only[cond_true] at hmo ⊢
     rw[decide_eq_true hmode.1,decide_eq_true hmode.2]
     cases b1:decide (old.2.2.1 ≥ 0) with
     | false=>rw[b1] at hmo;cases hmo
     | true =>
      rw[b1] at hmo
      cases b2:decide (old.2.2.1≤511) with
      | false=>rw[b2] at hmo;cases hmo
      | true =>
       rw[b2] at hmo
       exact hmo
   refine⟨fun x hx=>?_,fun x hx=>?_⟩
   ·rcases qbw hx with h|h
    ·exact G.may x h
    ·rw[h];exact hmv
   ·have key:(upE x.1=[]∨∃ y,qz (upE x.1) N=some y∧y.2.1=1):=by
     rcases qbw hx with h|h
     ·exact G.dir x h
     ·rw[h];exact hdir
    rcases key with h|⟨y,y1,y2⟩
    ·exact Or.inl h
    ·refine Or.inr ?_
     rw[XC]
     by_cases hq:upE x.1=e.1
     ·exact⟨_,if_pos hq,k2⟩
     ·exact⟨y,by rw[if_neg hq];exact y1,y2⟩
  | false =>
   rw[h1,cond_false] at h
   have Gc:=G.cut hn hne
   cases h4:e.2.1==4 with
   | true =>
    rw[h4] at h
    cases h
    exact Gc
   | false =>
    rw[h4] at h
    cases h
    refine Gc.app (KN hf (by simpa using h4)).2.1 ?_
    rcases hdir with h|⟨y,y1,y2⟩
    ·exact Or.inl h
    ·exact Or.inr ⟨y,by rw[qh3 hn (Vf hne) (XT hne)];exact y1,y2⟩
theorem GoneD.ex {N:List (List Nat × En)} {K:List (List Nat × Int)} {p:List Nat}:∃ D N1,GoneD N K p D N1:=by
 cases h:(bif decide ((qz p K).getD 0 > 0) then true else false) with
 | true=>exact⟨(qQ N).filter (Xj p),_,Or.inl ⟨h,rfl,fun d=>List.mem_filter⟩⟩
 | false=>exact⟨[],N,Or.inr ⟨h,rfl,rfl⟩⟩
theorem ApR.ex {N:List (List Nat × En)} {K:List (List Nat × Int)} {e:En}:∃ b N' K',ApR N K e b N' K':=by
 have ok:(eqB (upE e.1) []=false∧(((qz (upE e.1) N).getD enZ).2.1 != 1)=true)∨(eqB (upE e.1) []=true∨(((qz (upE e.1) N).getD enZ).2.1 != 1)=false):=by
  cases eqB (upE e.1) [] <;> cases (((qz (upE e.1) N).getD enZ).2.1 != 1) <;> simp
 rcases ok with⟨h1,h2⟩|ok
 ·exact⟨_,_,_,.up h1 h2⟩
 ·obtain⟨D,N1,hG⟩:=GoneD.ex (N:=N) (K:=K) (p:=e.1)
  cases hl:qz e.1 N with
  | none =>
   by_cases k4:e.2.1=4
   ·exact⟨_,_,_,.gone0 k4 hl⟩
   ·exact⟨_,_,_,.new ok hl k4⟩
  | some old =>
   by_cases k4:e.2.1=4
   ·exact⟨_,_,_,.gone1 old D N1 ok hl k4 hG⟩
   ·by_cases k1:e.2.1=1∧old.2.1=1
    ·exact⟨_,_,_,.mode old ok hl k1.1 k1.2⟩
    ·exact⟨_,_,_,.over old D N1 ok hl k4 (fun h h'=>k1 ⟨h,h'⟩) hG⟩
theorem FI.apply {B:Nat} {N N':List (List Nat × En)} {K:List (List Nat × Int)} (F:FI B N K) {e:En} (hne:e.1≠[]) (hB:B≤1000000) (h:Zm N e=some N'):∃ K',FI (B+1) N' K':=by
 obtain⟨b,N2,K2,A⟩:=ApR.ex (N:=N) (K:=K) (e:=e)
 rcases A.fin F hne hB with⟨_,h1,h2⟩|⟨_,h1⟩
 ·rw[h] at h1
  cases h1
  exact⟨K2,h2⟩
 ·rw[h] at h1
  cases h1
theorem qaa:∀ {es:List En} {B:Nat} {N N':List (List Nat × En)} {K:List (List Nat × Int)},FI B N K→GN N→(∀ e∈es,∃ pre,Z2 e pre=0)→B+es.length≤1000000→Wz N es=some N'→∃ K',FI (B+es.length) N' K'∧GN N'
 | [],B,N,N',K,F,G,_,_,h=>by
  simp only[Wz] at h
  cases h
  exact⟨K,F,G⟩
 | e::l,B,N,N',K,F,G,hf,hB,h=>by
  simp only[Wz] at h
  cases ha:Zm N e with
  | none=>rw[ha] at h;cases h
  | some N1 =>
   rw[ha] at h
   obtain⟨pre,hp⟩:=hf e List.mem_cons_self
   simp only[List.length_cons] at hB
   obtain⟨K1,F1⟩:=F.apply (qbz hp) (by omega) ha
   have G1:=G.apply F.nd hp ha
   obtain⟨K2,F2,G2⟩:=qaa F1 G1 (fun x hx=>hf x (List.mem_cons_of_mem _ hx)) (by omega) h
   refine⟨K2,?_,G2⟩
   have:B+(e::l).length=B+1+l.length:=by simp;omega
   rw[this]
   exact F2
theorem qso {p:List Nat} {v:En} {l:List (List Nat × En)} (hn:(qQ l).Nodup) (h:(p,v)∈l):qz p l=some v:=by
 obtain⟨j,hj⟩:=List.mem_iff_getElem?.1 h
 exact (XB hn hj).2.1
theorem qhu {lower:List En} {M:Md} (h:ofT lower=some M):(∃ K,FI 128 (Zj lower) K)∧GN (Zj lower):=by
 have G:=qlq h
 have D:=qxy h
 have hnd:(qQ (Zj lower)).Nodup:=by rw[J1];exact Jl G.rise
 obtain⟨g1,g2⟩:=Ky (es:=lower) (pre:=[]) (K:=[]) (B:=0) FI.zero.to0 (by simpa using Jl G.rise) (fun h=>by
  obtain⟨e,he,h0⟩:=List.mem_map.1 h
  exact qef (G.may e he) h0) (by have:=G.len;omega)
 rw[List.nil_append] at g1
 have g3:=g2.to (by
  rw[g1,J1]
  intro k hk hu
  obtain⟨e,he,rfl⟩:=List.mem_map.1 hk
  exact G.par e he hu)
 rw[g1] at g3
 refine⟨⟨_,⟨g3.nd,g3.kd,g3.key,g3.par,g3.cnt,Nat.le_trans g3.len (by have:=G.len;omega),g3.ne⟩⟩,⟨fun x hx=>?_,fun x hx=>?_⟩⟩
 ·obtain⟨e,he,rfl⟩:=List.mem_map.1 hx
  exact G.may e he
 ·obtain⟨e,he,rfl⟩:=List.mem_map.1 hx
  rcases D e he with h|⟨f,f1,f2,f3⟩
  ·exact Or.inl h
  ·refine Or.inr ⟨f,qso hnd ?_,f3⟩
   show (upE e.1,f)∈Zj lower
   rw[← f2]
   exact List.mem_map.2 ⟨f,f1,rfl⟩
theorem qgq {lower es out:List En} (h:Wj lower es=some out):∃ M,ofT out=some M:=by
 unfold Wj at h
 cases ho:ofT lower with
 | none=>rw[ho] at h;cases h
 | some M0 =>
 rw[ho] at h
 simp only at h
 cases hm:(qpz es).2 != 0 with
 | true=>rw[hm] at h;cases h
 | false =>
 rw[hm,cond_false] at h
 have hm0:(qpz es).2=0:=by simpa using hm
 obtain⟨hl,hf⟩:=qpx hm0
 cases ha:Wz (Zj lower) es with
 | none=>rw[ha] at h;cases h
 | some N =>
 rw[ha] at h
 simp only at h
 cases hN:decide ((N.length:Int) > 128) with
 | true=>rw[hN] at h;cases h
 | false =>
 rw[hN,cond_false] at h
 have hN:=of_decide_eq_false hN
 obtain⟨⟨K,F⟩,G⟩:=qhu ho
 obtain⟨K',F',G'⟩:=qaa F G hf (by omega) ha
 cases h
 have hnd:((N.map (·.2)).map (·.1)).Nodup:=by
  have:(N.map (·.2)).map (·.1)=qQ N:=by
   unfold qQ
   rw[List.map_map]
   exact List.map_congr_left fun x hx=>F'.key x hx
  rw[this]
  exact F'.nd
 have mem:∀ e,e∈KG (N.map (·.2))↔∃ x∈N,x.2=e:=fun e=>by rw[sortEn_perm.mem_iff,List.mem_map]
 refine qwi (fun e he=>?_) (JO hnd) (fun e he=>?_) (by rw[sortEn_perm.length_eq,List.length_map];omega)
 ·obtain⟨x,hx,rfl⟩:=(mem e).1 he
  exact G'.may x hx
 ·obtain⟨x,hx,rfl⟩:=(mem e).1 he
  have hk:=F'.key x hx
  rcases G'.dir x hx with h|⟨y,y1,y2⟩
  ·exact Or.inl (by rw[hk];exact h)
  ·refine Or.inr ⟨y,(mem y).2 ⟨_,ZA y1,rfl⟩,?_,y2⟩
   rw[hk]
   exact F'.key _ (ZA y1)
theorem W5:∀ {im:List (List En)} {es out:List En},(∃ M,ofT es=some M)→Xp es im=some out→∃ M,ofT out=some M
 | [],es,out,h0,h=>by
  simp only[Xp] at h
  cases h
  exact h0
 | l::r,es,out,h0,h=>by
  simp only[Xp] at h
  cases ha:Wj es l with
  | none=>rw[ha] at h;cases h
  | some es' =>
   rw[ha] at h
   exact W5 (qgq ha) h
theorem qju {im:List (List En)} {out:List En} (h:YV im=some out):ofT out≠none:=by
 unfold YV at h
 cases hl:decide ((im.length:Int) > 12) with
 | true=>rw[hl] at h;cases h
 | false =>
  rw[hl,cond_false] at h
  obtain⟨M,hM⟩:=W5 ⟨_,rfl⟩ h
  rw[hM]
  simp
def X7:AO→Bool
 | .cells _ el _=>!(Nat.beq el 117||Nat.beq el 120)
 | .old _=>true
 | _=>false
theorem World.withU {s:St} {x:Nat} {M:Md} {L:List (Nat × AO)} (h:World s x M L) {i:Nat} {o:AO} (hi:s.h.get i=some o) (ho:X7 o=true):World s x M ((i,o)::L):=by
 obtain⟨hB,ι,μ,R,hq⟩:=h
 refine⟨hB,ι,μ,R,fun q hm=>?_⟩
 rcases List.mem_cons.1 hm with rfl|hm
 ·refine⟨hi,?_⟩
  rintro (e|⟨k,hk,e|e⟩)
  ·have e:i=x:=e
   subst e
   rw[R.tr] at hi
   cases hi
   cases ho
  ·have e:i=ι k:=e
   subst e
   obtain⟨nd,hn⟩:=qdp hk
   have:=(R.nd k nd hn).1
   rw[this] at hi
   cases hi
   cases ho
  ·have e:i=μ k:=e
   subst e
   obtain⟨nd,hn⟩:=qdp hk
   have h2:s.h.get (μ k)=_:=(R.nd k nd hn).2
   rw[h2] at hi
   cases hi
   cases ho
 ·exact hq q hm
theorem qs5 {x:Nat} {T W:AV} (hT:T=.ptr x 0∨T=.raw (.pointer none)) {b:Nat} {s:St} {out:List En} (hW:ErB b s W out):Qb TE 74 [(0,T),(1,W)]=some (.agg [T,W]):=by
 rcases hT with rfl|rfl <;> rcases hW with⟨rfl,_⟩|⟨id,_,rfl,_⟩ <;> kernel_rfl
theorem q05:(match TE.info 24 with|some ti=>Qv ti.desc&&Nat.beq ti.size 1|none=>false)=true:=by kernel_rfl
theorem qp5 {s:St} {x:Nat}:Q3 TE s 24 (.ptr x 0)=ldG 1 (s.h.get x):=KJ q05
def qlh (W:AV) (out:List En):List (Nat × AO):=match W with
 | .slice id _ _ _ _ _=>[(id,.cells (Q8 out) 34 8)]
 | _=>[]
theorem q3w {b:Nat} {s:St} {W:AV} {out:List En} (h:ErB b s W out) {s':St} (hL:∀ q∈qlh W out,s'.h.get q.1=some q.2):ErB b s' W out:=by
 rcases h with⟨rfl,rfl⟩|⟨id,h1,rfl,h2⟩
 ·exact Or.inl ⟨rfl,rfl⟩
 ·exact Or.inr ⟨id,h1,rfl,hL (id,_) (List.mem_singleton.2 rfl)⟩
theorem qzm {s:St} (H:Ok TE Tryz.prog pr3) (hB:qc s) {V:AV} {im:List (List En)} (hI:LsV s V im) (hp:∀ es∈im,∀ e∈es,e.1.length≤1048575) {kr kp:AV→St→Bool}
  (hk:∀ s' u x M W out,YV im=some out→ofT out=some M→Ext s s'→s.nx≤x→s.nx≤u→World s' x M ((u,.cells [.ptr x 0,W] 74 0)::qlh W out)→ErB s.nx s' W out→kr (.tuple [.ptr u 0,.raw (.int .i64 0)]) s'=true)
  (ho:∀ out,YV im=some out→ofT out≠none)
  (hf:∀ s',YV im=none→Ext s s'→qc s'→kr (.tuple [.raw (.pointer none),.raw (.int .i64 1600)]) s'=true) :
  (sem Tryz.prog).call 21 [.agg [V]] s kr kp=true:=by
 refine qp H 24 q56 rfl rfl ?_
 have hB1:qc (s.alloc (.cells [V] 24 0)):=qx hB _
 have hE1:Ext s (s.alloc (.cells [V] 24 0)):=Ext.alloc s _
 have c1:(s.alloc (.cells [V] 24 0)).h.get s.nx=some (.cells [V] 24 0):=qu
 repeat (first|with_reducible (refine q9 H ?_;constructor)|simp only[rB,rP,rQ,q8,qa,q7,qb,reduceIte,reduceCtorEq,Nat.reduceAdd,Nat.reduceLT,Nat.reduceEqDiff,UInt8.reduceToNat,pe3,pf3,qf])
 generalize s.alloc (.cells [V] 24 0)=s1 at *
 repeat (first|with_reducible (refine q9 H ?_;constructor)|simp only[rB,rP,rQ,q8,qa,q7,qb,reduceIte,reduceCtorEq,Nat.reduceAdd,Nat.reduceLT,Nat.reduceEqDiff,UInt8.reduceToNat,pe3,pf3,c1,qp5,Xk])
 refine qv9 H hB1 (hI.ext hB hE1) hp (fun s2 W out a1 a2 a3 a4 a5 a6=>?_) (fun s2 a1 a2 a3=>?_)
 ·have g1:((0:Int) != 0)=false:=rfl
  repeat (first|with_reducible (refine q9 H ?_;constructor)|simp only[rB,rP,rQ,q8,qa,q7,qb,reduceIte,reduceCtorEq,Nat.reduceAdd,Nat.reduceLT,Nat.reduceEqDiff,UInt8.reduceToNat,pe3,pf3,qH,g1])
  have hE2:=hE1.trans a2
  have hW0:ErB s.nx s2 W out:=by
   rcases a4 with h|⟨id,w1,w2,w3⟩
   ·exact Or.inl h
   ·exact Or.inr ⟨id,Nat.le_trans hE1.1 w1,w2,w3⟩
  refine q82 H a3 a4.esvM (fun e he=>by have:=a5 e he;omega) (by omega) (fun s3 x M o1 o2 o3 o4=>?_) (fun s3 o1 o2 o3=>absurd o1 (ho out a1))
  have hW3:ErB s.nx s3 W out:=hW0.ext a3 o2
  have bd:=qs5 (x:=x) (T:=.ptr x 0) (Or.inl rfl) hW3
  repeat (first|with_reducible (refine q9 H ?_;constructor)|simp only[rB,rP,rQ,q8,qa,q7,qb,reduceIte,reduceCtorEq,Nat.reduceAdd,Nat.reduceLT,Nat.reduceEqDiff,UInt8.reduceToNat,pe3,pf3,bd,qf,Tryz.results21])
  have hE3:=hE2.trans o2
  have w1:=World.alloc o3 (.cells [.ptr x 0,W] 74 0)
  have hE4:Ext s (s3.alloc (.cells [.ptr x 0,W] 74 0)):=hE3.trans (Ext.alloc _ _)
  have hW4:=hW3.ext o3.1 (Ext.alloc s3 (.cells [.ptr x 0,W] 74 0))
  refine hk _ s3.nx x M W out a1 o1 hE4 (by have:=hE2.1;omega) hE3.1 ?_ hW4
  rcases hW4 with⟨rfl,rfl⟩|⟨id,v1,rfl,v2⟩
  ·exact w1
  ·refine (World.withU w1 v2 rfl).sub fun q hq=>?_
   simp only[qlh,List.mem_cons,List.not_mem_nil,or_false] at hq ⊢
   rcases hq with rfl|rfl
   ·exact Or.inr rfl
   ·exact Or.inl rfl
 ·have g1:((1400:Int) != 0)=true:=rfl
  repeat (first|with_reducible (refine q9 H ?_;constructor)|simp only[rB,rP,rQ,q8,qa,q7,qb,reduceIte,reduceCtorEq,Nat.reduceAdd,Nat.reduceLT,Nat.reduceEqDiff,UInt8.reduceToNat,pe3,pf3,qH,g1,Tryz.results21])
  exact hf s2 a1 (hE1.trans a2) a3
theorem qwf {s:St} (H:Ok TE Tryz.prog pr3) (hB:qc s) {V:AV} {im:List (List En)} (hI:LsV s V im) (hp:∀ es∈im,∀ e∈es,e.1.length≤1048575) {kr kp:AV→St→Bool}
  (hk:∀ s' u x M W out,YV im=some out→ofT out=some M→Ext s s'→s.nx≤x→s.nx≤u→World s' x M ((u,.cells [.ptr x 0,W] 74 0)::qlh W out)→ErB s.nx s' W out→kr (.tuple [.ptr u 0,.raw (.int .i64 0)]) s'=true)
  (hf:∀ s',YV im=none→Ext s s'→qc s'→kr (.tuple [.raw (.pointer none),.raw (.int .i64 1600)]) s'=true) :
  (sem Tryz.prog).call 21 [.agg [V]] s kr kp=true:=qzm H hB hI hp hk (fun out h=>qju h) hf
theorem qz2 {i j:Nat} {s:St} {d:Option (AV × List Nat)}:eqS TE s .eql 27 (.ptr i j) (.raw (.pointer none)) d=some (.raw (.bool false),[]):=by kernel_rfl
theorem q0l {x:Nat}:qk TE 74 (.ptr x 0) 0=some (.ptr x 0):=by kernel_rfl
theorem VU {s:St} (H:Ok TE Tryz.prog pr3) {V:AV} {kr kp:AV→St→Bool} (hk:kr (.raw (.int .i64 0)) s=true) :
  (sem Tryz.prog).call 11 [V] s kr kp=true:=by
 refine qp H 3 q7w rfl rfl ?_
 repeat (first|with_reducible (refine q9 H ?_;constructor)|simp only[rB,rP,rQ,q8,qa,q7,qb,reduceIte,reduceCtorEq,Nat.reduceAdd,Nat.reduceLT,Nat.reduceEqDiff,UInt8.reduceToNat,pe3,pf3,Tryz.results11])
 exact hk
end Go.AX
