import Derived.Test.YtkcbaokljkalcaaGreatAp3H5
set_option linter.unusedVariables false
set_option linter.unusedSimpArgs false
set_option linter.defProp false
namespace Go.AX
open Go.Proofs Go.RowKit
set_option maxRecDepth 1000000
set_option maxHeartbeats 400000000
set_option linter.unusedSimpArgs false
set_option linter.unusedVariables false
theorem qam:∀ {p r:List Nat},qE (p++47::r)=qE p++qE r
 | [],r=>by simp[qE]
 | c::p,r=>by
  have ih:=qam (p:=p) (r:=r)
  simp only[List.cons_append,qE,ih]
  cases hc:Nat.beq c 47 with
  | true=>simp
  | false =>
   simp only[cond_false]
   cases hp:qE p with
   | nil=>exact absurd hp (unP_pieces (b:=p)).2
   | cons q qs=>rfl
theorem qnh {k:List Nat} (h:upE k≠[]):Jh (upE k) k < 0:=by
 obtain⟨r,hr⟩:=belK_iff.1 (Xc rfl h)
 show LtP (qw (upE k)) (qw k)
 have hk:k≠[]:=fun e=>h (by rw[e];rfl)
 rw[Z0 h,Z0 hk]
 conv=>rhs;rw[hr]
 rw[qam]
 cases hp:qE r with
 | nil=>exact absurd hp (unP_pieces (b:=r)).2
 | cons a x=>exact qge
theorem VE {p q:List Nat} {v:Nat}:∀ {l:List (List Nat × Nat)},ql q (setK p v l)=if q=p then some v else ql q l
 | []=>by
  simp only[setK,ql]
  cases he:eqB q p with
  | true=>rw[qG] at he;simp[of_decide_eq_true he]
  | false=>rw[qG] at he;simp[of_decide_eq_false he]
 | (r,x)::l=>by
  have ih:=VE (p:=p) (q:=q) (v:=v) (l:=l)
  simp only[setK]
  cases he:eqB p r with
  | true =>
   rw[qG] at he
   have:=of_decide_eq_true he
   subst this
   simp only[cond_true,ql]
   cases h2:eqB q p with
   | true=>rw[qG] at h2;simp[of_decide_eq_true h2]
   | false=>rw[qG] at h2;simp[of_decide_eq_false h2]
  | false =>
   rw[qG] at he
   have hpr:=of_decide_eq_false he
   simp only[cond_false,ql,ih]
   cases h2:eqB q r with
   | true =>
    rw[qG] at h2
    have:=of_decide_eq_true h2
    subst this
    have:¬ q=p:=fun h=>hpr h.symm
    simp[this]
   | false=>rfl
structure OI (pre:List En) (M:Md) (K:List (List Nat × Nat)):Prop where
 at_:∀ q u,ql q K=some u→∃ ud,M.T u=some ud∧((q=[]∧ud.kind=1)∨∃ f∈pre,f.1=q∧f.2.1=ud.kind)
 is:∀ q,q=[]∨q∈pre.map (·.1)→∃ u,ql q K=some u
theorem OI.zero:OI [] MZ [([],0)]:=by
 refine⟨fun q u h=>?_,fun q h=>?_⟩
 ·simp only[ql] at h
  cases he:eqB q [] with
  | false=>rw[he] at h;cases h
  | true =>
   rw[he] at h
   cases h
   rw[qG] at he
   exact⟨_,rfl,Or.inl ⟨of_decide_eq_true he,rfl⟩⟩
 ·rcases h with rfl|h
  ·exact⟨0,rfl⟩
  ·cases h
theorem OI.step {pre:List En} {M:Md} {K:List (List Nat × Nat)} (O:OI pre M K) {e:En} {u:Nat} {ud:Nd} (hu:M.T u=some ud) (hne:e.1≠[]) {nw:Nd} (hk:nw.kind=e.2.1) {nm:List Nat} :
  OI (pre++[e]) (Wn M u ud nm nw) (setK e.1 M.nodes.length K):=by
 have hul:u < M.nodes.length:=QP hu
 have hT:∀ j x,M.T j=some x→∃ y,(Wn M u ud nm nw).T j=some y∧y.kind=x.kind:=by
  intro j x hj
  have hjl:j < M.nodes.length:=QP hj
  show ∃ y,(M.nodes.set u { ud with kids:=setK nm M.nodes.length ud.kids }++[nw])[j]?=some y∧y.kind=x.kind
  rw[List.getElem?_append_left (by simpa using hjl),List.getElem?_set]
  by_cases h:u=j
  ·subst h
   rw[hu] at hj
   cases hj
   exact⟨{ ud with kids:=setK nm M.nodes.length ud.kids },by rw[if_pos rfl,if_pos hul],rfl⟩
  ·exact⟨x,by rw[if_neg h];exact hj,rfl⟩
 have hN:(Wn M u ud nm nw).T M.nodes.length=some nw:=by
  show (M.nodes.set u { ud with kids:=setK nm M.nodes.length ud.kids }++[nw])[M.nodes.length]?=some nw
  rw[List.getElem?_append_right (by simp)]
  simp
 refine⟨fun q v h=>?_,fun q h=>?_⟩
 ·rw[VE] at h
  by_cases hq:q=e.1
  ·rw[if_pos hq] at h
   cases h
   exact⟨nw,hN,Or.inr ⟨e,by simp,hq.symm,hk.symm⟩⟩
  ·rw[if_neg hq] at h
   obtain⟨x,h1,h2⟩:=O.at_ q v h
   obtain⟨y,y1,y2⟩:=hT v x h1
   refine⟨y,y1,?_⟩
   rw[y2]
   rcases h2 with h2|⟨f,f1,f2⟩
   ·exact Or.inl h2
   ·exact Or.inr ⟨f,List.mem_append_left _ f1,f2⟩
 ·rw[VE]
  by_cases hq:q=e.1
  ·exact⟨_,if_pos hq⟩
  ·rw[if_neg hq]
   refine O.is q ?_
   rcases h with h|h
   ·exact Or.inl h
   ·simp only[List.map_append,List.map_cons,List.map_nil,List.mem_append,List.mem_singleton] at h
    rcases h with h|h
    ·exact Or.inr h
    ·exact absurd h hq
def qrm (es:List En) (e:En):Prop:=upE e.1=[]∨∃ f∈es,f.1=upE e.1∧f.2.1=1
theorem qbl:∀ {l pre:List En} {M:Md} {K:List (List Nat × Nat)} {pv:Option (List Nat)},OI pre M K→((pre++l).map (·.1)).Nodup→(∀ e∈l,V7 e=true)→Vt l→(∀ p,pv=some p→∀ e∈l,Jh p e.1 < 0) →
  (∀ e a b,l=a++e::b→qrm (pre++a) e)→(∀ f∈pre,f.1≠[])→∃ M',Yh l M K pv=some M'
 | [],_,M,_,_,_,_,_,_,_,_,_=>⟨M,rfl⟩
 | e::l,pre,M,K,pv,O,hn,hm,hr,hpv,hd,h0=>by
  have hme:=hm e List.mem_cons_self
  have hup:=hd e [] l rfl
  rw[List.append_nil] at hup
  obtain⟨u,hu⟩:=O.is (upE e.1) (by
   rcases hup with h|⟨f,f1,f2,_⟩
   ·exact Or.inl h
   ·exact Or.inr (List.mem_map.2 ⟨f,f1,f2⟩))
  obtain⟨ud,hT,hkind⟩:=O.at_ _ _ hu
  have hk1:ud.kind=1:=by
   rcases hkind with⟨_,h⟩|⟨f,f1,f2,f3⟩
   ·exact h
   ·rcases hup with h|⟨g,g1,g2,g3⟩
    ·rw[h] at f2
     exact absurd f2 (h0 f f1)
    ·have hpn:(pre.map (·.1)).Nodup:=by
      rw[List.map_append,List.nodup_append] at hn
      exact hn.1
     have:f=g:=by
      obtain⟨i,hi⟩:=List.mem_iff_getElem?.1 f1
      obtain⟨j,hj⟩:=List.mem_iff_getElem?.1 g1
      have e1:(pre.map (·.1))[i]?=some (upE e.1):=by rw[List.getElem?_map,hi];simp[f2]
      have e2:(pre.map (·.1))[j]?=some (upE e.1):=by rw[List.getElem?_map,hj];simp[g2]
      obtain⟨l1,m1⟩:=List.getElem?_eq_some_iff.1 e1
      obtain⟨l2,m2⟩:=List.getElem?_eq_some_iff.1 e2
      have:i=j:=(List.getElem_inj hpn).1 (m1.trans m2.symm)
      subst this
      rw[hi] at hj
      cases hj
      rfl
     rw[← f3,this]
     exact g3
  have O':=O.step (e:=e) hT (qes hme) (nw:=⟨e.2.1,e.2.2.1,e.2.2.2,[],some u,Jv e.1,0⟩) rfl (nm:=Jv e.1)
  have hrc:=List.pairwise_cons.1 hr
  obtain⟨M',hM'⟩:=qbl (l:=l) (pre:=pre++[e]) (pv:=some e.1) O' (by simpa using hn) (fun x hx=>hm x (List.mem_cons_of_mem _ hx)) hrc.2 (fun p hp x hx=>by cases hp;exact hrc.1 x hx) (fun x a b hab=>by
   have:=hd x (e::a) b (by rw[hab];rfl)
   simpa using this) (fun f hf=>by
   rcases List.mem_append.1 hf with h|h
   ·exact h0 f h
   ·rw[List.mem_singleton.1 h];exact qes hme)
  refine⟨M',?_⟩
  simp only[Yh,hme,cond_true]
  have hu':ql (e.1.take (Y2 e.1)) K=some u:=hu
  have hk1':(ud.kind != 1)=false:=by rw[hk1];rfl
  cases pv with
  | none =>
   simp only[hu',hT,hk1',cond_false,cond_true]
   exact hM'
  | some p =>
   have:=hpv p rfl e List.mem_cons_self
   simp only[this,decide_true,cond_true,hu',hT,hk1',cond_false]
   exact hM'
theorem qxh {es:List En} (hm:∀ e∈es,V7 e=true) (hr:Vt es) (hd:∀ e∈es,qrm es e) (hl:es.length≤128):∃ M,ofT es=some M:=by
 have hn:=Jw hr
 obtain⟨M,hM⟩:=qbl (l:=es) (pre:=[]) (pv:=none) OI.zero (by simpa using hn) hm hr (fun p hp=>by cases hp) (fun e a b hab=>by
  rw[List.nil_append]
  rcases hd e (by rw[hab];simp) with h|⟨f,f1,f2,f3⟩
  ·exact Or.inl h
  ·by_cases hu:upE e.1=[]
   ·exact Or.inl hu
   ·have hlt:Jh f.1 e.1 < 0:=by rw[f2];exact qnh hu
    refine Or.inr ⟨f,?_,f2,f3⟩
    rw[hab] at f1 hr
    rcases List.mem_append.1 f1 with h|h
    ·exact h
    ·exfalso
     have hpe:=(List.pairwise_append.1 hr).2.1
     rcases List.mem_cons.1 h with rfl|h
     ·exact Qt (show LtP _ _ from hlt)
     ·have:=(List.pairwise_cons.1 hpe).1 f h
      exact Qt (QU (show LtP _ _ from hlt) (show LtP _ _ from this))) (fun f hf=>by cases hf)
 refine⟨{ M with many:=(es.length:Int) },?_⟩
 unfold ofT
 have:decide ((es.length:Int) > 128)=false:=by rw[decide_eq_false_iff_not];omega
 rw[this,cond_false,hM]
theorem qbd:∀ {l pre:List En} {M M':Md} {K:List (List Nat × Nat)} {pv:Option (List Nat)},OI pre M K→Yh l M K pv=some M'→∀ e∈l,qrm (pre++l) e
 | [],_,_,_,_,_,_,_,_,h=>by cases h
 | e::l,pre,M,M',K,pv,O,h,x,hx=>by
  have hg:=(Vp h).1 e List.mem_cons_self
  simp only[Yh,hg,cond_true] at h
  have h:(match ql (e.1.take (Y2 e.1)) K with
   | none=>none
   | some u=>match M.T u with
    | none=>none
    | some ud=>bif ud.kind != 1 then none else Yh l (Wn M u ud (Jv e.1) ⟨e.2.1,e.2.2.1,e.2.2.2,[],some u,Jv e.1,0⟩) (setK e.1 M.nodes.length K) (some e.1))=some M':=by
   cases pv with
   | none=>exact h
   | some p =>
    cases hd:decide (Jh p e.1 < 0) with
    | true=>simp only[hd,cond_true] at h;exact h
    | false=>simp[hd] at h
  cases hk:ql (e.1.take (Y2 e.1)) K with
  | none=>rw[hk] at h;cases h
  | some u =>
  rw[hk] at h
  simp only at h
  cases hu:M.T u with
  | none=>rw[hu] at h;cases h
  | some ud =>
  rw[hu] at h
  simp only at h
  cases hd:ud.kind != 1 with
  | true=>rw[hd] at h;cases h
  | false =>
  rw[hd,cond_false] at h
  have hk1:ud.kind=1:=by simpa using hd
  have O':=O.step (e:=e) hu (qes hg) (nw:=⟨e.2.1,e.2.2.1,e.2.2.2,[],some u,Jv e.1,0⟩) rfl (nm:=Jv e.1)
  rcases List.mem_cons.1 hx with rfl|hx
  ·obtain⟨ud',h1,h2⟩:=O.at_ _ _ hk
   rw[hu] at h1
   cases h1
   rcases h2 with⟨h2,_⟩|⟨f,f1,f2,f3⟩
   ·exact Or.inl h2
   ·exact Or.inr ⟨f,List.mem_append_left _ f1,f2,f3.trans hk1⟩
  ·have:=qbd O' h x hx
   simpa using this
theorem quc {es:List En} {M:Md} (h:ofT es=some M):∀ e∈es,qrm es e:=by
 unfold ofT at h
 cases hl:decide ((es.length:Int) > 128) with
 | true=>rw[hl] at h;cases h
 | false =>
  rw[hl,cond_false] at h
  cases hr:Yh es MZ [([],0)] none with
  | none=>rw[hr] at h;cases h
  | some M'=>simpa using qbd OI.zero hr
theorem WA {e:En} {pre:List En} (h:Zr e pre=0) (h4:e.2.1≠4):X9 e.1=true∧V7 (kd5 e)=true∧(e.2.1=1→e.2.2.1 ≥ 0∧e.2.2.1≤511):=by
 unfold Zr at h
 cases h1:VU e.2.1 with
 | false=>rw[h1] at h;cases h
 | true =>
 rw[h1,cond_true] at h
 cases h2:Zb e pre != 0 with
 | true =>
  rw[h2,cond_true] at h
  rw[h] at h2
  cases h2
 | false =>
 rw[h2,cond_false] at h
 have h20:Zb e pre=0:=by simpa using h2
 have hpath:X9 e.1=true:=by
  unfold Zb at h20
  unfold X9
  generalize Qr [] (47::e.1)=x at h20
  obtain⟨q,c⟩:=x
  simp only at h20 ⊢
  cases hc:Nat.beq c 0 with
  | false=>rw[hc] at h20;cases h20
  | true =>
   rw[hc,cond_true] at h20
   cases a1:eqB e.1 [] with
   | true=>rw[a1] at h20;cases h20
   | false =>
    rw[a1,cond_false] at h20
    cases a2:eqB q e.1 with
    | false=>rw[a2] at h20;cases h20
    | true=>rfl
 cases h3:qbn e with
 | false=>rw[h3] at h;cases h
 | true =>
 rw[h3,cond_true] at h
 cases h5:qaf e.2.1 (e.2.2.2.length:Int) with
 | false=>rw[h5] at h;cases h
 | true =>
 rw[h5,cond_true] at h
 unfold qbn at h3
 unfold qaf at h5
 unfold VU at h1
 have hm:V7 (kd5 e)=Z7 (kd5 e):=by
  unfold V7
  show (bif X9 e.1 then _ else _)=_
  rw[hpath]
  rfl
 have n4:(e.2.1==4)=false:=by rw[beq_eq_false_iff_ne];exact h4
 refine⟨hpath,?_,fun hk=>?_⟩
 ·rw[hm]
  unfold Z7 kd5
  simp only
  cases k5:e.2.1==5 with
  | true =>
   have e5:e.2.1=5:=by simpa using k5
   rw[e5] at h3 h5
   simp only[cond_true]
   have a1:((5:Int)==3)=false:=rfl
   have a2:((5:Int)==4)=false:=rfl
   have a3:((5:Int)==2)=false:=rfl
   have a4:((1:Int)==1)=true:=rfl
   rw[a1,a2,cond_false,cond_false] at h3
   rw[a1,a3,cond_false,cond_false] at h5
   rw[a4,cond_true]
   have hlen:e.2.2.2=[]:=by
    have:(e.2.2.2.length:Int)=0:=by simpa using h5
    exact List.length_eq_zero_iff.1 (by omega)
   cases b1:decide (e.2.2.1 ≥ 0) with
   | false=>rw[b1] at h3;cases h3
   | true =>
    rw[b1,cond_true] at h3
    rw[h3,cond_true,cond_true,hlen]
    rfl
  | false =>
   simp only[cond_false]
   cases k1:e.2.1==1 with
   | true =>
    have e1:e.2.1=1:=by simpa using k1
    rw[e1] at h3 h5
    have a1:((1:Int)==3)=false:=rfl
    have a2:((1:Int)==4)=false:=rfl
    have a3:((1:Int)==2)=false:=rfl
    rw[a1,a2,cond_false,cond_false] at h3
    rw[a1,a3,cond_false,cond_false] at h5
    simp only[cond_true]
    have hlen:e.2.2.2=[]:=by
     have:(e.2.2.2.length:Int)=0:=by simpa using h5
     exact List.length_eq_zero_iff.1 (by omega)
    cases b1:decide (e.2.2.1 ≥ 0) with
    | false=>rw[b1] at h3;cases h3
    | true =>
     rw[b1,cond_true] at h3
     rw[h3,cond_true,cond_true,hlen]
     rfl
   | false =>
    simp only[cond_false]
    cases k2:e.2.1==2 with
    | true =>
     have e2:e.2.1=2:=by simpa using k2
     rw[e2] at h3 h5
     have a1:((2:Int)==3)=false:=rfl
     have a2:((2:Int)==4)=false:=rfl
     have a3:((2:Int)==2)=true:=rfl
     rw[a1,a2,cond_false,cond_false] at h3
     rw[a3,cond_true] at h5
     simp only[cond_true]
     cases b1:decide (e.2.2.1 ≥ 0) with
     | false=>rw[b1] at h3;cases h3
     | true =>
      rw[b1,cond_true] at h3
      rw[h3,cond_true,cond_true]
      exact h5
    | false =>
     simp only[cond_false]
     cases k3:e.2.1==3 with
     | true =>
      have e3:e.2.1=3:=by simpa using k3
      rw[k3] at h h3 h5
      rw[k2] at h5
      rw[cond_true] at h h3
      rw[cond_false,cond_true] at h5
      rw[h3,cond_true,cond_true]
      unfold Qw
      cases c1:qyq e.2.2.2 0 with
      | true=>rw[c1] at h;cases h
      | false =>
       cases c2:decide ((e.2.2.2.length:Int) ≥ 1) with
       | false=>rw[c2] at h5;cases h5
       | true =>
        rw[c2,cond_true] at h5
        have c2:=of_decide_eq_true c2
        have c3:=of_decide_eq_true h5
        rw[Nat.ble_eq.mpr (by omega:1≤e.2.2.2.length),Nat.ble_eq.mpr (by omega:e.2.2.2.length≤64)]
        rfl
     | false =>
      exfalso
      have x1:e.2.1≠1:=by simpa using k1
      have x2:e.2.1≠2:=by simpa using k2
      have x3:e.2.1≠3:=by simpa using k3
      have x5:e.2.1≠5:=by simpa using k5
      cases y1:decide (e.2.1 ≥ 1) with
      | false=>rw[y1] at h1;cases h1
      | true =>
       rw[y1,cond_true] at h1
       have:=of_decide_eq_true y1
       have:=of_decide_eq_true h1
       omega
 ·rw[hk] at h3
  have a1:((1:Int)==3)=false:=rfl
  have a2:((1:Int)==4)=false:=rfl
  rw[a1,a2,cond_false,cond_false] at h3
  cases b1:decide (e.2.2.1 ≥ 0) with
  | false=>rw[b1] at h3;cases h3
  | true =>
   rw[b1,cond_true] at h3
   exact⟨of_decide_eq_true b1,of_decide_eq_true h3⟩
structure GN (N:List (List Nat × En)):Prop where
 may:∀ x∈N,V7 x.2=true
 dir:∀ x∈N,upE x.1=[]∨∃ y,qC (upE x.1) N=some y∧y.2.1=1
theorem qed {q:List Nat} {y:En} {r:List (List Nat × En)}:∀ {l:List (List Nat × En)},qC q l=some y→qC q (l++r)=some y
 | [],h=>by cases h
 | (p,x)::l,h=>by
  simp only[qC,List.cons_append] at h ⊢
  cases hb:eqB q p with
  | true=>rw[hb] at h;exact h
  | false =>
   rw[hb] at h
   exact qed h
theorem VN {p q:List Nat} (hq:XJ p q=false):∀ {l:List (List Nat × En)},qC q (l.filter fun x=>!XJ p x.1)=qC q l
 | []=>rfl
 | (k,x)::l=>by
  have ih:=VN hq (l:=l)
  simp only[List.filter_cons]
  cases hb:XJ p k with
  | false=>simp only[Bool.not_false,if_true,qC,ih]
  | true =>
   simp only[Bool.not_true,Bool.false_eq_true,if_false,ih,qC]
   cases he:eqB q k with
   | false=>rfl
   | true =>
    rw[qG] at he
    rw[← of_decide_eq_true he,hq] at hb
    cases hb
theorem qif {p q:List Nat} {N:List (List Nat × En)} (hn:(qV N).Nodup) (h1:XJ p q=false) (h2:q≠p):qC q (qbg p N)=qC q N:=by
 unfold qbg
 rw[Jz (by show (qV _).Nodup;rw[Ws];exact hn.sublist List.filter_sublist),if_neg h2,VN h1]
theorem GN.cut {N:List (List Nat × En)} (G:GN N) (hn:(qV N).Nodup) {p:List Nat} (hp:p≠[]):GN (qbg p N):=by
 have hsub:∀ x∈qbg p N,x∈N:=fun x hx=>(delG_sub.trans List.filter_sublist).mem hx
 refine⟨fun x hx=>G.may x (hsub x hx),fun x hx=>?_⟩
 obtain⟨h1,h2,h3⟩:=(Vz hn).1 (List.mem_map.2 ⟨x,hx,rfl⟩)
 by_cases hu:upE x.1=[]
 ·exact Or.inl hu
 ·rcases G.dir x (hsub x hx) with h|⟨y,y1,y2⟩
  ·exact Or.inl h
  ·refine Or.inr ⟨y,?_,y2⟩
   rw[qif hn ?_ ?_]
   ·exact y1
   ·rw[← Bool.not_eq_true]
    intro hb
    rw[KQ hb (Xc rfl hu)] at h2
    cases h2
   ·intro e
    rw[Xc e hp] at h2
    cases h2
theorem GN.app {N:List (List Nat × En)} (G:GN N) {p:List Nat} {v:En} (hm:V7 v=true) (hd:upE p=[]∨∃ y,qC (upE p) N=some y∧y.2.1=1):GN (N++[(p,v)]):=by
 refine⟨fun x hx=>?_,fun x hx=>?_⟩
 ·rcases List.mem_append.1 hx with h|h
  ·exact G.may x h
  ·rw[List.mem_singleton.1 h];exact hm
 ·have key:(upE x.1=[]∨∃ y,qC (upE x.1) N=some y∧y.2.1=1):=by
   rcases List.mem_append.1 hx with h|h
   ·exact G.dir x h
   ·rw[List.mem_singleton.1 h];exact hd
  rcases key with h|⟨y,y1,y2⟩
  ·exact Or.inl h
  ·exact Or.inr ⟨y,qed y1,y2⟩
theorem qcp {p:List Nat} {v:En} {x:List Nat × En}:∀ {l:List (List Nat × En)},x∈Jb p v l→x∈l∨x=(p,v)
 | [],h=>by simp[Jb] at h;exact Or.inr h
 | (q,w)::l,h=>by
  simp only[Jb] at h
  cases hb:eqB p q with
  | true =>
   rw[hb,cond_true] at h
   rcases List.mem_cons.1 h with h|h
   ·exact Or.inr h
   ·exact Or.inl (List.mem_cons_of_mem _ h)
  | false =>
   rw[hb,cond_false] at h
   rcases List.mem_cons.1 h with h|h
   ·exact Or.inl (h ▸ List.mem_cons_self)
   ·rcases qcp h with h|h
    ·exact Or.inl (List.mem_cons_of_mem _ h)
    ·exact Or.inr h
theorem q2m {N:List (List Nat × En)} {e:En} (h:WM N e=true):upE e.1=[]∨∃ y,qC (upE e.1) N=some y∧y.2.1=1:=by
 unfold WM at h
 cases h1:eqB (upE e.1) [] with
 | true=>rw[qG] at h1;exact Or.inl (of_decide_eq_true h1)
 | false =>
  rw[h1,cond_false] at h
  cases hl:qC (upE e.1) N with
  | none=>rw[hl] at h;cases h
  | some y =>
   rw[hl] at h
   refine Or.inr ⟨y,rfl,?_⟩
   simpa using h
theorem GN.apply {N N':List (List Nat × En)} (G:GN N) (hn:(qV N).Nodup) {e:En} {pre:List En} (hf:Zr e pre=0) (h:ZN N e=some N'):GN N':=by
 have hne:=qb5 hf
 unfold ZN at h
 cases hu:WM N e with
 | false=>rw[hu] at h;cases h
 | true =>
 rw[hu,cond_true] at h
 have hdir:=q2m hu
 cases hl:qC e.1 N with
 | none =>
  rw[hl] at h
  simp only at h
  cases h4:e.2.1==4 with
  | true=>rw[h4] at h;cases h
  | false =>
   rw[h4] at h
   cases h
   exact G.app (WA hf (by simpa using h4)).2.1 hdir
 | some old =>
  rw[hl] at h
  simp only at h
  cases h1:e.2.1==1&&old.2.1==1 with
  | true =>
   rw[h1] at h
   cases h
   obtain⟨k1,k2⟩:=Bool.and_eq_true_iff.1 h1
   have k1:e.2.1=1:=by simpa using k1
   have k2:old.2.1=1:=by simpa using k2
   have hmo:=G.may _ (ZL hl)
   obtain⟨_,_,hmode⟩:=WA hf (by rw[k1];decide)
   have hmode:=hmode k1
   have hmv:V7 (old.1,old.2.1,e.2.2.1,old.2.2.2)=true:=by
    unfold V7 Z7 at hmo ⊢
    simp only at hmo ⊢
    rw[k2] at hmo ⊢
    have a1:((1:Int)==1)=true:=rfl
    rw[a1] at hmo ⊢
    cases hp:X9 old.1 with
    | false=>rw[hp] at hmo;cases hmo
    | true =>
     rw[hp] at hmo
     simp only[cond_true] at hmo ⊢
     rw[decide_eq_true hmode.1,decide_eq_true hmode.2]
     cases b1:decide (old.2.2.1 ≥ 0) with
     | false=>rw[b1] at hmo;cases hmo
     | true =>
      rw[b1] at hmo
      cases b2:decide (old.2.2.1≤511) with
      | false=>rw[b2] at hmo;cases hmo
      | true =>
       rw[b2] at hmo
       exact hmo
   refine⟨fun x hx=>?_,fun x hx=>?_⟩
   ·rcases qcp hx with h|h
    ·exact G.may x h
    ·rw[h];exact hmv
   ·have key:(upE x.1=[]∨∃ y,qC (upE x.1) N=some y∧y.2.1=1):=by
     rcases qcp hx with h|h
     ·exact G.dir x h
     ·rw[h];exact hdir
    rcases key with h|⟨y,y1,y2⟩
    ·exact Or.inl h
    ·refine Or.inr ?_
     rw[Vu]
     by_cases hq:upE x.1=e.1
     ·exact⟨_,if_pos hq,k2⟩
     ·exact⟨y,by rw[if_neg hq];exact y1,y2⟩
  | false =>
   rw[h1,cond_false] at h
   have Gc:=G.cut hn hne
   cases h4:e.2.1==4 with
   | true =>
    rw[h4] at h
    cases h
    exact Gc
   | false =>
    rw[h4] at h
    cases h
    refine Gc.app (WA hf (by simpa using h4)).2.1 ?_
    rcases hdir with h|⟨y,y1,y2⟩
    ·exact Or.inl h
    ·exact Or.inr ⟨y,by rw[qif hn (Vr hne) (Vk hne)];exact y1,y2⟩
theorem GoneD.ex {N:List (List Nat × En)} {K:List (List Nat × Int)} {p:List Nat}:∃ D N1,GoneD N K p D N1:=by
 cases h:(bif decide ((qC p K).getD 0 > 0) then true else false) with
 | true=>exact⟨(qV N).filter (XJ p),_,Or.inl ⟨h,rfl,fun d=>List.mem_filter⟩⟩
 | false=>exact⟨[],N,Or.inr ⟨h,rfl,rfl⟩⟩
theorem ApR.ex {N:List (List Nat × En)} {K:List (List Nat × Int)} {e:En}:∃ b N' K',ApR N K e b N' K':=by
 have ok:(eqB (upE e.1) []=false∧(((qC (upE e.1) N).getD enZ).2.1 != 1)=true)∨(eqB (upE e.1) []=true∨(((qC (upE e.1) N).getD enZ).2.1 != 1)=false):=by
  cases eqB (upE e.1) [] <;> cases (((qC (upE e.1) N).getD enZ).2.1 != 1) <;> simp
 rcases ok with⟨h1,h2⟩|ok
 ·exact⟨_,_,_,.up h1 h2⟩
 ·obtain⟨D,N1,hG⟩:=GoneD.ex (N:=N) (K:=K) (p:=e.1)
  cases hl:qC e.1 N with
  | none =>
   by_cases k4:e.2.1=4
   ·exact⟨_,_,_,.gone0 k4 hl⟩
   ·exact⟨_,_,_,.new ok hl k4⟩
  | some old =>
   by_cases k4:e.2.1=4
   ·exact⟨_,_,_,.gone1 old D N1 ok hl k4 hG⟩
   ·by_cases k1:e.2.1=1∧old.2.1=1
    ·exact⟨_,_,_,.mode old ok hl k1.1 k1.2⟩
    ·exact⟨_,_,_,.over old D N1 ok hl k4 (fun h h'=>k1 ⟨h,h'⟩) hG⟩
theorem FI.apply {B:Nat} {N N':List (List Nat × En)} {K:List (List Nat × Int)} (F:FI B N K) {e:En} (hne:e.1≠[]) (hB:B≤1000000) (h:ZN N e=some N'):∃ K',FI (B+1) N' K':=by
 obtain⟨b,N2,K2,A⟩:=ApR.ex (N:=N) (K:=K) (e:=e)
 rcases A.fin F hne hB with⟨_,h1,h2⟩|⟨_,h1⟩
 ·rw[h] at h1
  cases h1
  exact⟨K2,h2⟩
 ·rw[h] at h1
  cases h1
theorem qae:∀ {es:List En} {B:Nat} {N N':List (List Nat × En)} {K:List (List Nat × Int)},FI B N K→GN N→(∀ e∈es,∃ pre,Zr e pre=0)→B+es.length≤1000000→WQ N es=some N'→∃ K',FI (B+es.length) N' K'∧GN N'
 | [],B,N,N',K,F,G,_,_,h=>by
  simp only[WQ] at h
  cases h
  exact⟨K,F,G⟩
 | e::l,B,N,N',K,F,G,hf,hB,h=>by
  simp only[WQ] at h
  cases ha:ZN N e with
  | none=>rw[ha] at h;cases h
  | some N1 =>
   rw[ha] at h
   obtain⟨pre,hp⟩:=hf e List.mem_cons_self
   simp only[List.length_cons] at hB
   obtain⟨K1,F1⟩:=F.apply (qb5 hp) (by omega) ha
   have G1:=G.apply F.nd hp ha
   obtain⟨K2,F2,G2⟩:=qae F1 G1 (fun x hx=>hf x (List.mem_cons_of_mem _ hx)) (by omega) h
   refine⟨K2,?_,G2⟩
   have:B+(e::l).length=B+1+l.length:=by simp;omega
   rw[this]
   exact F2
theorem qrz {p:List Nat} {v:En} {l:List (List Nat × En)} (hn:(qV l).Nodup) (h:(p,v)∈l):qC p l=some v:=by
 obtain⟨j,hj⟩:=List.mem_iff_getElem?.1 h
 exact (Vj hn hj).2.1
theorem qgm {lower:List En} {M:Md} (h:ofT lower=some M):(∃ K,FI 128 (ZK lower) K)∧GN (ZK lower):=by
 have G:=qof h
 have D:=quc h
 have hnd:(qV (ZK lower)).Nodup:=by rw[Jr];exact Jw G.rise
 obtain⟨g1,g2⟩:=Wv (es:=lower) (pre:=[]) (K:=[]) (B:=0) FI.zero.to0 (by simpa using Jw G.rise) (fun h=>by
  obtain⟨e,he,h0⟩:=List.mem_map.1 h
  exact qes (G.may e he) h0) (by have:=G.len;omega)
 rw[List.nil_append] at g1
 have g3:=g2.to (by
  rw[g1,Jr]
  intro k hk hu
  obtain⟨e,he,rfl⟩:=List.mem_map.1 hk
  exact G.par e he hu)
 rw[g1] at g3
 refine⟨⟨_,⟨g3.nd,g3.kd,g3.key,g3.par,g3.cnt,Nat.le_trans g3.len (by have:=G.len;omega),g3.ne⟩⟩,⟨fun x hx=>?_,fun x hx=>?_⟩⟩
 ·obtain⟨e,he,rfl⟩:=List.mem_map.1 hx
  exact G.may e he
 ·obtain⟨e,he,rfl⟩:=List.mem_map.1 hx
  rcases D e he with h|⟨f,f1,f2,f3⟩
  ·exact Or.inl h
  ·refine Or.inr ⟨f,qrz hnd ?_,f3⟩
   show (upE e.1,f)∈ZK lower
   rw[← f2]
   exact List.mem_map.2 ⟨f,f1,rfl⟩
theorem qhk {lower es out:List En} (h:KU lower es=some out):∃ M,ofT out=some M:=by
 unfold KU at h
 cases ho:ofT lower with
 | none=>rw[ho] at h;cases h
 | some M0 =>
 rw[ho] at h
 simp only at h
 cases hm:(qpn es).2 != 0 with
 | true=>rw[hm] at h;cases h
 | false =>
 rw[hm,cond_false] at h
 have hm0:(qpn es).2=0:=by simpa using hm
 obtain⟨hl,hf⟩:=ql3 hm0
 cases ha:WQ (ZK lower) es with
 | none=>rw[ha] at h;cases h
 | some N =>
 rw[ha] at h
 simp only at h
 cases hN:decide ((N.length:Int) > 128) with
 | true=>rw[hN] at h;cases h
 | false =>
 rw[hN,cond_false] at h
 have hN:=of_decide_eq_false hN
 obtain⟨⟨K,F⟩,G⟩:=qgm ho
 obtain⟨K',F',G'⟩:=qae F G hf (by omega) ha
 cases h
 have hnd:((N.map (·.2)).map (·.1)).Nodup:=by
  have:(N.map (·.2)).map (·.1)=qV N:=by
   unfold qV
   rw[List.map_map]
   exact List.map_congr_left fun x hx=>F'.key x hx
  rw[this]
  exact F'.nd
 have mem:∀ e,e∈Wz (N.map (·.2))↔∃ x∈N,x.2=e:=fun e=>by rw[sortEn_perm.mem_iff,List.mem_map]
 refine qxh (fun e he=>?_) (Xl hnd) (fun e he=>?_) (by rw[sortEn_perm.length_eq,List.length_map];omega)
 ·obtain⟨x,hx,rfl⟩:=(mem e).1 he
  exact G'.may x hx
 ·obtain⟨x,hx,rfl⟩:=(mem e).1 he
  have hk:=F'.key x hx
  rcases G'.dir x hx with h|⟨y,y1,y2⟩
  ·exact Or.inl (by rw[hk];exact h)
  ·refine Or.inr ⟨y,(mem y).2 ⟨_,ZL y1,rfl⟩,?_,y2⟩
   rw[hk]
   exact F'.key _ (ZL y1)
theorem Ky:∀ {im:List (List En)} {es out:List En},(∃ M,ofT es=some M)→XB es im=some out→∃ M,ofT out=some M
 | [],es,out,h0,h=>by
  simp only[XB] at h
  cases h
  exact h0
 | l::r,es,out,h0,h=>by
  simp only[XB] at h
  cases ha:KU es l with
  | none=>rw[ha] at h;cases h
  | some es' =>
   rw[ha] at h
   exact Ky (qhk ha) h
theorem qks {im:List (List En)} {out:List En} (h:Wr im=some out):ofT out≠none:=by
 unfold Wr at h
 cases hl:decide ((im.length:Int) > 12) with
 | true=>rw[hl] at h;cases h
 | false =>
  rw[hl,cond_false] at h
  obtain⟨M,hM⟩:=Ky ⟨_,rfl⟩ h
  rw[hM]
  simp
def Xt:AO→Bool
 | .cells _ el _=>!(Nat.beq el 117||Nat.beq el 120)
 | .old _=>true
 | _=>false
theorem World.withU {s:St} {x:Nat} {M:Md} {L:List (Nat × AO)} (h:World s x M L) {i:Nat} {o:AO} (hi:s.h.get i=some o) (ho:Xt o=true):World s x M ((i,o)::L):=by
 obtain⟨hB,ι,μ,R,hq⟩:=h
 refine⟨hB,ι,μ,R,fun q hm=>?_⟩
 rcases List.mem_cons.1 hm with rfl|hm
 ·refine⟨hi,?_⟩
  rintro (e|⟨k,hk,e|e⟩)
  ·have e:i=x:=e
   subst e
   rw[R.tr] at hi
   cases hi
   cases ho
  ·have e:i=ι k:=e
   subst e
   obtain⟨nd,hn⟩:=qa9 hk
   have:=(R.nd k nd hn).1
   rw[this] at hi
   cases hi
   cases ho
  ·have e:i=μ k:=e
   subst e
   obtain⟨nd,hn⟩:=qa9 hk
   have h2:s.h.get (μ k)=_:=(R.nd k nd hn).2
   rw[h2] at hi
   cases hi
   cases ho
 ·exact hq q hm
theorem qqh {x:Nat} {T W:AV} (hT:T=.ptr x 0∨T=.raw (.pointer none)) {b:Nat} {s:St} {out:List En} (hW:ErB b s W out):Qq TE 74 [(0,T),(1,W)]=some (.agg [T,W]):=by
 rcases hT with rfl|rfl <;> rcases hW with⟨rfl,_⟩|⟨id,_,rfl,_⟩ <;> kernel_rfl
theorem qx9:(match TE.info 24 with|some ti=>QF ti.desc&&Nat.beq ti.size 1|none=>false)=true:=by kernel_rfl
theorem qjy {s:St} {x:Nat}:Q1 TE s 24 (.ptr x 0)=ldG 1 (s.h.get x):=KT qx9
def qq7 (W:AV) (out:List En):List (Nat × AO):=match W with
 | .slice id _ _ _ _ _=>[(id,.cells (Qm out) 34 8)]
 | _=>[]
theorem q2z {b:Nat} {s:St} {W:AV} {out:List En} (h:ErB b s W out) {s':St} (hL:∀ q∈qq7 W out,s'.h.get q.1=some q.2):ErB b s' W out:=by
 rcases h with⟨rfl,rfl⟩|⟨id,h1,rfl,h2⟩
 ·exact Or.inl ⟨rfl,rfl⟩
 ·exact Or.inr ⟨id,h1,rfl,hL (id,_) (List.mem_singleton.2 rfl)⟩
theorem qti {i j:Nat} {s:St} {d:Option (AV × List Nat)}:eqS TE s .eql 27 (.ptr i j) (.raw (.pointer none)) d=some (.raw (.bool false),[]):=by kernel_rfl
theorem qss {x:Nat}:qn TE 74 (.ptr x 0) 0=some (.ptr x 0):=by kernel_rfl
theorem qyl {s:St} (H:Ok TE Tryz.prog pr3) {x u:Nat} {W:AV} {M:Md} {L:List (Nat × AO)} (hW:World s x M L) (hU:(u,AO.cells [.ptr x 0,W] 74 0)∈L) {c:Cl} {q:An × Md} (h:doM M c=some q) {kr kp:AV→St→Bool} (hk:Dt s x L kr q) :
  (sem Tryz.prog).call 10 [.ptr u 0,.agg (clL c)] s kr kp=true:=by
 refine qk H 14 q58 rfl rfl ?_
 have g3:=World.get hW hU
 have h3:u < s.nx:=World.lt hW hU
 have m1:(s.nx=s.nx+1)=False:=by simp
 have m2:(s.nx+1=s.nx)=False:=by simp
 have m3:(u=s.nx)=False:=by simp;omega
 have m4:(u=s.nx+1)=False:=by simp;omega
 have hW2:=(World.alloc hW (.cells (clL c) 41 0)).alloc (.cells (anL 0 0 0 0 [] nilS) 38 0)
 have hL1:∀ q∈(s.nx,AO.cells (clL c) 41 0)::L,q.1≠s.nx+1:=by
  intro q hq
  simp only[List.mem_cons] at hq
  rcases hq with rfl|hq
  ·simp
  ·have:=World.lt hW hq
   omega
 unfold clL at hW2 ⊢
 repeat (first|with_reducible (refine q9 H ?_;constructor)|simp only[rB,rP,rQ,q7,qc,reduceIte,Nat.reduceLT,Nat.reduceEqDiff,pe3,pf3,zn,qd,qh,Zh,qti,qss,q0q,m1,m2,m3,m4,g3,Kd,J3]|(with_reducible refine qq H (i:=3) (.take 0 (.take 1 (.take 2 (.take 3 (.take 4 (.alt 5 [0,1,2,3,4] (.alt 6 [0,1,2,3,4,5] (.done) (.yes)) (.yes))))))) rfl (by kernel_rfl) ?_))
 refine do_c H hW2 h (c:=c) ?_
 intro s1 V w1 l1 hV
 have c1:s1.h.get (s.nx+1)=some (.cells (anL 0 0 0 0 [] nilS) 38 0):=w1.get0
 repeat (first|with_reducible (refine q9 H ?_;constructor)|simp only[rB,rP,rQ,q7,qc,reduceIte,Nat.reduceLT,Nat.reduceEqDiff,pe3,pf3,c1,Qj hV.cells1.2,zr,zD,qY,Tryz.results10])
 exact hk _ V ((w1.set hL1 _).sub (fun q hq=>List.mem_cons_of_mem _ (List.mem_cons_of_mem _ hq))) (Nat.le_trans (by show s.nx≤s.nx+1+1;omega) l1) (hV.set c1 KG _)
theorem qwn {s:St} (H:Ok TE Tryz.prog pr3) {x u:Nat} {W:AV} {M:Md} {L:List (Nat × AO)} (hW:World s x M L) (hU:(u,AO.cells [.ptr x 0,W] 74 0)∈L) {es:List En} (h:J6 M.T 20 M.root []=some es) (hl:es.length≤20000) {kr kp:AV→St→Bool}
  (hk:∀ s' V,World s' x M L→ErB s.nx s' V es→kr V s'=true) :
  (sem Tryz.prog).call 27 [.ptr u 0] s kr kp=true:=by
 refine qk H 10 q4b rfl rfl ?_
 have g3:=World.get hW hU
 have h3:u < s.nx:=World.lt hW hU
 repeat (first|with_reducible (refine q9 H ?_;constructor)|simp only[rB,rP,rQ,q7,qc,reduceIte,Nat.reduceLT,Nat.reduceEqDiff,pe3,pf3,Zh,qti,qss,q0q,g3])
 refine qj9 H hW h hl (fun s' V hE hB' hV=>?_)
 repeat (first|with_reducible (refine q9 H ?_;constructor)|simp only[rB,rP,rQ,q7,qc,reduceIte,Nat.reduceLT,Nat.reduceEqDiff,pe3,pf3,Tryz.results27])
 exact hk s' V (hW.ext hE hB') hV
end Go.AX
