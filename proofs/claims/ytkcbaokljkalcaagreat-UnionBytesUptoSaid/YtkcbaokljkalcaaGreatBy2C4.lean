import Derived.Test.YtkcbaokljkalcaaGreatBy2C3
set_option linter.unusedVariables false
set_option linter.unusedSimpArgs false
set_option linter.defProp false
namespace Go.AX
open Go.Proofs Go.RowKit
set_option maxRecDepth 1000000
set_option maxHeartbeats 4000000
set_option linter.unusedSimpArgs false
def zk (i:Nat→Nat) (l:List (List Nat × Nat)):List (List Nat × Nat):=l.map fun q=>(q.1,i q.2)
def Nd.to (i:Nat→Nat) (mp:Nat) (nd:Nd):Nd:={ nd with kids:=zk i nd.kids,up:=nd.up.map i,mp:=mp }
theorem qge {i:Nat→Nat} {mp:Nat} {nd:Nd}:(nd.to i mp).kind=nd.kind:=(rfl)
theorem qne {i:Nat→Nat} {mp:Nat} {nd:Nd}:(nd.to i mp).data=nd.data:=(rfl)
theorem qby {i:Nat→Nat} {mp:Nat} {nd:Nd}:(nd.to i mp).kids=zk i nd.kids:=(rfl)
theorem q51 {i:Nat→Nat} {mp:Nat} {nd:Nd}:(nd.to i mp).up=nd.up.map i:=(rfl)
theorem qw0 {i:Nat→Nat} {mp:Nat} {nd:Nd}:(nd.to i mp).name=nd.name:=(rfl)
theorem qz5 {i:Nat→Nat} {mp:Nat} {nd:Nd}:(nd.to i mp).mp=mp:=(rfl)
def Hom (i:Nat→Nat) (T0 T:QH):Prop:=∀ k nd,T0 k=some nd→∃ mp,T (i k)=some (nd.to i mp)
theorem K6 {i:Nat→Nat} {p:List Nat}:∀ (l:List (List Nat × Nat)),qM p (zk i l)=(qM p l).map i
 | []=>rfl
 | (q,j)::l=>by
  have ih:=K6 (i:=i) (p:=p) l
  simp only[zk] at ih
  simp only[zk,List.map_cons,qM]
  cases eqB p q with
  | true=>rfl
  | false=>exact ih
theorem qhn {i:Nat→Nat} {p:List Nat} {n:Nat}:∀ (l:List (List Nat × Nat)),setK p (i n) (zk i l)=zk i (setK p n l)
 | []=>rfl
 | (q,j)::l=>by
  have ih:=qhn (i:=i) (p:=p) (n:=n) l
  simp only[zk] at ih
  simp only[zk,List.map_cons,setK]
  cases eqB p q with
  | true=>rfl
  | false=>simp only[cond_false,ih,List.map_cons]
theorem qke {i:Nat→Nat} (l:List (List Nat × Nat)):(zk i l).length=l.length:=by simp[zk]
theorem qa6 {i:Nat→Nat} {T0 T:QH} (H:Hom i T0 T):∀ {f k:Nat} {p:List Nat},Yg T0 f k=some p→Yg T f (i k)=some p
 | 0,_,_,h=>by cases h
 | f+1,k,p,h=>by
  simp only[Yg] at h ⊢
  cases hk:T0 k with
  | none=>rw[hk] at h;cases h
  | some nd =>
   obtain⟨mp,hm⟩:=H k nd hk
   rw[hk] at h
   rw[hm]
   simp only[q51,qw0] at h ⊢
   cases hu:nd.up with
   | none=>rw[hu] at h;exact h
   | some u =>
    rw[hu] at h
    simp only[Option.map_some] at h ⊢
    cases hp:Yg T0 f u with
    | none=>rw[hp] at h;cases h
    | some q=>rw[hp] at h;rw[qa6 H hp];exact h
def toS (i:Nat→Nat):Nat ⊕ Nat→Nat ⊕ Nat
 | .inl k=>.inl (i k)
 | .inr n=>.inr n
theorem qcb {i:Nat→Nat} {T0 T:QH} (H:Hom i T0 T) {root:Nat} {follow:Bool}:∀ {f cur hops:Nat} {l:List (List Nat)} {o:Nat ⊕ Nat},JP T0 root follow f cur hops l=some o→JP T (i root) follow f (i cur) hops l=some (toS i o)
 | 0,_,_,_,_,h=>by simp only[JP] at h;cases h
 | f+1,cur,hops,[],o,h=>by
  simp only[JP] at h ⊢
  cases h
  rfl
 | f+1,cur,hops,p::rest,o,h=>by
  simp only[JP] at h ⊢
  cases hk:T0 cur with
  | none=>rw[hk] at h;cases h
  | some nd =>
   obtain⟨mp,hm⟩:=H cur nd hk
   rw[hk] at h
   rw[hm]
   simp only[qge,qby,K6] at h ⊢
   cases hd:decide (nd.kind≠1) with
   | true=>rw[hd] at h;simp only[cond_true] at h ⊢;cases h;rfl
   | false =>
    rw[hd] at h
    simp only[cond_false] at h ⊢
    cases hl:qM p nd.kids with
    | none=>rw[hl] at h;cases h;rfl
    | some kid =>
     rw[hl] at h
     simp only[Option.map_some] at h ⊢
     cases hkk:T0 kid with
     | none=>rw[hkk] at h;cases h
     | some kd =>
      obtain⟨mp',hm'⟩:=H kid kd hkk
      rw[hkk] at h
      rw[hm']
      simp only[qge,qne] at h ⊢
      cases hb:(decide (kd.kind≠3)||(rest.isEmpty&&!follow)) with
      | true=>rw[hb] at h;simp only[cond_true] at h ⊢;exact qcb H h
      | false =>
       rw[hb] at h
       simp only[cond_false] at h ⊢
       cases h7:Nat.blt 7 hops with
       | true=>rw[h7] at h;simp only[cond_true] at h ⊢;cases h;rfl
       | false =>
        rw[h7] at h
        simp only[cond_false] at h ⊢
        cases hp:Yg T0 20 cur with
        | none=>rw[hp] at h;cases h
        | some cw =>
         rw[hp] at h
         rw[qa6 H hp]
         simp only at h ⊢
         cases hbb:(Nat.ble cw.length 1000&&(zi cw&&zi kd.data)) with
         | false=>rw[hbb] at h;cases h
         | true =>
          rw[hbb] at h
          simp only[cond_true] at h ⊢
          cases ht:ZV cw kd.data with
          | inr n=>rw[ht] at h;cases h;rfl
          | inl names =>
           rw[ht] at h
           simp only at h ⊢
           cases hn:Nat.ble (names.length+rest.length) 50000 with
           | false=>rw[hn] at h;cases h
           | true=>rw[hn] at h;simp only[cond_true] at h ⊢;exact qcb H h
theorem qow {i:Nat→Nat} {T0 T:QH} (H:Hom i T0 T) {cwd:Nat} {b:List Nat} {o:List (List Nat) ⊕ Nat} (h:YY T0 cwd b=some o):YY T (i cwd) b=some o:=by
 unfold YY at h ⊢
 cases hp:Yg T0 20 cwd with
 | none=>rw[hp] at h;cases h
 | some cw=>rw[hp] at h;rw[qa6 H hp];exact h
theorem Jp {i:Nat→Nat} {T0 T:QH} (H:Hom i T0 T) {root cwd:Nat} {b:List Nat} {follow:Bool} {o:Nat ⊕ Nat} (h:Zq T0 root cwd b follow=some o):Zq T (i root) (i cwd) b follow=some (toS i o):=by
 unfold Zq at h ⊢
 cases hp:YY T0 cwd b with
 | none=>rw[hp] at h;cases h
 | some r =>
  rw[hp] at h
  rw[qow H hp]
  cases r with
  | inr n=>cases h;rfl
  | inl names=>exact qcb H h
def Mv.to (i:Nat→Nat) (m:Mv):Mv:=⟨i m.u,m.old,i m.j,i m.v,m.nm,m.y.map i⟩
end Go.AX
namespace Go.AX
open Go.Proofs Go.RowKit
set_option maxRecDepth 1000000
set_option maxHeartbeats 4000000
set_option linter.unusedSimpArgs false
structure Md where
 nodes:List Nd
 root:Nat
 cwd:Nat
 fds:List (Option Nat)
 many:Int
structure An where
 status:Int
 num:Int
 kind:Int
 mode:Int
 data:List Nat
 names:List (List Nat)
def Md.T (M:Md):QH:=fun k=>M.nodes[k]?
def qnu (ι:Nat→Nat) (fds:List (Option Nat)):List (Option Nat):=fds.map (Option.map ι)
structure RepM (s:St) (x:Nat) (M:Md) (ι μ:Nat→Nat):Prop where
 nd:∀ k nd,M.T k=some nd→qvb s (ι k) (nd.to ι (μ k))
 tr:s.h.get x=some (trA (ι M.root) (ι M.cwd) (qnu ι M.fds) M.many)
 ij:∀ j k,j < M.nodes.length→k < M.nodes.length→ι j=ι k→j=k
 mj:∀ j k,j < M.nodes.length→k < M.nodes.length→μ j=μ k→j=k
 kd:∀ k nd,M.T k=some nd→∀ q∈nd.kids,q.2 < M.nodes.length
 up:∀ k nd u,M.T k=some nd→nd.up=some u→u < M.nodes.length
 rt:M.root < M.nodes.length
 cw:M.cwd < M.nodes.length
 f8:M.fds.length=8
 fd:∀ o∈M.fds,∀ k,o=some k→k < M.nodes.length
 mn:-1000000≤M.many∧M.many≤1000000
 da:∀ k nd,M.T k=some nd→nd.data.length≤40000
def Own (x:Nat) (M:Md) (ι μ:Nat→Nat) (i:Nat):Prop:=i=x∨∃ k,k < M.nodes.length∧(i=ι k∨i=μ k)
def World (s:St) (x:Nat) (M:Md) (L:List (Nat × AO)):Prop:=qc s∧∃ ι μ,RepM s x M ι μ∧∀ q∈L,s.h.get q.1=some q.2∧¬ Own x M ι μ q.1
theorem Y1 {M:Md} {k:Nat} {nd:Nd} (h:M.T k=some nd):k < M.nodes.length:=by
 unfold Md.T at h
 exact (List.getElem?_eq_some_iff.mp h).1
theorem qdp {M:Md} {k:Nat} (h:k < M.nodes.length):∃ nd,M.T k=some nd:=⟨M.nodes[k],List.getElem?_eq_getElem h⟩
open Classical in
noncomputable def tOf (M:Md) (ι μ:Nat→Nat):QH:=fun i=>if h:∃ k,k < M.nodes.length∧ι k=i then (M.T (Classical.choose h)).map (Nd.to ι (μ (Classical.choose h))) else none
section
variable {s:St} {x:Nat} {M:Md} {ι μ:Nat→Nat} (R:RepM s x M ι μ)
include R
theorem RepM.at {k:Nat} {nd:Nd} (h:M.T k=some nd):tOf M ι μ (ι k)=some (nd.to ι (μ k)):=by
 have hex:∃ j,j < M.nodes.length∧ι j=ι k:=⟨k,Y1 h,rfl⟩
 have hc:=Classical.choose_spec hex
 have e:Classical.choose hex=k:=R.ij _ _ hc.1 (Y1 h) hc.2
 unfold tOf
 rw[dif_pos hex,e,h]
 rfl
theorem RepM.inv {i:Nat} {nd':Nd} (h:tOf M ι μ i=some nd'):∃ k nd,i=ι k∧M.T k=some nd∧nd'=nd.to ι (μ k):=by
 by_cases hex:∃ j,j < M.nodes.length∧ι j=i
 ·obtain⟨k,hk,rfl⟩:=hex
  obtain⟨nd,hn⟩:=qdp hk
  rw[R.at hn] at h
  cases h
  exact⟨k,nd,rfl,hn,rfl⟩
 ·unfold tOf at h
  rw[dif_neg hex] at h
  cases h
theorem RepM.hom:Hom ι M.T (tOf M ι μ):=fun k _ h=>⟨μ k,R.at h⟩
theorem RepM.rep:RepT s (tOf M ι μ):=fun i nd' h=>by
 obtain⟨k,nd,rfl,hn,rfl⟩:=R.inv h
 exact R.nd k nd hn
theorem RepM.inj:∀ j k nd kd,M.T j=some nd→M.T k=some kd→ι j=ι k→j=k:=fun j k _ _ hj hk e=>R.ij j k (Y1 hj) (Y1 hk) e
theorem RepM.im {j k:Nat} (hj:j < M.nodes.length) (hk:k < M.nodes.length):ι j≠μ k:=by
 intro e
 obtain⟨jd,hj⟩:=qdp hj
 obtain⟨kd,hk⟩:=qdp hk
 have h1:=(R.nd j jd hj).1
 have h2:=(R.nd k kd hk).2
 rw[e] at h1
 have h2:s.h.get (μ k)=_:=h2
 rw[h2] at h1
 cases h1
theorem RepM.xi {k:Nat} (hk:k < M.nodes.length):ι k≠x:=by
 intro e
 obtain⟨kd,hk⟩:=qdp hk
 have h1:=(R.nd k kd hk).1
 rw[e,R.tr] at h1
 simp[ndA,trA] at h1
theorem RepM.xm {k:Nat} (hk:k < M.nodes.length):μ k≠x:=by
 intro e
 obtain⟨kd,hk⟩:=qdp hk
 have h1:s.h.get (μ k)=_:=(R.nd k kd hk).2
 rw[e,R.tr] at h1
 simp[trA] at h1
theorem RepM.li (hB:qc s) {k:Nat} (hk:k < M.nodes.length):ι k < s.nx:=by
 obtain⟨kd,hk⟩:=qdp hk
 exact hB _ _ (R.nd k kd hk).1
theorem RepM.lm (hB:qc s) {k:Nat} (hk:k < M.nodes.length):μ k < s.nx:=by
 obtain⟨kd,hk⟩:=qdp hk
 exact hB _ _ (R.nd k kd hk).2
theorem RepM.lx (hB:qc s):x < s.nx:=hB _ _ R.tr
theorem RepM.da1:∀ n nd,tOf M ι μ n=some nd→nd.data.length≤40000:=fun n nd' h=>by
 obtain⟨k,nd,rfl,hn,rfl⟩:=R.inv h
 exact R.da k nd hn
theorem RepM.da2:∀ n nd,tOf M ι μ n=some nd→nd.data.length≤1000000:=fun n nd h=>Nat.le_trans (R.da1 n nd h) (by decide)
theorem World.new {s':St} {M':Md} {L:List (Nat × AO)} (hB:qc s) (hL:∀ q∈L,s.h.get q.1=some q.2∧¬ Own x M ι μ q.1) (hB':qc s') (hlen:M'.nodes.length=M.nodes.length)
  (hn:∀ k nd,M'.T k=some nd→qvb s' (ι k) (nd.to ι (μ k))∧(∀ q∈nd.kids,q.2 < M.nodes.length)∧(∀ u,nd.up=some u→u < M.nodes.length)∧nd.data.length≤40000)
  (hrt:M'.root=M.root) (hcw:M'.cwd < M.nodes.length) (h8:M'.fds.length=8) (hfd:∀ o∈M'.fds,∀ k,o=some k→k < M.nodes.length) (hmn:-1000000≤M'.many∧M'.many≤1000000)
  (htr:s'.h.get x=some (trA (ι M'.root) (ι M'.cwd) (qnu ι M'.fds) M'.many)) (hfr:∀ i,i < s.nx→¬ Own x M ι μ i→s'.h.get i=s.h.get i):World s' x M' L:=by
 refine⟨hB',ι,μ,⟨fun k nd h=>(hn k nd h).1,htr,?_,?_,?_,?_,?_,?_,h8,?_,hmn,fun k nd h=>(hn k nd h).2.2.2⟩,?_⟩
 ·rw[hlen];exact R.ij
 ·rw[hlen];exact R.mj
 ·rw[hlen];exact fun k nd h=>(hn k nd h).2.1
 ·rw[hlen];exact fun k nd u h hu=>(hn k nd h).2.2.1 u hu
 ·rw[hlen,hrt];exact R.rt
 ·rw[hlen];exact hcw
 ·rw[hlen];exact hfd
 ·intro q hq
  obtain⟨h1,h2⟩:=hL q hq
  refine⟨(hfr _ (hB _ _ h1) h2).trans h1,?_⟩
  unfold Own at h2 ⊢
  rw[hlen]
  exact h2
theorem World.same {s':St} {L:List (Nat × AO)} (hB:qc s) (hL:∀ q∈L,s.h.get q.1=some q.2∧¬ Own x M ι μ q.1) (hB':qc s') (he:Ext s s'):World s' x M L:=by
 refine World.new R hB hL hB' rfl (fun k nd h=>⟨?_,R.kd k nd h,fun u hu=>R.up k nd u h hu,R.da k nd h⟩) rfl R.cw R.f8 R.fd R.mn ((he.2 _ (R.lx hB)).trans R.tr) (fun i hi _=>he.2 i hi)
 have:=R.nd k nd h
 exact⟨(he.2 _ (R.li hB (Y1 h))).trans this.1,(he.2 _ (R.lm hB (Y1 h))).trans this.2⟩
theorem World.turn {s':St} {L:List (Nat × AO)} (hB:qc s) (hL:∀ q∈L,s.h.get q.1=some q.2∧¬ Own x M ι μ q.1) (hB':qc s') {k:Nat} {nd nd':Nd} (hk:M.T k=some nd) (e1:nd'.kids=nd.kids) (e2:nd'.up=nd.up) (hd:nd'.data.length≤40000)
  (ht:qit s s' (ι k) (ndA (nd'.to ι (μ k)))):World s' x { M with nodes:=M.nodes.set k nd' } L:=by
 refine World.new R hB hL hB' (by simp) (fun j jd h=>?_) rfl R.cw R.f8 R.fd R.mn ((ht.2.2 _ (R.lx hB) (fun e=>R.xi (Y1 hk) e.symm)).trans R.tr) (fun i hi ho=>ht.2.2 i hi (fun e=>ho (Or.inr ⟨k,Y1 hk,Or.inl e⟩)))
 unfold Md.T at h
 simp only[List.getElem?_set] at h
 by_cases hj:k=j
 ·subst hj
  rw[if_pos rfl,if_pos (Y1 hk)] at h
  cases h
  refine⟨⟨ht.2.1,?_⟩,?_,?_,hd⟩
  ·have:=(R.nd k nd hk).2
   have hne:μ k≠ι k:=fun e=>R.im (Y1 hk) (Y1 hk) e.symm
   rw[qz5,qby,e1]
   exact (ht.2.2 _ (R.lm hB (Y1 hk)) hne).trans this
  ·rw[e1];exact R.kd k nd hk
  ·rw[e2];exact fun u=>R.up k nd u hk
 ·rw[if_neg hj] at h
  have hj':M.T j=some jd:=h
  have:=R.nd j jd hj'
  refine⟨⟨(ht.2.2 _ (R.li hB (Y1 hj')) (fun e=>hj (R.ij _ _ (Y1 hk) (Y1 hj') e.symm))).trans this.1,(ht.2.2 _ (R.lm hB (Y1 hj')) (fun e=>R.im (Y1 hk) (Y1 hj') e.symm)).trans this.2⟩,R.kd j jd hj',fun u=>R.up j jd u hj',R.da j jd hj'⟩
end
theorem World.ext {s s':St} {x:Nat} {M:Md} {L:List (Nat × AO)} (h:World s x M L) (he:Ext s s') (hB':qc s'):World s' x M L:=by
 obtain⟨hB,ι,μ,R,hL⟩:=h
 exact World.same R hB hL hB' he
def Kt (s:St) (x:Nat) (M:Md) (L:List (Nat × AO)) (kr kp:AV→St→Bool):Nat ⊕ (An × Md)→Prop
 | .inl n=>∀ s',World s' x M L→s.nx≤s'.nx→kp (.iface 110 (.raw (.int .i64 ((n:Nat):Int)))) s'=true
 | .inr (an,M')=>∀ s' V,World s' x M' L→s.nx≤s'.nx→SlV s' V an.names→kr (.agg (anL an.status an.num an.kind an.mode an.data V)) s'=true
theorem Kl {s:St}:SlV s nilS []:=Or.inl ⟨rfl,rfl⟩
theorem qrt {i:Nat→Nat} {mp:Nat} {nd:Nd}:qb5 (nd.to i mp)=qb5 nd:=by
 unfold qb5
 rw[qge,qby,qke,qne]
def do1 (M:Md) (c:Cl):Option (Nat ⊕ (An × Md)):=match Zq M.T M.root M.cwd c.path false with
 | none=>none
 | some (.inr n)=>some (.inl n)
 | some (.inl k)=>match M.T k with
  | none=>none
  | some nd=>some (.inr (⟨0,qb5 nd,nd.kind,nd.mode,[],[]⟩,M))
theorem q6u {s:St} (H:Ok TE Tryz.prog pr3) {x:Nat} {M:Md} {L:List (Nat × AO)} (hW:World s x M L) {c:Cl} (hop:c.op=1) {r:Nat ⊕ (An × Md)} (h:do1 M c=some r) {kr kp:AV→St→Bool} (hk:Kt s x M L kr kp r) :
  (sem Tryz.prog).call 59 [.ptr x 0,.agg (clL c)] s kr kp=true:=by
 have hW':=hW
 obtain⟨hB,ι,μ,R,hL⟩:=hW'
 unfold do1 at h
 cases hf:Zq M.T M.root M.cwd c.path false with
 | none=>rw[hf] at h;cases h
 | some out =>
 rw[hf] at h
 cases out with
 | inr n =>
  have hf':Zq (tOf M ι μ) (ι M.root) (ι M.cwd) c.path false=some (.inr n):=Jp R.hom hf
  cases h
  exact qou H R.rep hB R.tr hop hf' (fun n h=>by cases h) (fun n nd s' h=>by cases h) (fun n s' h e b=>by cases h;exact hk s' (hW.ext e b) e.1)
 | inl k =>
  have hf':Zq (tOf M ι μ) (ι M.root) (ι M.cwd) c.path false=some (.inl (ι k)):=Jp R.hom hf
  simp only at h
  cases hT:M.T k with
  | none=>rw[hT] at h;cases h
  | some nd =>
   rw[hT] at h
   cases h
   refine qou H R.rep hB R.tr hop hf' (fun n h=>by cases h;exact⟨_,R.at hT⟩) (fun n nd' s' h1 h2 e b=>?_) (fun n s' h=>by cases h)
   cases h1
   rw[R.at hT] at h2
   cases h2
   rw[qrt]
   exact hk s' nilS (hW.ext e b) e.1 Kl
def do2 (M:Md) (c:Cl):Option (Nat ⊕ (An × Md)):=match Zq M.T M.root M.cwd c.path true with
 | none=>none
 | some (.inr n)=>some (.inl n)
 | some (.inl k)=>match M.T k with
  | none=>none
  | some nd=>bif decide (nd.kind=1) then some (.inl 4) else match W2 nd.data c.off c.num with
   | .inr e=>some (.inl e)
   | .inl d=>some (.inr (⟨0,(d.length:Int),0,0,d,[]⟩,M))
theorem q6s {s:St} (H:Ok TE Tryz.prog pr3) {x:Nat} {M:Md} {L:List (Nat × AO)} (hW:World s x M L) {c:Cl} (hop:c.op=2) {r:Nat ⊕ (An × Md)} (h:do2 M c=some r) {kr kp:AV→St→Bool} (hk:Kt s x M L kr kp r) :
  (sem Tryz.prog).call 59 [.ptr x 0,.agg (clL c)] s kr kp=true:=by
 have hW':=hW
 obtain⟨hB,ι,μ,R,hL⟩:=hW'
 unfold do2 at h
 cases hf:Zq M.T M.root M.cwd c.path true with
 | none=>rw[hf] at h;cases h
 | some out =>
 rw[hf] at h
 cases out with
 | inr n =>
  have hf':Zq (tOf M ι μ) (ι M.root) (ι M.cwd) c.path true=some (.inr n):=Jp R.hom hf
  cases h
  exact qo9 H R.rep hB R.tr hop hf' (fun n h=>by cases h) R.da2 (fun n nd s' h=>by cases h) (fun n nd d s' h=>by cases h) (fun n nd d s' h=>by cases h) (fun n s' h e b=>by cases h;exact hk s' (hW.ext e b) e.1)
 | inl k =>
  have hf':Zq (tOf M ι μ) (ι M.root) (ι M.cwd) c.path true=some (.inl (ι k)):=Jp R.hom hf
  simp only at h
  cases hT:M.T k with
  | none=>rw[hT] at h;cases h
  | some nd =>
   rw[hT] at h
   simp only at h
   have hA:=R.at hT
   refine qo9 H R.rep hB R.tr hop hf' (fun n h=>by cases h;exact⟨_,hA⟩) R.da2 (fun n nd' s' h1 h2 h3 e b=>?_) (fun n nd' d s' h1 h2 h3 h4 e b=>?_) (fun n nd' d s' h1 h2 h3 h4 e b=>?_) (fun n s' h=>by cases h)
   all_goals (cases h1;rw[hA] at h2;cases h2)
   ·have h3:nd.kind=1:=h3
    rw[decide_eq_true h3] at h
    cases h
    exact hk s' (hW.ext e b) e.1
   ·have h3:nd.kind≠1:=h3
    have h4:W2 nd.data c.off c.num=_:=h4
    rw[decide_eq_false h3,cond_false,h4] at h
    cases h
    exact hk s' nilS (hW.ext e b) e.1 Kl
   ·have h3:nd.kind≠1:=h3
    have h4:W2 nd.data c.off c.num=_:=h4
    rw[decide_eq_false h3,cond_false,h4] at h
    cases h
    exact hk s' (hW.ext e b) e.1
def do3 (M:Md) (c:Cl):Option (Nat ⊕ (An × Md)):=bif M.nodes.all (fun nd=>(qlb nd.kids).isSome) then (match Zq M.T M.root M.cwd c.path true with
 | none=>none
 | some (.inr n)=>some (.inl n)
 | some (.inl k)=>match M.T k with
  | none=>none
  | some nd=>bif !decide (nd.kind=1) then some (.inl 3) else match qlb nd.kids with
   | none=>none
   | some nm=>some (.inr (⟨0,0,0,0,[],nm⟩,M))) else none
def do8 (M:Md) (c:Cl):Option (Nat ⊕ (An × Md)):=bif Nat.ble c.data.length 10000000000000000000 then (match Zq M.T M.root M.cwd c.path true with
 | none=>none
 | some (.inr n)=>some (.inl n)
 | some (.inl k)=>match M.T k with
  | none=>none
  | some nd=>bif decide (nd.kind=1) then some (.inl 4) else match J6 nd.data c.off c.data with
   | .inr e=>some (.inl e)
   | .inl d=>bif Nat.ble d.length 40000 then some (.inr (⟨0,(c.data.length:Int),0,0,[],[]⟩,{ M with nodes:=M.nodes.set k { nd with data:=d } })) else none) else none
theorem q8o {s:St} (H:Ok TE Tryz.prog pr3) {x:Nat} {M:Md} {L:List (Nat × AO)} (hW:World s x M L) {c:Cl} (hop:c.op=8) {r:Nat ⊕ (An × Md)} (h:do8 M c=some r) {kr kp:AV→St→Bool} (hk:Kt s x M L kr kp r) :
  (sem Tryz.prog).call 61 [.ptr x 0,.agg (clL c)] s kr kp=true:=by
 have hW':=hW
 obtain⟨hB,ι,μ,R,hL⟩:=hW'
 unfold do8 at h
 cases hw:Nat.ble c.data.length 10000000000000000000 with
 | false=>rw[hw] at h;cases h
 | true =>
 rw[hw,cond_true] at h
 have hw:=Nat.le_of_ble_eq_true hw
 cases hf:Zq M.T M.root M.cwd c.path true with
 | none=>rw[hf] at h;cases h
 | some out =>
 rw[hf] at h
 cases out with
 | inr n =>
  have hf':Zq (tOf M ι μ) (ι M.root) (ι M.cwd) c.path true=some (.inr n):=Jp R.hom hf
  cases h
  exact qd9 H R.rep hB R.tr hop hf' (fun n h=>by cases h) R.da1 hw (fun n nd s' h=>by cases h) (fun n nd d s' h=>by cases h) (fun n nd d s' h=>by cases h) (fun n s' h e b=>by cases h;exact hk s' (hW.ext e b) e.1)
 | inl k =>
  have hf':Zq (tOf M ι μ) (ι M.root) (ι M.cwd) c.path true=some (.inl (ι k)):=Jp R.hom hf
  simp only at h
  cases hT:M.T k with
  | none=>rw[hT] at h;cases h
  | some nd =>
   rw[hT] at h
   simp only at h
   have hA:=R.at hT
   refine qd9 H R.rep hB R.tr hop hf' (fun n h=>by cases h;exact⟨_,hA⟩) R.da1 hw (fun n nd' s' h1 h2 h3 e b=>?_) (fun n nd' d s' h1 h2 h3 h4 e b=>?_) (fun n nd' d s' h1 h2 h3 h4 e b=>?_) (fun n s' h=>by cases h)
   all_goals (cases h1;rw[hA] at h2;cases h2)
   ·have h3:nd.kind=1:=h3
    rw[decide_eq_true h3] at h
    cases h
    exact hk s' (hW.ext e b) e.1
   ·have h3:nd.kind≠1:=h3
    have h4:J6 nd.data c.off c.data=_:=h4
    rw[decide_eq_false h3,cond_false,h4] at h
    simp only at h
    cases hd:Nat.ble d.length 40000 with
    | false=>rw[hd] at h;cases h
    | true =>
     rw[hd] at h
     cases h
     exact hk s' nilS (World.turn R hB hL b hT rfl rfl (Nat.le_of_ble_eq_true hd) e) e.1 Kl
   ·have h3:nd.kind≠1:=h3
    have h4:J6 nd.data c.off c.data=_:=h4
    rw[decide_eq_false h3,cond_false,h4] at h
    cases h
    exact hk s' (hW.ext e b) e.1
end Go.AX
namespace Go.AX
open Go.Proofs Go.RowKit
set_option maxRecDepth 1000000
set_option maxHeartbeats 4000000
set_option linter.unusedSimpArgs false
theorem q5q {α:Type}:∀ {l:List α},l.length=8→∃ a b c d e f g h,l=[a,b,c,d,e,f,g,h]
 | [a,b,c,d,e,f,g,h],_=>⟨a,b,c,d,e,f,g,h,rfl⟩
theorem RepM.tr8 {s:St} {x:Nat} {M:Md} {ι μ:Nat→Nat} (R:RepM s x M ι μ):∃ f0 f1 f2 f3 f4 f5 f6 f7,∀ m:Int,trA (ι M.root) (ι M.cwd) (qnu ι M.fds) m=.cells [.ptr (ι M.root) 0,.ptr (ι M.cwd) 0,f0,f1,f2,f3,f4,f5,f6,f7,.raw (.int .i64 m)] 120 0:=by
 obtain⟨a,b,c,d,e,f,g,h,hl⟩:=q5q R.f8
 rw[hl]
 exact⟨upA (a.map ι),upA (b.map ι),upA (c.map ι),upA (d.map ι),upA (e.map ι),upA (f.map ι),upA (g.map ι),upA (h.map ι),fun m=>rfl⟩
theorem qcs {p:List Nat} {n:Nat}:∀ {l:List (List Nat × Nat)} {q:List Nat × Nat},q∈setK p n l→q.2=n∨q∈l
 | [],q,h=>by
  simp only[setK,List.mem_singleton] at h
  exact Or.inl (by rw[h])
 | (r,j)::l,q,h=>by
  simp only[setK] at h
  cases he:eqB p r with
  | true =>
   rw[he] at h
   simp only[cond_true,List.mem_cons] at h
   rcases h with rfl|h
   ·exact Or.inl rfl
   ·exact Or.inr (List.mem_cons_of_mem _ h)
  | false =>
   rw[he] at h
   simp only[cond_false,List.mem_cons] at h
   rcases h with rfl|h
   ·exact Or.inr (List.mem_cons_self ..)
   ·exact (qcs h).imp_right (List.mem_cons_of_mem _)
theorem Jf {i j:Nat→Nat} {l:List (List Nat × Nat)} (h:∀ q∈l,i q.2=j q.2):zk i l=zk j l:=by
 unfold zk
 exact List.map_congr_left fun q hq=>by rw[h q hq]
theorem qqn {i j:Nat→Nat} {mp:Nat} {nd:Nd} (h:∀ q∈nd.kids,i q.2=j q.2) (h2:∀ u,nd.up=some u→i u=j u):nd.to i mp=nd.to j mp:=by
 unfold Nd.to
 rw[Jf h]
 cases hu:nd.up with
 | none=>rfl
 | some u=>simp only[Option.map_some,h2 u hu]
theorem World.fds {s s':St} {x:Nat} {M:Md} {ι μ:Nat→Nat} (R:RepM s x M ι μ) {L:List (Nat × AO)} (hB:qc s) (hL:∀ q∈L,s.h.get q.1=some q.2∧¬ Own x M ι μ q.1) (hB':qc s') {cwd:Nat} {l:List (Option Nat)} (hc:cwd < M.nodes.length) (h8:l.length=8) (hl:∀ o∈l,∀ k,o=some k→k < M.nodes.length)
  (ht:qit s s' x (trA (ι M.root) (ι cwd) (qnu ι l) M.many)):World s' x { M with cwd:=cwd,fds:=l } L:=by
 refine World.new R hB hL hB' rfl (fun j jd h=>?_) rfl hc h8 hl R.mn ht.2.1 (fun i hi ho=>ht.2.2 i hi (fun e=>ho (Or.inl e)))
 have h:M.T j=some jd:=h
 have old:=R.nd j jd h
 have hjl:=Y1 h
 exact⟨⟨(ht.2.2 _ (R.li hB hjl) (R.xi hjl)).trans old.1,(ht.2.2 _ (R.lm hB hjl) (R.xm hjl)).trans old.2⟩,R.kd j jd h,fun u hu=>R.up j jd u h hu,R.da j jd h⟩
set_option maxHeartbeats 40000000
theorem World.alloc {s:St} {x:Nat} {M:Md} {L:List (Nat × AO)} (h:World s x M L) (o:AO):World (s.alloc o) x M ((s.nx,o)::L):=by
 obtain⟨hB,ι,μ,R,hL⟩:=h
 obtain⟨hB',ι',μ',R',hL'⟩:=World.same R (L:=L) hB hL (qR hB o) (Ext.alloc s o)
 refine⟨qR hB o,ι,μ,?_,?_⟩
 ·have he:=Ext.alloc s o
  exact⟨fun k nd hk=>⟨(he.2 _ (R.li hB (Y1 hk))).trans (R.nd k nd hk).1,(he.2 _ (R.lm hB (Y1 hk))).trans (R.nd k nd hk).2⟩,(he.2 _ (R.lx hB)).trans R.tr,R.ij,R.mj,R.kd,R.up,R.rt,R.cw,R.f8,R.fd,R.mn,R.da⟩
 ·intro q hq
  simp only[List.mem_cons] at hq
  rcases hq with rfl|hq
  ·refine⟨qu,?_⟩
   rintro (e|⟨k,hk,e|e⟩)
   ·have:=R.lx hB
    simp only at e
    omega
   ·have:=R.li hB hk
    simp only at e
    omega
   ·have:=R.lm hB hk
    simp only at e
    omega
  ·obtain⟨h1,h2⟩:=hL q hq
   exact⟨((Ext.alloc s o).2 _ (hB _ _ h1)).trans h1,h2⟩
theorem World.get {s:St} {x:Nat} {M:Md} {L:List (Nat × AO)} (h:World s x M L) {q:Nat × AO} (hq:q∈L):s.h.get q.1=some q.2:=by
 obtain⟨hB,ι,μ,R,hL⟩:=h
 exact (hL q hq).1
theorem World.get0 {s:St} {x:Nat} {M:Md} {L:List (Nat × AO)} {i:Nat} {o:AO} (h:World s x M ((i,o)::L)):s.h.get i=some o:=h.get (q:=(i,o)) (List.mem_cons_self ..)
theorem World.get1 {s:St} {x:Nat} {M:Md} {L:List (Nat × AO)} {q:Nat × AO} {i:Nat} {o:AO} (h:World s x M (q::(i,o)::L)):s.h.get i=some o:=h.get (q:=(i,o)) (List.mem_cons_of_mem _ (List.mem_cons_self ..))
theorem World.below {s:St} {x:Nat} {M:Md} {L:List (Nat × AO)} (h:World s x M L):qc s:=h.1
theorem World.lt {s:St} {x:Nat} {M:Md} {L:List (Nat × AO)} (h:World s x M L) {q:Nat × AO} (hq:q∈L):q.1 < s.nx:=h.1 _ _ (h.get hq)
theorem World.sub {s:St} {x:Nat} {M:Md} {L L':List (Nat × AO)} (h:World s x M L) (hs:∀ q∈L',q∈L):World s x M L':=by
 obtain⟨hB,ι,μ,R,hL⟩:=h
 exact⟨hB,ι,μ,R,fun q hq=>hL q (hs q hq)⟩
theorem World.set {s:St} {x:Nat} {M:Md} {L:List (Nat × AO)} {a:Nat} {o:AO} (h:World s x M ((a,o)::L)) (hne:∀ q∈L,q.1≠a) (o':AO):World { s with h:=s.h.set a o' } x M ((a,o')::L):=by
 obtain⟨hB,ι,μ,R,hL⟩:=h
 obtain⟨ha,hno⟩:=hL (a,o) (List.mem_cons_self ..)
 have hno:¬ Own x M ι μ a:=hno
 have f:∀ i,i≠a→({ s with h:=s.h.set a o' }:St).h.get i=s.h.get i:=fun i hi=>qe hi
 have hx:x≠a:=fun e=>hno (Or.inl e.symm)
 have hi:∀ k,k < M.nodes.length→ι k≠a:=fun k hk e=>hno (Or.inr ⟨k,hk,Or.inl e.symm⟩)
 have hm:∀ k,k < M.nodes.length→μ k≠a:=fun k hk e=>hno (Or.inr ⟨k,hk,Or.inr e.symm⟩)
 refine⟨qn hB (hB _ _ ha) _,ι,μ,?_,?_⟩
 ·exact⟨fun k nd hk=>⟨(f _ (hi _ (Y1 hk))).trans (R.nd k nd hk).1,(f _ (hm _ (Y1 hk))).trans (R.nd k nd hk).2⟩,(f _ hx).trans R.tr,R.ij,R.mj,R.kd,R.up,R.rt,R.cw,R.f8,R.fd,R.mn,R.da⟩
 ·intro q hq
  simp only[List.mem_cons] at hq
  rcases hq with rfl|hq
  ·exact⟨hs_same,hno⟩
  ·obtain⟨h1,h2⟩:=hL q (List.mem_cons_of_mem _ hq)
   exact⟨(f _ (hne q hq)).trans h1,h2⟩
theorem SlV.set {s:St} {V:AV} {names:List (List Nat)} (h:SlV s V names) {a:Nat} {cs:List AV} {t z:Nat} (ha:s.h.get a=some (.cells cs t z)) (ht:t≠9) (o:AO):SlV { s with h:=s.h.set a o } V names:=by
 rcases h with h|h|⟨id,off,ci,cap,ex,cs',fz,h1,h2,h3⟩
 ·exact Or.inl h
 ·exact Or.inr (Or.inl h)
 ·refine Or.inr (Or.inr ⟨id,off,ci,cap,ex,cs',fz,h1,(qe ?_).trans h2,h3⟩)
  intro e
  rw[e,ha] at h2
  simp only[Option.some.injEq,AO.cells.injEq] at h2
  exact ht h2.2.1
def qlg (M:Md):Nat ⊕ (An × Md)→An × Md
 | .inl n=>(⟨(n:Int),0,0,0,[],[]⟩,M)
 | .inr q=>q
def Dt (s:St) (x:Nat) (L:List (Nat × AO)) (kr:AV→St→Bool) (q:An × Md):Prop :=
 ∀ s' V,World s' x q.2 L→s.nx≤s'.nx→SlV s' V q.1.names→kr (.agg (anL q.1.status q.1.num q.1.kind q.1.mode q.1.data V)) s'=true
theorem qz7 {s:St} {i j:Nat} {d:Option (AV × List Nat)}:eqS TE s .eql 72 (.ptr i j) (.raw (.pointer none)) d=some (.raw (.bool false),[]):=by kernel_rfl
theorem qpd:(38:Nat)≠9:=by decide
theorem qmm {s:St} (H:Ok TE Tryz.prog pr3) {x:Nat} {M:Md} {L:List (Nat × AO)} (hW:World s x M L) {c:Cl} (h1:1≤c.op) (h2:c.op≤4) {r:Nat ⊕ (An × Md)}
  (hsub:∀ s L kr kp,World s x M L→Kt s x M L kr kp r→(sem Tryz.prog).call 59 [.ptr x 0,.agg (clL c)] s kr kp=true) {kr kp:AV→St→Bool} (hk:Dt s x L kr (qlg M r)) :
  (sem Tryz.prog).call 31 [.ptr x 0,.agg (clL c)] s kr kp=true:=by
 refine qp H 77 q3p rfl rfl ?_
 have m1:(s.nx=s.nx+1)=False:=by simp
 have m2:(s.nx+1=s.nx)=False:=by simp
 have hL1:∀ q∈(s.nx,AO.cells (clL c) 41 0)::L,q.1≠s.nx+1:=by
  intro q hq
  simp only[List.mem_cons] at hq
  rcases hq with rfl|hq
  ·simp
  ·have:=hW.lt hq
   omega
 have hW2:=(hW.alloc (.cells (clL c) 41 0)).alloc (.cells (anL 0 0 0 0 [] nilS) 38 0)
 have o1:decide (c.op < 1)=false:=by rw[decide_eq_false_iff_not];omega
 have o2:decide (c.op > 18)=false:=by rw[decide_eq_false_iff_not];omega
 have o3:decide (c.op≤4)=true:=by rw[decide_eq_true_eq];omega
 unfold clL at hW2 ⊢
 repeat (first|with_reducible (refine q9 H ?_;constructor)|simp only[rB,rP,rQ,q8,qa,q7,qb,reduceIte,reduceCtorEq,Nat.reduceAdd,Nat.reduceLT,Nat.reduceEqDiff,UInt8.reduceToNat,pe3,pf3,ZG,qf,qnp,qK,qD,m1,m2,zJ,zD,YL,qr,o1,o2,o3,WD,qz7,qpg,qfa,qnz,qey])
 refine hsub _ _ _ _ hW2 ?_
 cases r with
 | inl n =>
  intro s1 w1 l1
  have c1:s1.h.get (s.nx+1)=some (.cells (anL 0 0 0 0 [] nilS) 38 0):=w1.get0
  repeat (first|with_reducible (refine q9 H ?_;constructor)|simp only[rB,rP,rQ,q8,qa,q7,qb,reduceIte,reduceCtorEq,Nat.reduceAdd,Nat.reduceLT,Nat.reduceEqDiff,UInt8.reduceToNat,pe3,pf3]|(with_reducible refine qtl H c1 ?_))
  repeat (first|with_reducible (refine q9 H ?_;constructor)|simp only[rB,rP,rQ,q8,qa,q7,qb,reduceIte,reduceCtorEq,Nat.reduceAdd,Nat.reduceLT,Nat.reduceEqDiff,UInt8.reduceToNat,pe3,pf3,c1,VK,YJ,Tryz.results31])
  exact hk _ nilS ((w1.set hL1 _).sub (fun q hq=>List.mem_cons_of_mem _ (List.mem_cons_of_mem _ hq))) (Nat.le_trans (by show s.nx≤s.nx+1+1;omega) l1) Kl
 | inr q =>
  obtain⟨an,M'⟩:=q
  intro s1 V w1 l1 hV
  have c1:s1.h.get (s.nx+1)=some (.cells (anL 0 0 0 0 [] nilS) 38 0):=w1.get0
  repeat (first|with_reducible (refine q9 H ?_;constructor)|simp only[rB,rP,rQ,q8,qa,q7,qb,reduceIte,reduceCtorEq,Nat.reduceAdd,Nat.reduceLT,Nat.reduceEqDiff,UInt8.reduceToNat,pe3,pf3,c1,KZ hV.cells1.2,J7]|(with_reducible refine qtx H ?_))
  repeat (first|with_reducible (refine q9 H ?_;constructor)|simp only[rB,rP,rQ,q8,qa,q7,qb,reduceIte,reduceCtorEq,Nat.reduceAdd,Nat.reduceLT,Nat.reduceEqDiff,UInt8.reduceToNat,pe3,pf3,c1,VK,YJ,Tryz.results31])
  exact hk _ V ((w1.set hL1 _).sub (fun q hq=>List.mem_cons_of_mem _ (List.mem_cons_of_mem _ hq))) (Nat.le_trans (by show s.nx≤s.nx+1+1;omega) l1) (hV.set c1 qpd _)
theorem qmp {s:St} (H:Ok TE Tryz.prog pr3) {x:Nat} {M:Md} {L:List (Nat × AO)} (hW:World s x M L) {c:Cl} (h1:8≤c.op) (h2:c.op≤10) {r:Nat ⊕ (An × Md)}
  (hsub:∀ s L kr kp,World s x M L→Kt s x M L kr kp r→(sem Tryz.prog).call 61 [.ptr x 0,.agg (clL c)] s kr kp=true) {kr kp:AV→St→Bool} (hk:Dt s x L kr (qlg M r)) :
  (sem Tryz.prog).call 31 [.ptr x 0,.agg (clL c)] s kr kp=true:=by
 refine qp H 77 q3p rfl rfl ?_
 have m1:(s.nx=s.nx+1)=False:=by simp
 have m2:(s.nx+1=s.nx)=False:=by simp
 have hL1:∀ q∈(s.nx,AO.cells (clL c) 41 0)::L,q.1≠s.nx+1:=by
  intro q hq
  simp only[List.mem_cons] at hq
  rcases hq with rfl|hq
  ·simp
  ·have:=hW.lt hq
   omega
 have hW2:=(hW.alloc (.cells (clL c) 41 0)).alloc (.cells (anL 0 0 0 0 [] nilS) 38 0)
 have o1:decide (c.op < 1)=false:=by rw[decide_eq_false_iff_not];omega
 have o2:decide (c.op > 18)=false:=by rw[decide_eq_false_iff_not];omega
 have o3:decide (c.op≤4)=false:=by rw[decide_eq_false_iff_not];omega
 have o4:decide (c.op≤7)=false:=by rw[decide_eq_false_iff_not];omega
 have o5:decide (c.op≤10)=true:=by rw[decide_eq_true_eq];omega
 unfold clL at hW2 ⊢
 repeat (first|with_reducible (refine q9 H ?_;constructor)|simp only[rB,rP,rQ,q8,qa,q7,qb,reduceIte,reduceCtorEq,Nat.reduceAdd,Nat.reduceLT,Nat.reduceEqDiff,UInt8.reduceToNat,pe3,pf3,ZG,qf,qnp,qK,qD,m1,m2,zJ,zD,YL,qr,o1,o2,o3,o4,o5,WD,qz7,qpg,qfa,qnz,qey])
 refine hsub _ _ _ _ hW2 ?_
 cases r with
 | inl n =>
  intro s1 w1 l1
  have c1:s1.h.get (s.nx+1)=some (.cells (anL 0 0 0 0 [] nilS) 38 0):=w1.get0
  repeat (first|with_reducible (refine q9 H ?_;constructor)|simp only[rB,rP,rQ,q8,qa,q7,qb,reduceIte,reduceCtorEq,Nat.reduceAdd,Nat.reduceLT,Nat.reduceEqDiff,UInt8.reduceToNat,pe3,pf3]|(with_reducible refine qtl H c1 ?_))
  repeat (first|with_reducible (refine q9 H ?_;constructor)|simp only[rB,rP,rQ,q8,qa,q7,qb,reduceIte,reduceCtorEq,Nat.reduceAdd,Nat.reduceLT,Nat.reduceEqDiff,UInt8.reduceToNat,pe3,pf3,c1,VK,YJ,Tryz.results31])
  exact hk _ nilS ((w1.set hL1 _).sub (fun q hq=>List.mem_cons_of_mem _ (List.mem_cons_of_mem _ hq))) (Nat.le_trans (by show s.nx≤s.nx+1+1;omega) l1) Kl
 | inr q =>
  obtain⟨an,M'⟩:=q
  intro s1 V w1 l1 hV
  have c1:s1.h.get (s.nx+1)=some (.cells (anL 0 0 0 0 [] nilS) 38 0):=w1.get0
  repeat (first|with_reducible (refine q9 H ?_;constructor)|simp only[rB,rP,rQ,q8,qa,q7,qb,reduceIte,reduceCtorEq,Nat.reduceAdd,Nat.reduceLT,Nat.reduceEqDiff,UInt8.reduceToNat,pe3,pf3,c1,KZ hV.cells1.2,J7]|(with_reducible refine qtx H ?_))
  repeat (first|with_reducible (refine q9 H ?_;constructor)|simp only[rB,rP,rQ,q8,qa,q7,qb,reduceIte,reduceCtorEq,Nat.reduceAdd,Nat.reduceLT,Nat.reduceEqDiff,UInt8.reduceToNat,pe3,pf3,c1,VK,YJ,Tryz.results31])
  exact hk _ V ((w1.set hL1 _).sub (fun q hq=>List.mem_cons_of_mem _ (List.mem_cons_of_mem _ hq))) (Nat.le_trans (by show s.nx≤s.nx+1+1;omega) l1) (hV.set c1 qpd _)
end Go.AX
