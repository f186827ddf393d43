import Derived.Test.YtkcbaokljkalcaaGreatAp3H1
import Derived.Test.YtkcbaokljkalcaaGreatAp3H6
import Derived.Test.YtkcbaokljkalcaaGreatAp3H8
import Derived.Test.YtkcbaokljkalcaaGreatAp3H0
set_option linter.unusedVariables false
set_option linter.unusedSimpArgs false
set_option linter.defProp false
namespace Go.AX
open Go.Proofs Go.RowKit
set_option maxRecDepth 1000000
set_option linter.unusedSimpArgs false
set_option linter.unusedVariables false
theorem RepM.like {s s':St} {x:Nat} {M:Md} {ι μ:Nat→Nat} (R:RepM s x M ι μ) (h:∀ i o,Own x M ι μ i→s.h.get i=some o→s'.h.get i=some o):RepM s' x M ι μ :=
 ⟨fun k nd hk=>⟨h _ _ (Or.inr ⟨k,QP hk,Or.inl rfl⟩) (R.nd k nd hk).1,h _ _ (Or.inr ⟨k,QP hk,Or.inr rfl⟩) (R.nd k nd hk).2⟩,h _ _ (Or.inl rfl) R.tr,R.ij,R.mj,R.kd,R.up,R.rt,R.cw,R.f8,R.fd,R.mn,R.da⟩
theorem RepM.own {s:St} {x:Nat} {M:Md} {ι μ:Nat→Nat} (R:RepM s x M ι μ) {i:Nat} (h:Own x M ι μ i):∃ o,s.h.get i=some o:=by
 rcases h with rfl|⟨k,hk,rfl|rfl⟩
 ·exact⟨_,R.tr⟩
 ·obtain⟨nd,hn⟩:=qa9 hk
  exact⟨_,(R.nd k nd hn).1⟩
 ·obtain⟨nd,hn⟩:=qa9 hk
  exact⟨_,(R.nd k nd hn).2⟩
def qr7 (x:Nat) (M:Md) (ι μ:Nat→Nat):List Nat:=x::((List.range M.nodes.length).map ι++(List.range M.nodes.length).map μ)
theorem own_iff {x:Nat} {M:Md} {ι μ:Nat→Nat} {i:Nat}:i∈qr7 x M ι μ↔Own x M ι μ i:=by
 unfold qr7 Own
 simp only[List.mem_cons,List.mem_append,List.mem_map,List.mem_range]
 constructor
 ·rintro (h|⟨k,hk,rfl⟩|⟨k,hk,rfl⟩)
  ·exact Or.inl h
  ·exact Or.inr ⟨k,hk,Or.inl rfl⟩
  ·exact Or.inr ⟨k,hk,Or.inr rfl⟩
 ·rintro (h|⟨k,hk,rfl|rfl⟩)
  ·exact Or.inl h
  ·exact Or.inr (Or.inl ⟨k,hk,rfl⟩)
  ·exact Or.inr (Or.inr ⟨k,hk,rfl⟩)
def qqq (s:St) (l:List Nat):List (Nat × AO):=l.filterMap fun i=>(s.h.get i).map fun o=>(i,o)
theorem got_mem {s:St} {l:List Nat} {q:Nat × AO}:q∈qqq s l↔q.1∈l∧s.h.get q.1=some q.2:=by
 unfold qqq
 rw[List.mem_filterMap]
 constructor
 ·rintro⟨i,hi,h⟩
  cases hg:s.h.get i with
  | none=>rw[hg] at h;cases h
  | some o=>rw[hg] at h;cases h;exact⟨hi,hg⟩
 ·rintro⟨h1,h2⟩
  exact⟨q.1,h1,by rw[h2];rfl⟩
def Two (s:St) (x:Nat) (M:Md) (x':Nat) (M':Md) (L:List (Nat × AO)):Prop:=∃ ι μ,RepM s x' M' ι μ∧World s x M (qqq s (qr7 x' M' ι μ)++L)∧∀ q∈L,¬ Own x' M' ι μ q.1
theorem Two.swap {s:St} {x x':Nat} {M M':Md} {L:List (Nat × AO)} (h:Two s x M x' M' L):Two s x' M' x M L:=by
 obtain⟨ι',μ',R',⟨hB,ι,μ,R,hL⟩,hn⟩:=h
 have dis:∀ i,Own x' M' ι' μ' i→¬ Own x M ι μ i:=fun i hi=>by
  obtain⟨o,ho⟩:=R'.own hi
  exact (hL (i,o) (List.mem_append_left _ (got_mem.2 ⟨own_iff.2 hi,ho⟩))).2
 refine⟨ι,μ,R,⟨hB,ι',μ',R',fun q hq=>?_⟩,fun q hq=>(hL q (List.mem_append_right _ hq)).2⟩
 rcases List.mem_append.1 hq with hq|hq
 ·obtain⟨h1,h2⟩:=got_mem.1 hq
  exact⟨h2,fun e=>dis _ e (own_iff.1 h1)⟩
 ·exact⟨(hL q (List.mem_append_right _ hq)).1,hn q hq⟩
theorem Two.step {s:St} {x x':Nat} {M M':Md} {L:List (Nat × AO)} (h:Two s x M x' M' L):∃ K,World s x M (K++L)∧∀ s2 M2 L2,World s2 x M2 (K++L2)→(∀ q∈L2,q∈L∨s.nx≤q.1)→Two s2 x M2 x' M' L2:=by
 obtain⟨ι',μ',R',hW,hn⟩:=h
 refine⟨_,hW,fun s2 M2 L2 hW2 hL2=>?_⟩
 have hB:=hW.1
 have R2:RepM s2 x' M' ι' μ':=R'.like (fun i o hi ho=>World.get hW2 (q:=(i,o)) (List.mem_append_left _ (got_mem.2 ⟨own_iff.2 hi,ho⟩)))
 refine⟨ι',μ',R2,hW2.sub (fun q hq=>?_),fun q hq=>?_⟩
 ·rcases List.mem_append.1 hq with hq|hq
  ·obtain⟨h1,h2⟩:=got_mem.1 hq
   obtain⟨o,ho⟩:=R'.own (own_iff.1 h1)
   have h3:=World.get hW2 (q:=(q.1,o)) (List.mem_append_left _ (got_mem.2 ⟨h1,ho⟩))
   simp only at h3
   rw[h2] at h3
   have h3:q.2=o:=by simpa using h3
   refine List.mem_append_left _ (got_mem.2 ⟨h1,?_⟩)
   rw[h3]
   exact ho
  ·exact List.mem_append_right _ hq
 ·rcases hL2 q hq with h|h
  ·exact hn q h
  ·intro ho
   obtain⟨o,hg⟩:=R'.own ho
   have:=hB _ _ hg
   omega
theorem Two.below {s:St} {x x':Nat} {M M':Md} {L:List (Nat × AO)} (h:Two s x M x' M' L):qb s:=by
 obtain⟨_,_,_,hW,_⟩:=h
 exact hW.1
theorem Two.get {s:St} {x x':Nat} {M M':Md} {L:List (Nat × AO)} (h:Two s x M x' M' L) {q:Nat × AO} (hq:q∈L):s.h.get q.1=some q.2:=by
 obtain⟨_,_,_,hW,_⟩:=h
 exact World.get hW (List.mem_append_right _ hq)
theorem Two.lt {s:St} {x x':Nat} {M M':Md} {L:List (Nat × AO)} (h:Two s x M x' M' L) {q:Nat × AO} (hq:q∈L):q.1 < s.nx:=h.below _ _ (h.get hq)
def Tri (s:St) (x1:Nat) (M1:Md) (x2:Nat) (M2:Md) (x3:Nat) (M3:Md) (L:List (Nat × AO)):Prop:=∃ ι μ,RepM s x3 M3 ι μ∧Two s x1 M1 x2 M2 (qqq s (qr7 x3 M3 ι μ)++L)∧∀ q∈L,¬ Own x3 M3 ι μ q.1
theorem Tri.swap12 {s:St} {x1 x2 x3:Nat} {M1 M2 M3:Md} {L:List (Nat × AO)} (h:Tri s x1 M1 x2 M2 x3 M3 L):Tri s x2 M2 x1 M1 x3 M3 L:=by
 obtain⟨ι,μ,R,T,hn⟩:=h
 exact⟨ι,μ,R,T.swap,hn⟩
theorem Tri.below {s:St} {x1 x2 x3:Nat} {M1 M2 M3:Md} {L:List (Nat × AO)} (h:Tri s x1 M1 x2 M2 x3 M3 L):qb s:=by
 obtain⟨_,_,_,T,_⟩:=h
 exact T.below
theorem Tri.get {s:St} {x1 x2 x3:Nat} {M1 M2 M3:Md} {L:List (Nat × AO)} (h:Tri s x1 M1 x2 M2 x3 M3 L) {q:Nat × AO} (hq:q∈L):s.h.get q.1=some q.2:=by
 obtain⟨_,_,_,T,_⟩:=h
 exact T.get (List.mem_append_right _ hq)
theorem Tri.lt {s:St} {x1 x2 x3:Nat} {M1 M2 M3:Md} {L:List (Nat × AO)} (h:Tri s x1 M1 x2 M2 x3 M3 L) {q:Nat × AO} (hq:q∈L):q.1 < s.nx:=h.below _ _ (h.get hq)
theorem Tri.step {s:St} {x1 x2 x3:Nat} {M1 M2 M3:Md} {L:List (Nat × AO)} (h:Tri s x1 M1 x2 M2 x3 M3 L):∃ K,World s x1 M1 (K++L)∧∀ s' M' L',World s' x1 M' (K++L')→(∀ q∈L',q∈L∨s.nx≤q.1)→Tri s' x1 M' x2 M2 x3 M3 L':=by
 obtain⟨ι,μ,R,T,hn⟩:=h
 have hB:=T.below
 obtain⟨K,hW,hS⟩:=T.step
 refine⟨K++qqq s (qr7 x3 M3 ι μ),by rw[List.append_assoc];exact hW,fun s' M' L' hW' hL'=>?_⟩
 rw[List.append_assoc] at hW'
 have R':RepM s' x3 M3 ι μ:=R.like (fun i o hi ho=>World.get hW' (q:=(i,o)) (List.mem_append_right _ (List.mem_append_left _ (got_mem.2 ⟨own_iff.2 hi,ho⟩))))
 have same:∀ q,q∈qqq s' (qr7 x3 M3 ι μ)→q∈qqq s (qr7 x3 M3 ι μ):=fun q hq=>by
  obtain⟨h1,h2⟩:=got_mem.1 hq
  obtain⟨o,ho⟩:=R.own (own_iff.1 h1)
  have h3:=World.get hW' (q:=(q.1,o)) (List.mem_append_right _ (List.mem_append_left _ (got_mem.2 ⟨h1,ho⟩)))
  simp only at h3
  rw[h2] at h3
  have h3:q.2=o:=by simpa using h3
  exact got_mem.2 ⟨h1,by rw[h3];exact ho⟩
 refine⟨ι,μ,R',hS s' M' _ (hW'.sub (fun q hq=>?_)) (fun q hq=>?_),fun q hq=>?_⟩
 ·rcases List.mem_append.1 hq with hq|hq
  ·exact List.mem_append_left _ hq
  ·rcases List.mem_append.1 hq with hq|hq
   ·exact List.mem_append_right _ (List.mem_append_left _ (same q hq))
   ·exact List.mem_append_right _ (List.mem_append_right _ hq)
 ·rcases List.mem_append.1 hq with hq|hq
  ·exact Or.inl (List.mem_append_left _ (same q hq))
  ·rcases hL' q hq with h|h
   ·exact Or.inl (List.mem_append_right _ h)
   ·exact Or.inr h
 ·rcases hL' q hq with h|h
  ·exact hn q h
  ·intro ho
   obtain⟨o,hg⟩:=R.own ho
   have:=hB _ _ hg
   omega
theorem Tri.turn {s:St} {x1 x2 x3:Nat} {M1 M2 M3:Md} {L:List (Nat × AO)} (h:Tri s x1 M1 x2 M2 x3 M3 L):Tri s x3 M3 x2 M2 x1 M1 L:=by
 obtain⟨ι3,μ3,R3,⟨ι2,μ2,R2,⟨hB,ι1,μ1,R1,hL⟩,n2⟩,n3⟩:=h
 have d12:∀ i,Own x2 M2 ι2 μ2 i→¬ Own x1 M1 ι1 μ1 i:=fun i hi=>by
  obtain⟨o,ho⟩:=R2.own hi
  exact (hL (i,o) (List.mem_append_left _ (got_mem.2 ⟨own_iff.2 hi,ho⟩))).2
 have d13:∀ i,Own x3 M3 ι3 μ3 i→¬ Own x1 M1 ι1 μ1 i:=fun i hi=>by
  obtain⟨o,ho⟩:=R3.own hi
  exact (hL (i,o) (List.mem_append_right _ (List.mem_append_left _ (got_mem.2 ⟨own_iff.2 hi,ho⟩)))).2
 have d23:∀ i,Own x3 M3 ι3 μ3 i→¬ Own x2 M2 ι2 μ2 i:=fun i hi=>by
  obtain⟨o,ho⟩:=R3.own hi
  exact n2 (i,o) (List.mem_append_left _ (got_mem.2 ⟨own_iff.2 hi,ho⟩))
 refine⟨ι1,μ1,R1,⟨ι2,μ2,R2,⟨hB,ι3,μ3,R3,fun q hq=>?_⟩,fun q hq=>?_⟩,fun q hq=>(hL q (List.mem_append_right _ (List.mem_append_right _ hq))).2⟩
 ·rcases List.mem_append.1 hq with hq|hq
  ·obtain⟨h1,h2⟩:=got_mem.1 hq
   exact⟨h2,fun e=>d23 _ e (own_iff.1 h1)⟩
  ·rcases List.mem_append.1 hq with hq|hq
   ·obtain⟨h1,h2⟩:=got_mem.1 hq
    exact⟨h2,fun e=>d13 _ e (own_iff.1 h1)⟩
   ·exact⟨(hL q (List.mem_append_right _ (List.mem_append_right _ hq))).1,n3 q hq⟩
 ·rcases List.mem_append.1 hq with hq|hq
  ·obtain⟨h1,h2⟩:=got_mem.1 hq
   exact fun e=>d12 _ e (own_iff.1 h1)
  ·exact n2 q (List.mem_append_right _ hq)
theorem RepM.extT {s s':St} {x:Nat} {M:Md} {ι μ:Nat→Nat} (R:RepM s x M ι μ) (hB:qb s) (hE:Ext s s'):RepM s' x M ι μ:=R.like (fun i o _ ho=>(hE.2 i (hB _ _ ho)).trans ho)
theorem World.two {s s':St} {x x':Nat} {M M':Md} {L L':List (Nat × AO)} (h:World s x M L) (hE:Ext s s') (h':WorldF s.nx s' x' M' L') (hL':∀ q∈L',s.nx≤q.1):Two s' x M x' M' (L'++L):=by
 obtain⟨hB,ι,μ,R,hL⟩:=h
 obtain⟨hB',hx,ι',μ',R',hf,hq'⟩:=h'
 have low:∀ i,Own x M ι μ i→i < s.nx:=fun i hi=>by
  obtain⟨o,ho⟩:=R.own hi
  exact hB _ _ ho
 have high:∀ i,Own x' M' ι' μ' i→s.nx≤i:=fun i hi=>by
  rcases hi with rfl|⟨k,hk,rfl|rfl⟩
  ·exact hx
  ·exact (hf k hk).1
  ·exact (hf k hk).2
 refine⟨ι',μ',R',⟨hB',ι,μ,R.extT hB hE,fun q hq=>?_⟩,fun q hq=>?_⟩
 ·rcases List.mem_append.1 hq with hq|hq
  ·obtain⟨h1,h2⟩:=got_mem.1 hq
   have:=high _ (own_iff.1 h1)
   exact⟨h2,fun e=>by have:=low _ e;omega⟩
  ·rcases List.mem_append.1 hq with hq|hq
   ·have:=hL' q hq
    exact⟨(hq' q hq).1,fun e=>by have:=low _ e;omega⟩
   ·obtain⟨h1,h2⟩:=hL q hq
    exact⟨(hE.2 _ (hB _ _ h1)).trans h1,h2⟩
 ·rcases List.mem_append.1 hq with hq|hq
  ·exact (hq' q hq).2
  ·obtain⟨h1,_⟩:=hL q hq
   have:=hB _ _ h1
   exact fun e=>by have:=high _ e;omega
theorem Two.tri {s s':St} {x1 x2 x':Nat} {M1 M2 M':Md} {L L':List (Nat × AO)} (h:Two s x1 M1 x2 M2 L) (hE:Ext s s') (h':WorldF s.nx s' x' M' L') (hL':∀ q∈L',s.nx≤q.1):Tri s' x1 M1 x2 M2 x' M' (L'++L):=by
 obtain⟨ι2,μ2,R2,⟨hB,ι,μ,R,hL⟩,hn⟩:=h
 obtain⟨hB',hx,ι',μ',R',hf,hq'⟩:=h'
 have low:∀ i,Own x1 M1 ι μ i→i < s.nx:=fun i hi=>by
  obtain⟨o,ho⟩:=R.own hi
  exact hB _ _ ho
 have low2:∀ i,Own x2 M2 ι2 μ2 i→i < s.nx:=fun i hi=>by
  obtain⟨o,ho⟩:=R2.own hi
  exact hB _ _ ho
 have high:∀ i,Own x' M' ι' μ' i→s.nx≤i:=fun i hi=>by
  rcases hi with rfl|⟨k,hk,rfl|rfl⟩
  ·exact hx
  ·exact (hf k hk).1
  ·exact (hf k hk).2
 have R2':=R2.extT hB hE
 refine⟨ι',μ',R',⟨ι2,μ2,R2',⟨hB',ι,μ,R.extT hB hE,fun q hq=>?_⟩,fun q hq=>?_⟩,fun q hq=>?_⟩
 ·rcases List.mem_append.1 hq with hq|hq
  ·obtain⟨h1,h2⟩:=got_mem.1 hq
   obtain⟨o,ho⟩:=R2.own (own_iff.1 h1)
   exact⟨h2,(hL (q.1,o) (List.mem_append_left _ (got_mem.2 ⟨h1,ho⟩))).2⟩
  ·rcases List.mem_append.1 hq with hq|hq
   ·obtain⟨h1,h2⟩:=got_mem.1 hq
    have:=high _ (own_iff.1 h1)
    exact⟨h2,fun e=>by have:=low _ e;omega⟩
   ·rcases List.mem_append.1 hq with hq|hq
    ·have:=hL' q hq
     exact⟨(hq' q hq).1,fun e=>by have:=low _ e;omega⟩
    ·obtain⟨h1,h2⟩:=hL q (List.mem_append_right _ hq)
     exact⟨(hE.2 _ (hB _ _ h1)).trans h1,h2⟩
 ·rcases List.mem_append.1 hq with hq|hq
  ·obtain⟨h1,h2⟩:=got_mem.1 hq
   have:=high _ (own_iff.1 h1)
   exact fun e=>by have:=low2 _ e;omega
  ·rcases List.mem_append.1 hq with hq|hq
   ·have:=hL' q hq
    exact fun e=>by have:=low2 _ e;omega
   ·exact hn q hq
 ·rcases List.mem_append.1 hq with hq|hq
  ·exact (hq' q hq).2
  ·obtain⟨h1,_⟩:=hL q (List.mem_append_right _ hq)
   have:=hB _ _ h1
   exact fun e=>by have:=high _ e;omega
set_option maxHeartbeats 400000000
theorem World.putA {s:St} {x:Nat} {M:Md} {L:List (Nat × AO)} (h:World s x M L) (o o':AO):World { h:=(s.alloc o).h.set s.nx o',nx:=s.nx+1 } x M ((s.nx,o')::L) :=
 (World.alloc h o).set (fun q hq=>Nat.ne_of_lt (World.lt h hq)) o'
theorem WorldF.sub {b:Nat} {s:St} {x:Nat} {M:Md} {L L':List (Nat × AO)} (h:WorldF b s x M L) (hs:∀ q∈L',q∈L):WorldF b s x M L':=by
 obtain⟨hB,hx,ι,μ,R,hf,hL⟩:=h
 exact⟨hB,hx,ι,μ,R,hf,fun q hq=>hL q (hs q hq)⟩
theorem WorldF.alloc {b:Nat} {s:St} {x:Nat} {M:Md} {L:List (Nat × AO)} (h:WorldF b s x M L) (o:AO):WorldF b (s.alloc o) x M ((s.nx,o)::L):=by
 obtain⟨hB,hx,ι,μ,R,hf,hL⟩:=h
 refine⟨z8 hB o,hx,ι,μ,R.extT hB (Ext.alloc s o),hf,fun q hq=>?_⟩
 rcases List.mem_cons.1 hq with rfl|hq
 ·refine⟨qt,fun e=>?_⟩
  obtain⟨o',ho⟩:=R.own e
  have:=hB _ _ ho
  simp only at this
  omega
 ·obtain⟨h1,h2⟩:=hL q hq
  exact⟨((Ext.alloc s o).2 _ (hB _ _ h1)).trans h1,h2⟩
theorem WorldF.withU {b:Nat} {s:St} {x:Nat} {M:Md} {L:List (Nat × AO)} (h:WorldF b s x M L) {i:Nat} {o:AO} (hi:s.h.get i=some o) (ho:Xt o=true):WorldF b s x M ((i,o)::L):=by
 obtain⟨hB,hx,ι,μ,R,hf,hq⟩:=h
 refine⟨hB,hx,ι,μ,R,hf,fun q hm=>?_⟩
 rcases List.mem_cons.1 hm with rfl|hm
 ·refine⟨hi,?_⟩
  rintro (e|⟨k,hk,e|e⟩)
  ·have e:i=x:=e
   subst e
   rw[R.tr] at hi
   cases hi
   cases ho
  ·have e:i=ι k:=e
   subst e
   obtain⟨nd,hn⟩:=qa9 hk
   have:=(R.nd k nd hn).1
   rw[this] at hi
   cases hi
   cases ho
  ·have e:i=μ k:=e
   subst e
   obtain⟨nd,hn⟩:=qa9 hk
   have h2:s.h.get (μ k)=_:=(R.nd k nd hn).2
   rw[h2] at hi
   cases hi
   cases ho
 ·exact hq q hm
theorem Kx {s:St} (H:Ok TE Tryz.prog pr3) (hB:qb s) {V:AV} {im:List (List En)} (hI:LsV s V im) (hp:∀ es∈im,∀ e∈es,e.1.length≤1048575) {kr kp:AV→St→Bool}
  (hk:∀ s' u x M W out,Wr im=some out→ofT out=some M→Ext s s'→(∀ q∈(u,AO.cells [.ptr x 0,W] 74 0)::qq7 W out,s.nx≤q.1)→WorldF s.nx s' x M ((u,.cells [.ptr x 0,W] 74 0)::qq7 W out)→kr (.tuple [.ptr u 0,.raw (.int .i64 0)]) s'=true)
  (hf:∀ s',Wr im=none→Ext s s'→qb s'→kr (.tuple [.raw (.pointer none),.raw (.int .i64 1600)]) s'=true) :
  (sem Tryz.prog).call 21 [.agg [V]] s kr kp=true:=by
 refine qk H 24 q42 rfl rfl ?_
 have hB1:qb (s.alloc (.cells [V] 24 0)):=z8 hB _
 have hE1:Ext s (s.alloc (.cells [V] 24 0)):=Ext.alloc s _
 have c1:(s.alloc (.cells [V] 24 0)).h.get s.nx=some (.cells [V] 24 0):=qt
 repeat (first|with_reducible (refine q9 H ?_;constructor)|simp only[rB,rQ,q8,reduceIte,Nat.reduceLT,Nat.reduceEqDiff,pe3,pf3,qd])
 generalize s.alloc (.cells [V] 24 0)=s1 at *
 repeat (first|with_reducible (refine q9 H ?_;constructor)|simp only[rB,rQ,q8,reduceIte,Nat.reduceLT,Nat.reduceEqDiff,pe3,pf3,c1,qjy,VQ])
 refine qua H hB1 (hI.ext hB hE1) hp (fun s2 W out a1 a2 a3 a4 a5 a6=>?_) (fun s2 a1 a2 a3=>?_)
 ·have g1:((0:Int) != 0)=false:=rfl
  repeat (first|with_reducible (refine q9 H ?_;constructor)|simp only[rB,rQ,q8,reduceIte,Nat.reduceLT,Nat.reduceEqDiff,pe3,pf3,qB,g1])
  have hE2:=hE1.trans a2
  have hW0:ErB s.nx s2 W out:=by
   rcases a4 with h|⟨id,w1,w2,w3⟩
   ·exact Or.inl h
   ·exact Or.inr ⟨id,Nat.le_trans hE1.1 w1,w2,w3⟩
  refine q1t H a3 a4.esvM (fun e he=>by have:=a5 e he;omega) (by omega) (fun s3 x M o1 o2 o3=>?_) (fun s3 o1 o2 o3=>absurd o1 (qks a1))
  have hW3:ErB s.nx s3 W out:=hW0.ext a3 o2
  have bd:=qqh (x:=x) (T:=.ptr x 0) (Or.inl rfl) hW3
  repeat (first|with_reducible (refine q9 H ?_;constructor)|simp only[rB,rQ,q8,reduceIte,Nat.reduceLT,Nat.reduceEqDiff,pe3,pf3,bd,qd,Tryz.results21])
  have hE3:=hE2.trans o2
  have o3':WorldF s.nx s3 x M []:=⟨o3.1,by have:=hE2.1;have:=o3.2.1;omega,by
   obtain⟨_,_,ι,μ,R,hf',hL⟩:=o3
   exact⟨ι,μ,R,fun j hj=>⟨Nat.le_trans hE2.1 (hf' j hj).1,Nat.le_trans hE2.1 (hf' j hj).2⟩,hL⟩⟩
  have w1:=o3'.alloc (.cells [.ptr x 0,W] 74 0)
  have hE4:Ext s (s3.alloc (.cells [.ptr x 0,W] 74 0)):=hE3.trans (Ext.alloc _ _)
  have hW4:=hW3.ext o3.1 (Ext.alloc s3 (.cells [.ptr x 0,W] 74 0))
  have l3:s.nx≤s3.nx:=hE3.1
  rcases hW4 with⟨rfl,rfl⟩|⟨id,v1,rfl,v2⟩
  ·exact hk _ s3.nx x M nilS _ a1 o1 hE4 (fun q hq=>by
    simp only[nilS,qq7,List.mem_cons,List.not_mem_nil,or_false] at hq
    subst hq
    exact l3) w1
  ·refine hk _ s3.nx x M (.slice id 0 out.length 0 out.length false) out a1 o1 hE4 (fun q hq=>?_) ((WorldF.withU w1 v2 rfl).sub fun q hq=>?_)
   ·simp only[qq7,List.mem_cons,List.not_mem_nil,or_false] at hq
    rcases hq with rfl|rfl
    ·exact l3
    ·exact v1
   ·simp only[qq7,List.mem_cons,List.not_mem_nil,or_false] at hq ⊢
    rcases hq with rfl|rfl
    ·exact Or.inr rfl
    ·exact Or.inl rfl
 ·have g1:((1400:Int) != 0)=true:=rfl
  repeat (first|with_reducible (refine q9 H ?_;constructor)|simp only[rB,rQ,q8,reduceIte,Nat.reduceLT,Nat.reduceEqDiff,pe3,pf3,qB,g1,Tryz.results21])
  exact hf s2 a1 (hE1.trans a2) a3
theorem qh6 {s:St} (H:Ok TE Tryz.prog pr3) {x1 x2 x3 u:Nat} {W:AV} {M1 M2 M3:Md} {L:List (Nat × AO)} (hT:Tri s x1 M1 x2 M2 x3 M3 L) (hU:(u,AO.cells [.ptr x1 0,W] 74 0)∈L) {c:Cl} {q:An × Md} (h:doM M1 c=some q) {kr kp:AV→St→Bool}
  (hk:∀ s' V,Tri s' x1 q.2 x2 M2 x3 M3 L→s.nx≤s'.nx→SlV s' V q.1.names→kr (.agg (anL q.1.status q.1.num q.1.kind q.1.mode q.1.data V)) s'=true) :
  (sem Tryz.prog).call 10 [.ptr u 0,.agg (clL c)] s kr kp=true:=by
 obtain⟨K,hW,hS⟩:=hT.step
 exact qyl H hW (List.mem_append_right _ hU) h (fun s' V hW' hl hV=>hk s' V (hS s' _ L hW' (fun q hq=>Or.inl hq)) hl hV)
theorem qh3 {s:St} (H:Ok TE Tryz.prog pr3) {x1 x2 x3 u:Nat} {W:AV} {M1 M2 M3:Md} {L:List (Nat × AO)} (hT:Tri s x1 M1 x2 M2 x3 M3 L) (hU:(u,AO.cells [.ptr x1 0,W] 74 0)∈L) {es:List En} (h:J6 M1.T 20 M1.root []=some es) (hl:es.length≤20000) {kr kp:AV→St→Bool}
  (hk:∀ s' V,Tri s' x1 M1 x2 M2 x3 M3 (qq7 V es++L)→ErB 0 s' V es→kr V s'=true) :
  (sem Tryz.prog).call 27 [.ptr u 0] s kr kp=true:=by
 obtain⟨K,hW,hS⟩:=hT.step
 refine qwn H hW (List.mem_append_right _ hU) h hl (fun s' V hW' hV=>?_)
 rcases hV with⟨rfl,rfl⟩|⟨id,v1,rfl,v2⟩
 ·exact hk s' _ (hS s' _ _ hW' (fun q hq=>Or.inl hq)) (Or.inl ⟨rfl,rfl⟩)
 ·refine hk s' _ (hS s' _ _ ((World.withU hW' v2 rfl).sub (fun q hq=>?_)) (fun q hq=>?_)) (Or.inr ⟨id,Nat.zero_le _,rfl,v2⟩)
  ·simp only[qq7,List.mem_append,List.mem_cons,List.not_mem_nil,or_false] at hq ⊢
   rcases hq with hq|hq|hq
   ·exact Or.inr (Or.inl hq)
   ·exact Or.inl hq
   ·exact Or.inr (Or.inr hq)
  ·simp only[qq7,List.mem_append,List.mem_cons,List.not_mem_nil,or_false] at hq
   rcases hq with rfl|hq
   ·exact Or.inr v1
   ·exact Or.inl hq
theorem Tri.alloc {s:St} {x1 x2 x3:Nat} {M1 M2 M3:Md} {L:List (Nat × AO)} (h:Tri s x1 M1 x2 M2 x3 M3 L) (o o':AO):Tri { h:=(s.alloc o).h.set s.nx o',nx:=s.nx+1 } x1 M1 x2 M2 x3 M3 ((s.nx,o')::L):=by
 obtain⟨K,hW,hS⟩:=h.step
 refine hS _ _ _ ((World.putA hW o o').sub (fun q hq=>?_)) (fun q hq=>?_)
 ·simp only[List.mem_append,List.mem_cons] at hq ⊢
  rcases hq with hq|hq|hq
  ·exact Or.inr (Or.inl hq)
  ·exact Or.inl hq
  ·exact Or.inr (Or.inr hq)
 ·rcases List.mem_cons.1 hq with rfl|hq
  ·exact Or.inr (Nat.le_refl _)
  ·exact Or.inl hq
theorem Tri.ext {s s':St} {x1 x2 x3:Nat} {M1 M2 M3:Md} {L:List (Nat × AO)} (h:Tri s x1 M1 x2 M2 x3 M3 L) (hE:Ext s s') (hB':qb s'):Tri s' x1 M1 x2 M2 x3 M3 L:=by
 obtain⟨K,hW,hS⟩:=h.step
 exact hS _ _ _ (hW.ext hE hB') (fun q hq=>Or.inl hq)
theorem Tri.sub {s:St} {x1 x2 x3:Nat} {M1 M2 M3:Md} {L L':List (Nat × AO)} (h:Tri s x1 M1 x2 M2 x3 M3 L) (hs:∀ q∈L',q∈L):Tri s x1 M1 x2 M2 x3 M3 L':=by
 obtain⟨K,hW,hS⟩:=h.step
 refine hS _ _ _ (hW.sub (fun q hq=>?_)) (fun q hq=>Or.inl (hs q hq))
 rcases List.mem_append.1 hq with hq|hq
 ·exact List.mem_append_left _ hq
 ·exact List.mem_append_right _ (hs q hq)
theorem RepM.plain {s:St} {x:Nat} {M:Md} {ι μ:Nat→Nat} (R:RepM s x M ι μ) {i:Nat} {o:AO} (hi:s.h.get i=some o) (ho:Xt o=true):¬ Own x M ι μ i:=by
 rintro (rfl|⟨k,hk,rfl|rfl⟩)
 ·rw[R.tr] at hi
  cases hi
  cases ho
 ·obtain⟨nd,hn⟩:=qa9 hk
  rw[(R.nd k nd hn).1] at hi
  cases hi
  cases ho
 ·obtain⟨nd,hn⟩:=qa9 hk
  have h2:s.h.get (μ k)=_:=(R.nd k nd hn).2
  rw[h2] at hi
  cases hi
  cases ho
theorem World.withL {s:St} {x:Nat} {M:Md} {L:List (Nat × AO)} (h:World s x M L) {L':List (Nat × AO)} (hL:∀ q∈L',s.h.get q.1=some q.2∧Xt q.2=true):World s x M (L'++L):=by
 obtain⟨hB,ι,μ,R,hq⟩:=h
 refine⟨hB,ι,μ,R,fun q hm=>?_⟩
 rcases List.mem_append.1 hm with hm|hm
 ·exact⟨(hL q hm).1,R.plain (hL q hm).1 (hL q hm).2⟩
 ·exact hq q hm
theorem Two.withL {s:St} {x x':Nat} {M M':Md} {L:List (Nat × AO)} (h:Two s x M x' M' L) {L':List (Nat × AO)} (hL:∀ q∈L',s.h.get q.1=some q.2∧Xt q.2=true):Two s x M x' M' (L'++L):=by
 obtain⟨ι,μ,R,hW,hn⟩:=h
 refine⟨ι,μ,R,(hW.withL hL).sub (fun q hq=>?_),fun q hq=>?_⟩
 ·simp only[List.mem_append] at hq ⊢
  rcases hq with hq|hq|hq
  ·exact Or.inr (Or.inl hq)
  ·exact Or.inl hq
  ·exact Or.inr (Or.inr hq)
 ·rcases List.mem_append.1 hq with hq|hq
  ·exact R.plain (hL q hq).1 (hL q hq).2
  ·exact hn q hq
theorem Tri.withL {s:St} {x1 x2 x3:Nat} {M1 M2 M3:Md} {L:List (Nat × AO)} (h:Tri s x1 M1 x2 M2 x3 M3 L) {L':List (Nat × AO)} (hL:∀ q∈L',s.h.get q.1=some q.2∧Xt q.2=true):Tri s x1 M1 x2 M2 x3 M3 (L'++L):=by
 obtain⟨ι,μ,R,T,hn⟩:=h
 obtain⟨ι2,μ2,R2,hW,n2⟩:=T.withL hL
 have sub:∀ q,q∈qqq s (qr7 x3 M3 ι μ)++(L'++L)→q∈L'++(qqq s (qr7 x3 M3 ι μ)++L):=fun q hq=>by
  simp only[List.mem_append] at hq ⊢
  rcases hq with hq|hq|hq
  ·exact Or.inr (Or.inl hq)
  ·exact Or.inl hq
  ·exact Or.inr (Or.inr hq)
 refine⟨ι,μ,R,⟨ι2,μ2,R2,hW.sub (fun q hq=>?_),fun q hq=>n2 q (sub q hq)⟩,fun q hq=>?_⟩
 ·rcases List.mem_append.1 hq with hq|hq
  ·exact List.mem_append_left _ hq
  ·exact List.mem_append_right _ (sub q hq)
 ·rcases List.mem_append.1 hq with hq|hq
  ·exact R.plain (hL q hq).1 (hL q hq).2
  ·exact hn q hq
theorem SlV.hold {s:St} {V:AV} {names:List (List Nat)} (h:SlV s V names):∃ LS:List (Nat × AO),(∀ q∈LS,s.h.get q.1=some q.2∧Xt q.2=true)∧∀ s',(∀ q∈LS,s'.h.get q.1=some q.2)→SlV s' V names:=by
 rcases h with h|h|⟨id,off,ci,cap,ex,cs,fz,h1,h2,h3⟩
 ·exact⟨[],fun q hq=>(by cases hq),fun s' _=>Or.inl h⟩
 ·exact⟨[],fun q hq=>(by cases hq),fun s' _=>Or.inr (Or.inl h)⟩
 ·refine⟨[(id,.cells cs 9 fz)],fun q hq=>?_,fun s' hs=>Or.inr (Or.inr ⟨id,off,ci,cap,ex,cs,fz,h1,hs _ (List.mem_singleton.2 rfl),h3⟩)⟩
  rw[List.mem_singleton.1 hq]
  exact⟨h2,rfl⟩
theorem q1h {a b:List Nat}:qN .neq (.str a) (.str b)=some (q8 (!eqB a b)):=(rfl)
theorem qp3 {s:St} (H:Ok TE Tryz.prog pr3) {A B:AV} {l:List (List Nat)} (hA:SlV s A l) (hB:SlV s B l) (hl:l.length≤1000000) {kr kp:AV→St→Bool} (hk:kr (.raw (.bool true)) s=true) :
  (sem Tryz.prog).call 51 [A,B] s kr kp=true:=by
 refine qk H 26 q40 rfl rfl ?_
 have la:=hA.len
 have lb:=hB.len
 have ia:=hA.ids
 have ib:=hB.ids
 repeat (first|with_reducible (refine q9 H ?_;constructor)|simp only[rB,rP,rQ,q8,qf,q7,qc,reduceIte,Nat.reduceAdd,Nat.reduceLT,Nat.reduceEqDiff,pe3,pf3,la,lb,ia,ib,qB,bne_self_eq_false])
 refine qZ H (fun n t s'=>∃ k:Nat,n+k=l.length∧s'=s∧tg t 0=A∧tg t 1=B∧tg t 5=.raw (.int .i64 (k:Int))) (n:=l.length)
  ⟨0,rfl,rfl,by simp only[rB,rP,rQ,q8,qf,q7,qc,reduceIte,Nat.reduceAdd,Nat.reduceLT,Nat.reduceEqDiff],by simp only[rB,rP,rQ,q8,qf,q7,qc,reduceIte,Nat.reduceAdd,Nat.reduceLT,Nat.reduceEqDiff],by simp only[rB,rP,rQ,q8,qf,q7,qc,reduceIte,Nat.reduceAdd,Nat.reduceLT,Nat.reduceEqDiff];rfl⟩ ?_
 rintro n t s' ih ⟨k,hn,rfl,t0,t1,t5⟩
 cases n with
 | zero =>
  have g0:decide ((k:Int) < (l.length:Int))=false:=by rw[decide_eq_false_iff_not];omega
  repeat (first|with_reducible (refine q9 H ?_;constructor)|simp only[rB,rP,rQ,q8,qf,q7,qc,reduceIte,Nat.reduceAdd,Nat.reduceLT,Nat.reduceEqDiff,pe3,pf3,t0,t1,t5,la,lb,ia,ib,zX,g0,Tryz.results51])
  exact hk
 | succ n =>
  have hlt:k < l.length:=by omega
  have g0:decide ((k:Int) < (l.length:Int))=true:=by rw[decide_eq_true_eq];omega
  obtain⟨i1,o1,x1,y1,ob1,z1⟩:=hA.idx (p:=l[k]) (j:=k) (List.getElem?_eq_getElem hlt)
  obtain⟨i2,o2,x2,y2,ob2,z2⟩:=hB.idx (p:=l[k]) (j:=k) (List.getElem?_eq_getElem hlt)
  have y1':ldO (s'.h.get i1) o1=some (.str l[k]):=by rw[← Kb];exact y1
  have y2':ldO (s'.h.get i2) o2=some (.str l[k]):=by rw[← Kb];exact y2
  have w1:∀ b,inO (s'.h.get i1) b=b:=fun b=>by rw[z1];rfl
  have w2:∀ b,inO (s'.h.get i2) b=b:=fun b=>by rw[z2];rfl
  have ew:IntKind.i64.wrap ((k:Int)+1)=((k+1:Nat):Int):=by
   rw[show (k:Int)+1=((k+1:Nat):Int) from by simp]
   exact qM (by omega)
  generalize l[k]=nm at *
  repeat (first|with_reducible (refine q9 H ?_;constructor)|simp only[rB,rP,rQ,q8,qf,q7,qc,reduceIte,Nat.reduceAdd,Nat.reduceLT,Nat.reduceEqDiff,pe3,pf3,t0,t1,t5,la,lb,ia,ib,zX,g0,x1,x2,y1',y2',w1,w2,qA,q1h,qU,qO,ew]|(with_reducible refine qq H (i:=6) (.take 0 (.take 1 (.take 2 (.take 3 (.take 4 (.take 5 (.take 6 (.take 7 (.take 8 (.done)))))))))) rfl (by kernel_rfl) ?_))
  exact ih n _ _ (by omega) ⟨k+1,by omega,rfl,by simp only[rB,rP,rQ,q8,qf,q7,qc,reduceIte,Nat.reduceAdd,Nat.reduceLT,Nat.reduceEqDiff,t0],by simp only[rB,rP,rQ,q8,qf,q7,qc,reduceIte,Nat.reduceAdd,Nat.reduceLT,Nat.reduceEqDiff,t1],by simp only[rB,rP,rQ,q8,qf,q7,qc,reduceIte,Nat.reduceAdd,Nat.reduceLT,Nat.reduceEqDiff]⟩
theorem qvh {x:Nat}:qn TE 38 (.ptr x 0) 0=some (.ptr x 0):=by kernel_rfl
theorem qwm {x:Nat}:qn TE 38 (.ptr x 0) 1=some (.ptr x 1):=by kernel_rfl
theorem qw7 {x:Nat}:qn TE 38 (.ptr x 0) 2=some (.ptr x 2):=by kernel_rfl
theorem qtv {x:Nat}:qn TE 38 (.ptr x 0) 3=some (.ptr x 3):=by kernel_rfl
theorem qvb {x:Nat}:qn TE 38 (.ptr x 0) 4=some (.ptr x 4):=by kernel_rfl
theorem qwy {x:Nat}:qn TE 38 (.ptr x 0) 5=some (.ptr x 5):=by kernel_rfl
theorem qwb {a b c d:Int} {e:List Nat} {V:AV} {t z:Nat}:ldO (some (.cells (anL a b c d e V) t z)) 0=some (.raw (.int .i64 a)):=(rfl)
theorem qxb {a b c d:Int} {e:List Nat} {V:AV} {t z:Nat}:ldO (some (.cells (anL a b c d e V) t z)) 1=some (.raw (.int .i64 b)):=(rfl)
theorem qtu {a b c d:Int} {e:List Nat} {V:AV} {t z:Nat}:ldO (some (.cells (anL a b c d e V) t z)) 2=some (.raw (.int .i64 c)):=(rfl)
theorem qv1 {a b c d:Int} {e:List Nat} {V:AV} {t z:Nat}:ldO (some (.cells (anL a b c d e V) t z)) 3=some (.raw (.int .i64 d)):=(rfl)
theorem qvf {a b c d:Int} {e:List Nat} {V:AV} {t z:Nat}:ldO (some (.cells (anL a b c d e V) t z)) 4=some (.str e):=(rfl)
theorem qu3 {a b c d:Int} {e:List Nat} {V:AV} {t z:Nat}:ldO (some (.cells (anL a b c d e V) t z)) 5=some V:=(rfl)
theorem qtz {a b c d:Int} {e:List Nat} {V:AV}:(anL a b c d e V)[0]?=some (.raw (.int .i64 a)):=(rfl)
theorem qum {a b c d:Int} {e:List Nat} {V:AV}:(anL a b c d e V)[1]?=some (.raw (.int .i64 b)):=(rfl)
theorem qw2 {a b c d:Int} {e:List Nat} {V:AV}:(anL a b c d e V)[2]?=some (.raw (.int .i64 c)):=(rfl)
theorem qxl {a b c d:Int} {e:List Nat} {V:AV}:(anL a b c d e V)[3]?=some (.raw (.int .i64 d)):=(rfl)
theorem qxa {a b c d:Int} {e:List Nat} {V:AV}:(anL a b c d e V)[4]?=some (.str e):=(rfl)
theorem quw {a b c d:Int} {e:List Nat} {V:AV}:(anL a b c d e V)[5]?=some V:=(rfl)
theorem qia {s:St} (H:Ok TE Tryz.prog pr3) (hB:qb s) {a0 a1 a2 a3:Int} {a4:List Nat} {A B:AV} {l:List (List Nat)} (hA:SlV s A l) (hBv:SlV s B l) (hl:l.length≤1000000) {kr kp:AV→St→Bool} (hk:∀ s',Ext s s'→qb s'→kr (.raw (.bool true)) s'=true) :
  (sem Tryz.prog).call 24 [.agg (anL a0 a1 a2 a3 a4 A),.agg (anL a0 a1 a2 a3 a4 B)] s kr kp=true:=by
 refine qk H 45 q4z rfl rfl ?_
 have hE:Ext s ((s.alloc (.cells (anL a0 a1 a2 a3 a4 A) 38 0)).alloc (.cells (anL a0 a1 a2 a3 a4 B) 38 0)):=(Ext.alloc s _).trans (Ext.alloc _ _)
 have hB2:qb ((s.alloc (.cells (anL a0 a1 a2 a3 a4 A) 38 0)).alloc (.cells (anL a0 a1 a2 a3 a4 B) 38 0)):=z8 (z8 hB _) _
 have k0:((s.alloc (.cells (anL a0 a1 a2 a3 a4 A) 38 0)).alloc (.cells (anL a0 a1 a2 a3 a4 B) 38 0)).h.get s.nx=some (.cells (anL a0 a1 a2 a3 a4 A) 38 0):=(zm (show s.nx≠s.nx+1 by omega)).trans qt
 have k1:((s.alloc (.cells (anL a0 a1 a2 a3 a4 A) 38 0)).alloc (.cells (anL a0 a1 a2 a3 a4 B) 38 0)).h.get (s.nx+1)=some (.cells (anL a0 a1 a2 a3 a4 B) 38 0):=qt
 have hA2:=hA.ext hB hE
 have hB3:=hBv.ext hB hE
 repeat (first|with_reducible (refine q9 H ?_;constructor)|simp only[rB,rP,rQ,q8,qf,q7,qc,reduceIte,Nat.reduceAdd,Nat.reduceLT,Nat.reduceEqDiff,pe3,pf3,qd])
 generalize (s.alloc (.cells (anL a0 a1 a2 a3 a4 A) 38 0)).alloc (.cells (anL a0 a1 a2 a3 a4 B) 38 0)=s2 at *
 repeat (first|with_reducible (refine q9 H ?_;constructor)|simp only[rB,rP,rQ,q8,qf,q7,qc,reduceIte,Nat.reduceAdd,Nat.reduceLT,Nat.reduceEqDiff,pe3,pf3,k0,k1,qh,Ym,qU,beq_self_eq_true,qvh,qwm,qw7,qtv,qvb,qwy,qtz,qum,qw2,qxl,qxa,quw,qwb,qxb,qtu,qv1,qvf,qu3,qD,qA,ZR])
 refine qp3 H hA2 hB3 hl ?_
 repeat (first|with_reducible (refine q9 H ?_;constructor)|simp only[rB,rP,rQ,q8,qf,q7,qc,reduceIte,Nat.reduceAdd,Nat.reduceLT,Nat.reduceEqDiff,pe3,pf3,Tryz.results24])
 exact hk _ hE hB2
structure PkA (V:AV) (cs:List Cl) (L0:List (Nat × AO)):Prop where
 len:∀ s',Qv TE s' [44] [V]=some (.raw (.int .i64 (cs.length:Int)))
 ids:Z4 V=[]
 at':∀ (i:Nat) (c:Cl),cs[i]?=some c→∃ b o l,qQ TE 44 V (.raw (.int .i64 (i:Int)))=some (.ptr b o)∧(b,AO.old l)∈L0∧Yn o 8 l=some (clL c)
theorem Js:(match TE.info 41 with|some ti=>QF ti.desc&&Nat.beq ti.size 8|none=>false)=true:=by kernel_rfl
theorem qsq {s:St} (H:Ok TE Tryz.prog pr3) {z:Int} {kr kp:AV→St→Bool} (hk:kr (.raw (.int .i64 z)) s=true):(sem Tryz.prog).call 23 [.raw (.int .i64 z)] s kr kp=true:=by
 refine qk H 4 q43 rfl rfl ?_
 repeat (first|with_reducible (refine q9 H ?_;constructor)|simp only[rB,rP,rQ,q8,qf,q7,qc,reduceIte,reduceCtorEq,Nat.reduceAdd,Nat.reduceLT,Nat.reduceEqDiff,UInt8.reduceToNat,pe3,pf3,Tryz.results23])
 exact hk
theorem qle {es:List En}:qse es es=true:=by
 have hl:∀ l:List En,qeh l l=true:=by
  intro l
  induction l with
  | nil=>rfl
  | cons e l ih =>
   have:eqE e e=true:=by unfold eqE;simp[eqB_eq.2]
   simp only[qeh,this,cond_true,ih]
 unfold qse
 have:((es.length:Int) != (es.length:Int))=false:=by simp
 rw[this,cond_false,hl]
theorem SlV.beqA {s:St} {V:AV} {names:List (List Nat)} (h:SlV s V names):beqA V V=true:=by
 rcases h with⟨rfl,rfl⟩|⟨id,off,ci,l,z,rfl,rfl⟩|⟨id,off,ci,cap,ex,cs,fz,rfl,_⟩ <;> simp[Go.AX.beqA,qta]
theorem qnz {a b c d:Int} {e:List Nat} {V:AV} (h:beqA V V=true):Y3 (anL a b c d e V) (anL a b c d e V)=true:=by
 unfold anL
 simp only[qht,qox,qnc,qh7,h,Bool.and_self]
theorem qww (H:Ok TE Tryz.prog pr3) {st:St} (hB:qb st) {IV PA PB:AV} {im:List (List En)} {ca cb:List Cl} {L0:List (Nat × AO)} (hI:LsV st IV im) (hp:∀ es∈im,∀ e∈es,e.1.length≤1048575) (hA:PkA PA ca L0) (hC:PkA PB cb L0) (hL0:∀ q∈L0,st.h.get q.1=some q.2∧Xt q.2=true) (hda:∀ c∈ca,c.data.length≤10000000000000000000) (hdb:∀ c∈cb,c.data.length≤10000000000000000000) :
  (sem Tryz.prog).call 6 [.agg [IV],PA,PB] st (fun v _=>WB v) (fun _ _=>false)=true:=by
 refine qk H 87 fn_6 rfl rfl ?_
 have hB1:qb (st.alloc (.cells [IV] 24 0)):=z8 hB _
 have hE1:Ext st (st.alloc (.cells [IV] 24 0)):=Ext.alloc st _
 have c1:(st.alloc (.cells [IV] 24 0)).h.get st.nx=some (.cells [IV] 24 0):=qt
 have hI1:=hI.ext hB hE1
 repeat (first|with_reducible (refine q9 H ?_;constructor)|simp only[rB,rP,rQ,q8,qf,q7,qc,reduceIte,reduceCtorEq,Nat.reduceAdd,Nat.reduceLT,Nat.reduceEqDiff,UInt8.reduceToNat,pe3,pf3,qd,qwp])
 generalize st.alloc (.cells [IV] 24 0)=s1 at *
 repeat (first|with_reducible (refine q9 H ?_;constructor)|simp only[rB,rP,rQ,q8,qf,q7,qc,reduceIte,reduceCtorEq,Nat.reduceAdd,Nat.reduceLT,Nat.reduceEqDiff,UInt8.reduceToNat,pe3,pf3,c1,qjy,VQ])
 have ne1:((1600:Int) != 0)=true:=rfl
 have ne0:((0:Int) != 0)=false:=rfl
 have eq1:((1600:Int)==1600)=true:=rfl
 refine Kx H hB1 hI1 hp ?_ ?_
 rotate_left
 ·-- the image may not be merged
  intro s2 hm hE2 hB2
  have c2:=(hE2.2 _ (hB1 _ _ c1)).trans c1
  repeat (first|with_reducible (refine q9 H ?_;constructor)|simp only[rB,rP,rQ,q8,qf,q7,qc,reduceIte,reduceCtorEq,Nat.reduceAdd,Nat.reduceLT,Nat.reduceEqDiff,UInt8.reduceToNat,pe3,pf3,c2,qjy,VQ])
  refine Kx H hB2 (hI1.ext hB1 hE2) hp (fun _ _ _ _ _ _ h=>by rw[hm] at h;cases h) ?_
  intro s3 _ hE3 hB3
  have c3:=(hE3.2 _ (hB2 _ _ c2)).trans c2
  repeat (first|with_reducible (refine q9 H ?_;constructor)|simp only[rB,rP,rQ,q8,qf,q7,qc,reduceIte,reduceCtorEq,Nat.reduceAdd,Nat.reduceLT,Nat.reduceEqDiff,UInt8.reduceToNat,pe3,pf3,c3,qjy,VQ])
  refine Kx H hB3 ((hI1.ext hB1 hE2).ext hB2 hE3) hp (fun _ _ _ _ _ _ h=>by rw[hm] at h;cases h) ?_
  intro s4 _ hE4 hB4
  repeat (first|with_reducible (refine q9 H ?_;constructor)|simp only[rB,rP,rQ,q8,qf,q7,qc,reduceIte,reduceCtorEq,Nat.reduceAdd,Nat.reduceLT,Nat.reduceEqDiff,UInt8.reduceToNat,pe3,pf3,qB,qh,ne1,eq1,Tryz.results6]|(with_reducible refine qsq H ?_))
  rfl
 intro s2 u1 x1 M W1 out hm hof hE2 hl1 F1
 have hB2:=F1.1
 have c2:=(hE2.2 _ (hB1 _ _ c1)).trans c1
 repeat (first|with_reducible (refine q9 H ?_;constructor)|simp only[rB,rP,rQ,q8,qf,q7,qc,reduceIte,reduceCtorEq,Nat.reduceAdd,Nat.reduceLT,Nat.reduceEqDiff,UInt8.reduceToNat,pe3,pf3,c2,qjy,VQ])
 refine Kx H hB2 (hI1.ext hB1 hE2) hp ?_ (fun _ h _ _=>by rw[hm] at h;cases h)
 intro s3 u2 x2 M' W2 out' hm' hof' hE3 hl2 F2
 rw[hm] at hm'
 cases hm'
 rw[hof] at hof'
 cases hof'
 have hB3:=F2.1
 have c3:=(hE3.2 _ (hB2 _ _ c2)).trans c2
 repeat (first|with_reducible (refine q9 H ?_;constructor)|simp only[rB,rP,rQ,q8,qf,q7,qc,reduceIte,reduceCtorEq,Nat.reduceAdd,Nat.reduceLT,Nat.reduceEqDiff,UInt8.reduceToNat,pe3,pf3,c3,qjy,VQ])
 refine Kx H hB3 ((hI1.ext hB1 hE2).ext hB2 hE3) hp ?_ (fun _ h _ _=>by rw[hm] at h;cases h)
 intro s4 u3 x3 M' W3 out' hm' hof' hE4 hl3 F3
 rw[hm] at hm'
 cases hm'
 rw[hof] at hof'
 cases hof'
 have hO2:∀ q∈L0,s2.h.get q.1=some q.2∧Xt q.2=true:=fun q hq=>by
  obtain⟨h1,h2⟩:=hL0 q hq
  exact⟨((hE1.trans hE2).2 _ (hB _ _ h1)).trans h1,h2⟩
 have T2:=World.two (F1.world.withL hO2) hE3 F2 hl2
 have T3:=T2.tri hE4 F3 hl3
 have T:Tri s4 x1 M x2 M x3 M ((u1,AO.cells [.ptr x1 0,W1] 74 0)::(u2,AO.cells [.ptr x2 0,W2] 74 0)::(u3,AO.cells [.ptr x3 0,W3] 74 0)::L0):=T3.sub (fun q hq=>by
  simp only[List.mem_cons,List.mem_append] at hq ⊢
  rcases hq with hq|hq|hq|hq
  ·exact Or.inr (Or.inr (Or.inr (Or.inl hq)))
  ·exact Or.inr (Or.inl (Or.inl hq))
  ·exact Or.inl (Or.inl hq)
  ·exact Or.inr (Or.inr (Or.inl hq)))
 clear T2 T3 hO2 F1 F2 F3 hl1 hl2 hl3
 obtain⟨wf0,hm0,_⟩:=qz2 hof
 repeat (first|with_reducible (refine q9 H ?_;constructor)|simp only[rB,rP,rQ,q8,qf,q7,qc,reduceIte,reduceCtorEq,Nat.reduceAdd,Nat.reduceLT,Nat.reduceEqDiff,UInt8.reduceToNat,pe3,pf3,qB,ne0]|(with_reducible refine qsq H ?_))
 have vl:=hA.len
 have vi:=hA.ids
 have wl:=hC.len
 have wi:=hC.ids
 refine qZ H (fun n t s'=>∃ (i:Nat) (M1 M3:Md) (n1 n3:Nat),n+i=min ca.length 40∧tg t 1=PA∧tg t 2=PB∧tg t 7=.ptr u1 0∧tg t 9=.ptr u2 0∧tg t 11=.ptr u3 0∧tg t 13=.raw (.int .i64 (i:Int))∧Tri s' x1 M1 x2 M1 x3 M3 ((u1,AO.cells [.ptr x1 0,W1] 74 0)::(u2,AO.cells [.ptr x2 0,W2] 74 0)::(u3,AO.cells [.ptr x3 0,W3] 74 0)::L0)∧Wf M1 n1∧M1.many=(n1:Int)∧Wf M3 n3∧M3.many=(n3:Int)) (n:=min ca.length 40)
  (by
   refine⟨0,M,M,_,_,rfl,?_,?_,?_,?_,?_,?_,T,wf0,hm0,wf0,hm0⟩
   ·simp only[rB,rP,rQ,q8,qf,q7,qc,reduceIte,reduceCtorEq,Nat.reduceAdd,Nat.reduceLT,Nat.reduceEqDiff,UInt8.reduceToNat]
   ·simp only[rB,rP,rQ,q8,qf,q7,qc,reduceIte,reduceCtorEq,Nat.reduceAdd,Nat.reduceLT,Nat.reduceEqDiff,UInt8.reduceToNat]
   ·simp only[rB,rP,rQ,q8,qf,q7,qc,reduceIte,reduceCtorEq,Nat.reduceAdd,Nat.reduceLT,Nat.reduceEqDiff,UInt8.reduceToNat]
   ·simp only[rB,rP,rQ,q8,qf,q7,qc,reduceIte,reduceCtorEq,Nat.reduceAdd,Nat.reduceLT,Nat.reduceEqDiff,UInt8.reduceToNat]
   ·simp only[rB,rP,rQ,q8,qf,q7,qc,reduceIte,reduceCtorEq,Nat.reduceAdd,Nat.reduceLT,Nat.reduceEqDiff,UInt8.reduceToNat]
   ·simp only[rB,rP,rQ,q8,qf,q7,qc,reduceIte,reduceCtorEq,Nat.reduceAdd,Nat.reduceLT,Nat.reduceEqDiff,UInt8.reduceToNat]
    rfl) ?_
 clear T
 rintro n t s ih ⟨i,M1,M3,n1,n3,hn,t1,t2,t7,t9,t11,t13,T,wf1,hm1,wf3,hm3⟩
 have m1:∀ {LL:List (Nat × AO)},(u1,AO.cells [.ptr x1 0,W1] 74 0)∈(u1,AO.cells [.ptr x1 0,W1] 74 0)::LL:=List.mem_cons_self ..
 have up:∀ {y a:Nat × AO} {L:List (Nat × AO)},y∈L→y∈a::L:=fun h=>List.mem_cons_of_mem _ h
 cases n with
 | zero =>
  obtain⟨bk,g1⟩:∃ b,decide ((i:Int) < 40)=b:=⟨_,rfl⟩
  have hend:decide ((i:Int) < (ca.length:Int))=false∨(decide ((i:Int) < (ca.length:Int))=true∧bk=false):=by
   rw[← g1]
   simp only[decide_eq_false_iff_not,decide_eq_true_eq];omega
  obtain⟨es,he,hel,_⟩:=wf1.ents
  have hcnt:n1≤128:=by obtain⟨R,_,_,_,h⟩:=wf1.count;exact h
  rcases hend with g0|⟨g0,rfl⟩
  all_goals
   repeat (first|with_reducible (refine q9 H ?_;constructor)|simp only[rB,rP,rQ,q8,qf,q7,qc,reduceIte,reduceCtorEq,Nat.reduceAdd,Nat.reduceLT,Nat.reduceEqDiff,UInt8.reduceToNat,pe3,pf3,t1,t2,t7,t9,t11,t13,vl,vi,zX,g0,g1])
   refine qh3 H T m1 he (by omega) (fun s5 V5 T5 hV5=>?_)
   repeat (first|with_reducible (refine q9 H ?_;constructor)|simp only[rB,rP,rQ,q8,qf,q7,qc,reduceIte,reduceCtorEq,Nat.reduceAdd,Nat.reduceLT,Nat.reduceEqDiff,UInt8.reduceToNat,pe3,pf3,t1,t2,t7,t9,t11,t13])
   refine qh3 H T5.swap12 (List.mem_append_right _ (up (List.mem_cons_self ..))) he (by omega) (fun s6 V6 T6 hV6=>?_)
   have hV5':ErB 0 s6 V5 es:=q2z hV5 (fun q hq=>T6.get (List.mem_append_right _ (List.mem_append_left _ hq)))
   repeat (first|with_reducible (refine q9 H ?_;constructor)|simp only[rB,rP,rQ,q8,qf,q7,qc,reduceIte,reduceCtorEq,Nat.reduceAdd,Nat.reduceLT,Nat.reduceEqDiff,UInt8.reduceToNat,pe3,pf3,t1,t2,t7,t9,t11,t13])
   refine qqf H hV5'.esvM hV6.esvM (by omega) ?_
   rw[qle]
   repeat (first|with_reducible (refine q9 H ?_;constructor)|simp only[rB,rP,rQ,q8,qf,q7,qc,reduceIte,reduceCtorEq,Nat.reduceAdd,Nat.reduceLT,Nat.reduceEqDiff,UInt8.reduceToNat,pe3,pf3,Tryz.results6])
   rfl
 | succ n =>
  have hi:i < ca.length:=by omega
  have h40:i < 40:=by omega
  have g0:decide ((i:Int) < (ca.length:Int))=true:=by rw[decide_eq_true_eq];omega
  have g1:decide ((i:Int) < 40)=true:=by rw[decide_eq_true_eq];omega
  obtain⟨b,o,l,ix,hm,hcut⟩:=hA.at' i ca[i] (List.getElem?_eq_getElem hi)
  have hdc:=hda _ (List.getElem_mem hi)
  generalize ca[i]=c at ix hcut hdc
  have gb:=T.get (up (up (up hm)))
  have lc:Q1 TE s 41 (.ptr b o)=some (.agg (clL c)):=Yi Js gb hcut
  obtain⟨an,M1',n1',hdo,hok,wf1',hm1',_⟩:=qtd wf1 hm1 (c:=c) hdc
  have in0:∀ x,inO (s.h.get b) x=x:=fun x=>by rw[gb];rfl
  repeat (first|with_reducible (refine q9 H ?_;constructor)|simp only[rB,rP,rQ,q8,qf,q7,qc,reduceIte,reduceCtorEq,Nat.reduceAdd,Nat.reduceLT,Nat.reduceEqDiff,UInt8.reduceToNat,pe3,pf3,t1,t2,t7,t9,t11,t13,vl,vi,zX,g0,g1,ix,lc,in0])
  refine qh6 H T m1 hdo (fun s5 V5 T5 l5 hV5=>?_)
  obtain⟨LS,hs1,hs2⟩:=hV5.hold
  have T7:=(T5.withL hs1).alloc (.cells (anL 0 0 0 0 [] nilS) 38 0) (.cells (anL an.status an.num an.kind an.mode an.data V5) 38 0)
  have ew:IntKind.i64.wrap ((i:Int)+1)=((i+1:Nat):Int):=by
   rw[show (i:Int)+1=((i+1:Nat):Int) from by simp]
   exact qM (by omega)
  have hnl:an.names.length≤1000000:=by have:=hok.2.1;omega
  repeat (first|with_reducible (refine q9 H ?_;constructor)|simp only[rB,rP,rQ,q8,qf,q7,qc,reduceIte,reduceCtorEq,Nat.reduceAdd,Nat.reduceLT,Nat.reduceEqDiff,UInt8.reduceToNat,pe3,pf3,t1,t2,t7,t9,t11,t13,zn,Qj hV5.cells1.2,zr])
  generalize ({ h:=(s5.alloc (.cells (anL 0 0 0 0 [] nilS) 38 0)).h.set s5.nx (.cells (anL an.status an.num an.kind an.mode an.data V5) 38 0),nx:=s5.nx+1 }:St)=s7 at *
  have lL:∀ {q:Nat × AO} {a:Nat × AO} {LL:List (Nat × AO)},q∈LL→q∈a::(LS++LL):=fun h=>List.mem_cons_of_mem _ (List.mem_append_right _ h)
  have lS:∀ {q:Nat × AO} {a:Nat × AO} {LL:List (Nat × AO)},q∈LS→q∈a::(LS++LL):=fun h=>List.mem_cons_of_mem _ (List.mem_append_left _ h)
  have m2:∀ {LL:List (Nat × AO)},(u2,AO.cells [.ptr x2 0,W2] 74 0)∈(u2,AO.cells [.ptr x2 0,W2] 74 0)::LL:=List.mem_cons_self ..
  have m3:∀ {LL:List (Nat × AO)},(u3,AO.cells [.ptr x3 0,W3] 74 0)∈(u3,AO.cells [.ptr x3 0,W3] 74 0)::LL:=List.mem_cons_self ..
  rcases Nat.lt_or_ge i cb.length with hb|hb
  ·have g2:decide ((i:Int) < (cb.length:Int))=true:=by rw[decide_eq_true_eq];omega
   obtain⟨b',o',l',ix',hm',hcut'⟩:=hC.at' i cb[i] (List.getElem?_eq_getElem hb)
   have hdc':=hdb _ (List.getElem_mem hb)
   generalize cb[i]=c' at ix' hcut' hdc'
   have gb':=T7.get (lL (up (up (up hm'))))
   have lc':Q1 TE s7 41 (.ptr b' o')=some (.agg (clL c')):=Yi Js gb' hcut'
   have in7:∀ x,inO (s7.h.get b') x=x:=fun x=>by rw[gb'];rfl
   obtain⟨an',M3',n3',hdo',hok',wf3',hm3',_⟩:=qtd wf3 hm3 (c:=c') hdc'
   repeat (first|with_reducible (refine q9 H ?_;constructor)|simp only[rB,rP,rQ,q8,qf,q7,qc,reduceIte,reduceCtorEq,Nat.reduceAdd,Nat.reduceLT,Nat.reduceEqDiff,UInt8.reduceToNat,pe3,pf3,t1,t2,t7,t9,t11,t13,wl,wi,zX,g2,ix',lc',in7])
   refine qh6 H T7.turn (lL (up (up m3))) hdo' (fun s9 V9 T8 l9 hV9=>?_)
   have T9:=T8.turn
   have g8:=T9.get (List.mem_cons_self ..)
   simp only at g8
   have gb8:=T9.get (lL (up (up (up hm))))
   have lc8:Q1 TE s9 41 (.ptr b o)=some (.agg (clL c)):=Yi Js gb8 hcut
   have in8:∀ x,inO (s9.h.get b) x=x:=fun x=>by rw[gb8];rfl
   repeat (first|with_reducible (refine q9 H ?_;constructor)|simp only[rB,rP,rQ,q8,qf,q7,qc,reduceIte,reduceCtorEq,Nat.reduceAdd,Nat.reduceLT,Nat.reduceEqDiff,UInt8.reduceToNat,pe3,pf3,t1,t2,t7,t9,t11,t13,vl,vi,ix,lc8,in8,g8,zD,qY]|(with_reducible refine qq H (i:=14) (.take 0 (.take 1 (.take 2 (.take 3 (.take 4 (.take 5 (.alt 6 [1,2,3,4,5] (.alt 7 [0,1,2,3,4,5,6] (.take 8 (.done)) (.yes)) (.yes)))))))) rfl (by kernel_rfl) ?_))
   refine qh6 H T9.swap12 (lL (up m2)) hdo (fun s10 V10 T10 l10 hV10=>?_)
   have T11:=T10.swap12
   have hV5':=hs2 s10 (fun q hq=>T11.get (lS hq))
   have g10:=T11.get (List.mem_cons_self ..)
   simp only at g10
   have gb10:=T11.get (lL (up (up (up hm))))
   have lc10:Q1 TE s10 41 (.ptr b o)=some (.agg (clL c)):=Yi Js gb10 hcut
   have in10:∀ x,inO (s10.h.get b) x=x:=fun x=>by rw[gb10];rfl
   have bq:=qnz (a:=an.status) (b:=an.num) (c:=an.kind) (d:=an.mode) (e:=an.data) hV5.beqA
   repeat (first|with_reducible (refine q9 H ?_;constructor)|simp only[rB,rP,rQ,q8,qf,q7,qc,reduceIte,reduceCtorEq,Nat.reduceAdd,Nat.reduceLT,Nat.reduceEqDiff,UInt8.reduceToNat,pe3,pf3,t1,t2,t7,t9,t11,t13,vl,vi,ix,lc8,in8,g8,lc10,in10,g10,gb8,gb10,bq,zD,qY])
   refine qia H T11.below hV5' hV10 hnl (fun s12 hE12 hB12=>?_)
   have T13:=T11.ext hE12 hB12
   have g12:=T13.get (List.mem_cons_self ..)
   simp only at g12
   have gb12:=T13.get (lL (up (up (up hm))))
   have lc12:Q1 TE s12 41 (.ptr b o)=some (.agg (clL c)):=Yi Js gb12 hcut
   have in12:∀ x,inO (s12.h.get b) x=x:=fun x=>by rw[gb12];rfl
   repeat (first|with_reducible (refine q9 H ?_;constructor)|simp only[rB,rP,rQ,q8,qf,q7,qc,reduceIte,reduceCtorEq,Nat.reduceAdd,Nat.reduceLT,Nat.reduceEqDiff,UInt8.reduceToNat,pe3,pf3,t1,t2,t7,t9,t11,t13,vl,vi,ix,lc8,in8,g8,lc10,in10,g10,lc12,in12,g12,gb8,gb10,gb12,bq,zD,qY,Bool.not_true,qO,ew])
   refine ih n _ _ (Nat.lt_succ_self n) ?_
   refine⟨i+1,M1',M3',n1',n3',by omega,?_,?_,?_,?_,?_,?_,T13.sub (fun q hq=>lL hq),wf1',hm1',wf3',hm3'⟩
   ·simp only[rB,rP,rQ,q8,qf,q7,qc,reduceIte,reduceCtorEq,Nat.reduceAdd,Nat.reduceLT,Nat.reduceEqDiff,UInt8.reduceToNat,t1]
   ·simp only[rB,rP,rQ,q8,qf,q7,qc,reduceIte,reduceCtorEq,Nat.reduceAdd,Nat.reduceLT,Nat.reduceEqDiff,UInt8.reduceToNat,t2]
   ·simp only[rB,rP,rQ,q8,qf,q7,qc,reduceIte,reduceCtorEq,Nat.reduceAdd,Nat.reduceLT,Nat.reduceEqDiff,UInt8.reduceToNat,t7]
   ·simp only[rB,rP,rQ,q8,qf,q7,qc,reduceIte,reduceCtorEq,Nat.reduceAdd,Nat.reduceLT,Nat.reduceEqDiff,UInt8.reduceToNat,t9]
   ·simp only[rB,rP,rQ,q8,qf,q7,qc,reduceIte,reduceCtorEq,Nat.reduceAdd,Nat.reduceLT,Nat.reduceEqDiff,UInt8.reduceToNat,t11]
   ·simp only[rB,rP,rQ,q8,qf,q7,qc,reduceIte,reduceCtorEq,Nat.reduceAdd,Nat.reduceLT,Nat.reduceEqDiff,UInt8.reduceToNat]
  ·have g2:decide ((i:Int) < (cb.length:Int))=false:=by rw[decide_eq_false_iff_not];omega
   have T9:=T7
   generalize s7=s9 at T9 ⊢
   repeat (first|with_reducible (refine q9 H ?_;constructor)|simp only[rB,rP,rQ,q8,qf,q7,qc,reduceIte,reduceCtorEq,Nat.reduceAdd,Nat.reduceLT,Nat.reduceEqDiff,UInt8.reduceToNat,pe3,pf3,t1,t2,t7,t9,t11,t13,wl,wi,zX,g2])
   have g8:=T9.get (List.mem_cons_self ..)
   simp only at g8
   have gb8:=T9.get (lL (up (up (up hm))))
   have lc8:Q1 TE s9 41 (.ptr b o)=some (.agg (clL c)):=Yi Js gb8 hcut
   have in8:∀ x,inO (s9.h.get b) x=x:=fun x=>by rw[gb8];rfl
   repeat (first|with_reducible (refine q9 H ?_;constructor)|simp only[rB,rP,rQ,q8,qf,q7,qc,reduceIte,reduceCtorEq,Nat.reduceAdd,Nat.reduceLT,Nat.reduceEqDiff,UInt8.reduceToNat,pe3,pf3,t1,t2,t7,t9,t11,t13,vl,vi,ix,lc8,in8,g8,zD,qY]|(with_reducible refine qq H (i:=14) (.take 0 (.take 1 (.take 2 (.take 3 (.take 4 (.take 5 (.alt 6 [1,2,3,4,5] (.alt 7 [0,1,2,3,4,5,6] (.take 8 (.done)) (.yes)) (.yes)))))))) rfl (by kernel_rfl) ?_))
   refine qh6 H T9.swap12 (lL (up m2)) hdo (fun s10 V10 T10 l10 hV10=>?_)
   have T11:=T10.swap12
   have hV5':=hs2 s10 (fun q hq=>T11.get (lS hq))
   have g10:=T11.get (List.mem_cons_self ..)
   simp only at g10
   have gb10:=T11.get (lL (up (up (up hm))))
   have lc10:Q1 TE s10 41 (.ptr b o)=some (.agg (clL c)):=Yi Js gb10 hcut
   have in10:∀ x,inO (s10.h.get b) x=x:=fun x=>by rw[gb10];rfl
   have bq:=qnz (a:=an.status) (b:=an.num) (c:=an.kind) (d:=an.mode) (e:=an.data) hV5.beqA
   repeat (first|with_reducible (refine q9 H ?_;constructor)|simp only[rB,rP,rQ,q8,qf,q7,qc,reduceIte,reduceCtorEq,Nat.reduceAdd,Nat.reduceLT,Nat.reduceEqDiff,UInt8.reduceToNat,pe3,pf3,t1,t2,t7,t9,t11,t13,vl,vi,ix,lc8,in8,g8,lc10,in10,g10,gb8,gb10,bq,zD,qY])
   refine qia H T11.below hV5' hV10 hnl (fun s12 hE12 hB12=>?_)
   have T13:=T11.ext hE12 hB12
   have g12:=T13.get (List.mem_cons_self ..)
   simp only at g12
   have gb12:=T13.get (lL (up (up (up hm))))
   have lc12:Q1 TE s12 41 (.ptr b o)=some (.agg (clL c)):=Yi Js gb12 hcut
   have in12:∀ x,inO (s12.h.get b) x=x:=fun x=>by rw[gb12];rfl
   repeat (first|with_reducible (refine q9 H ?_;constructor)|simp only[rB,rP,rQ,q8,qf,q7,qc,reduceIte,reduceCtorEq,Nat.reduceAdd,Nat.reduceLT,Nat.reduceEqDiff,UInt8.reduceToNat,pe3,pf3,t1,t2,t7,t9,t11,t13,vl,vi,ix,lc8,in8,g8,lc10,in10,g10,lc12,in12,g12,gb8,gb10,gb12,bq,zD,qY,Bool.not_true,qO,ew])
   refine ih n _ _ (Nat.lt_succ_self n) ?_
   refine⟨i+1,M1',M3,n1',n3,by omega,?_,?_,?_,?_,?_,?_,T13.sub (fun q hq=>lL hq),wf1',hm1',wf3,hm3⟩
   ·simp only[rB,rP,rQ,q8,qf,q7,qc,reduceIte,reduceCtorEq,Nat.reduceAdd,Nat.reduceLT,Nat.reduceEqDiff,UInt8.reduceToNat,t1]
   ·simp only[rB,rP,rQ,q8,qf,q7,qc,reduceIte,reduceCtorEq,Nat.reduceAdd,Nat.reduceLT,Nat.reduceEqDiff,UInt8.reduceToNat,t2]
   ·simp only[rB,rP,rQ,q8,qf,q7,qc,reduceIte,reduceCtorEq,Nat.reduceAdd,Nat.reduceLT,Nat.reduceEqDiff,UInt8.reduceToNat,t7]
   ·simp only[rB,rP,rQ,q8,qf,q7,qc,reduceIte,reduceCtorEq,Nat.reduceAdd,Nat.reduceLT,Nat.reduceEqDiff,UInt8.reduceToNat,t9]
   ·simp only[rB,rP,rQ,q8,qf,q7,qc,reduceIte,reduceCtorEq,Nat.reduceAdd,Nat.reduceLT,Nat.reduceEqDiff,UInt8.reduceToNat,t11]
   ·simp only[rB,rP,rQ,q8,qf,q7,qc,reduceIte,reduceCtorEq,Nat.reduceAdd,Nat.reduceLT,Nat.reduceEqDiff,UInt8.reduceToNat]
abbrev Blk:=Option ((Nat × Nat × Nat) × List AV)
def qsr:Nat→List Blk→Tr AO
 | _,[]=>.e
 | j,none::l=>qsr (j+1) l
 | j,some q::l=>(qsr (j+1) l).set j (.old q.2)
theorem qca:∀ {l:List Blk} {j i:Nat},(qsr j l).get i=if i < j then none else (l[i - j]?).join.map (fun q=>AO.old q.2)
 | [],j,i=>by simp[qsr,Tr.get]
 | none::l,j,i=>by
  rw[qsr,qca]
  by_cases h1:i < j
  ·rw[if_pos (by omega),if_pos h1]
  ·rw[if_neg h1]
   by_cases h2:i=j
   ·subst h2
    rw[if_pos (by omega)]
    simp
   ·rw[if_neg (by omega),show i - j=(i - (j+1))+1 from by omega,List.getElem?_cons_succ]
 | some q::l,j,i=>by
  rw[qsr,Tr.get_set,qca]
  by_cases h2:i=j
  ·subst h2
   rw[if_pos rfl,if_neg (by omega)]
   simp
  ·rw[if_neg h2]
   by_cases h1:i < j
   ·rw[if_pos (by omega),if_pos h1]
   ·rw[if_neg (by omega),if_neg h1,show i - j=(i - (j+1))+1 from by omega,List.getElem?_cons_succ]
def stB (B:List Blk):St:={ h:=qsr 0 B,nx:=B.length }
def emB (B:List Blk):Em:=fun i=>(B[i]?).join.map (·.1)
theorem qb1 {B:List Blk} {i:Nat}:(stB B).h.get i=(B[i]?).join.map (fun q=>AO.old q.2):=by
 show (qsr 0 B).get i=_
 rw[qca,if_neg (by omega),Nat.sub_zero]
theorem join_at {B:List Blk} {i:Nat} {q:(Nat × Nat × Nat) × List AV}:(B[i]?).join=some q↔B[i]?=some (some q):=by
 cases h:B[i]? with
 | none=>simp
 | some x=>simp
theorem qop {B:List Blk}:qb (stB B):=by
 intro i o h
 rw[qb1] at h
 cases hj:(B[i]?).join with
 | none=>rw[hj] at h;cases h
 | some q=>exact (List.getElem?_eq_some_iff.mp (join_at.1 hj)).1
theorem simB {w:Go.World} {B:List Blk} (h:∀ (j:Nat) (p:Nat × Nat × Nat) (cs:List AV),B[j]?=some (some (p,cs))→∃ C el fz,w.heap[p.1]?=some (.cells C el fz)∧∀ (i:Nat) (v:AV),cs[i]?=some v→∃ X,C[p.2.1+i]?=some X∧VRel (emB B) v X):Sim w (emB B) (stB B) w:=by
 refine⟨fun id o ho=>?_,fun id id' o o' p p' h1 h2 _ _ _=>Or.inr ?_,fun id p hp=>?_,Below.refl _ w⟩
 ·rw[qb1] at ho
  cases hj:(B[id]?).join with
  | none=>rw[hj] at ho;cases ho
  | some q =>
   rw[hj] at ho
   cases ho
   obtain⟨p,cs⟩:=q
   obtain⟨C,el,fz,hO,hc⟩:=h id p cs (join_at.1 hj)
   refine⟨p,_,by unfold emB;rw[hj];rfl,hO,?_,Or.inr ⟨_,rfl⟩⟩
   simp only[ORel]
   exact⟨C,el,fz,rfl,hc⟩
 ·rw[qb1] at h1 h2
  constructor
  ·cases hj:(B[id]?).join with
   | none=>rw[hj] at h1;cases h1
   | some q=>rw[hj] at h1;cases h1;exact⟨_,rfl⟩
  ·cases hj:(B[id']?).join with
   | none=>rw[hj] at h2;cases h2
   | some q=>rw[hj] at h2;cases h2;exact⟨_,rfl⟩
 ·unfold emB at hp
  cases hj:(B[id]?).join with
  | none=>rw[hj] at hp;cases hp
  | some q=>exact (List.getElem?_eq_some_iff.mp (join_at.1 hj)).1
def RdVal (cs:List AV) (F:Nat→Value):Prop:=∀ r v,cs[r]?=some v→∀ E:Em,VRel E v (F r)
def qt9 (w:Go.World) (k:Nat) (cel:List (List AV)) (V:Value):Prop:=(V=.slice none 0 0∧cel=[])∨∃ a cap,V=.slice (some a) cel.length cap∧cel.length≤cap∧∀ i c,cel[i]?=some c→c.length=k∧∃ F:Nat→Value,(∀ r,r < k→w.cell? (a.add (i * k+r))=some (F r))∧RdVal c F
theorem qi1 {k:Nat} (hk:0 < k):∀ {cel:List (List AV)} {i:Nat} {v:AV},(∀ c∈cel,c.length=k)→cel.flatten[i]?=some v→∃ q r c,i=q * k+r∧r < k∧cel[q]?=some c∧c[r]?=some v
 | [],i,v,_,h=>by simp at h
 | c::l,i,v,hl,h=>by
  rw[List.flatten_cons] at h
  have hc:=hl c (List.mem_cons_self ..)
  by_cases hi:i < k
  ·rw[List.getElem?_append_left (by omega)] at h
   exact⟨0,i,c,by omega,hi,rfl,h⟩
  ·rw[List.getElem?_append_right (by omega),hc] at h
   obtain⟨q,r,c',e1,e2,e3,e4⟩:=qi1 hk (fun c hc=>hl c (List.mem_cons_of_mem _ hc)) h
   exact⟨q+1,r,c',by rw[Nat.add_mul,Nat.one_mul];omega,e2,by simpa using e3,e4⟩
theorem qat {m n:Nat} {l:List AV}:∀ {a:List AV},Yn (a.length+m) n (a++l)=Yn m n l
 | []=>by simp
 | x::a=>by
  have ih:=qat (m:=m) (n:=n) (l:=l) (a:=a)
  rw[← ih,List.length_cons,show a.length+1+m=(a.length+m)+1 from by omega,List.cons_append]
  rfl
theorem qij {k:Nat}:∀ {cel:List (List AV)} {q:Nat} {c:List AV},(∀ c∈cel,c.length=k)→cel[q]?=some c→Yn (q * k) k cel.flatten=some c
 | [],q,c,_,h=>by simp at h
 | a::l,0,c,hl,h=>by
  cases h
  have hc:=hl a (List.mem_cons_self ..)
  rw[Nat.zero_mul,List.flatten_cons]
  have:=XW (n:=k) (l:=a++l.flatten) (by rw[List.length_append];omega)
  rw[this,← hc,List.take_left']
  rfl
 | a::l,q+1,c,hl,h=>by
  have hc:=hl a (List.mem_cons_self ..)
  have ih:=qij (q:=q) (fun c hc=>hl c (List.mem_cons_of_mem _ hc)) (by simpa using h:l[q]?=some c)
  rw[List.flatten_cons,show (q+1) * k=a.length+q * k from by rw[hc,Nat.add_mul,Nat.one_mul];omega,qat]
  exact ih
theorem qd0 {w:Go.World} {k:Nat} (hk:0 < k) {cel:List (List AV)} {V:Value} (h:qt9 w k cel V) (id:Nat):∃ (A:AV) (blk:Blk),
  (∀ p cs,blk=some (p,cs)→∃ C el fz,w.heap[p.1]?=some (.cells C el fz)∧∀ (i:Nat) (v:AV),cs[i]?=some v→∃ X,C[p.2.1+i]?=some X∧∀ E:Em,VRel E v X) ∧
  (∀ E:Em,E id=blk.map (·.1)→VRel E A V) ∧
  ((∃ a c,A=.raw (.slice a 0 c)∧cel=[]∧blk=none)∨∃ cap p,A=.slice id 0 cel.length 0 cap true∧cel.length≤cap∧blk=some (p,cel.flatten)∧(∀ c∈cel,c.length=k)):=by
 rcases h with⟨rfl,rfl⟩|⟨a,cap,rfl,hcap,hc⟩
 ·exact⟨.raw (.slice none 0 0),none,fun p cs e=>(by cases e),fun E _=>(by simp[VRel]),Or.inl ⟨_,_,rfl,rfl,rfl⟩⟩
 ·cases cel with
  | nil=>exact⟨.raw (.slice (some a) 0 cap),none,fun p cs e=>(by cases e),fun E _=>(by simp[VRel]),Or.inl ⟨_,_,rfl,rfl,rfl⟩⟩
  | cons c0 l =>
   have hl:∀ c∈c0::l,c.length=k:=fun c hm=>by
    obtain⟨i,hi,rfl⟩:=List.mem_iff_getElem.mp hm
    exact (hc i _ (List.getElem?_eq_getElem hi)).1
   have hF:∀ i,i < (c0::l).length * k→w.cell? (a.add i)=some ((w.cell? (a.add i)).getD (.bool true)):=fun i hi=>by
    have hq:i / k < (c0::l).length:=Nat.div_lt_of_lt_mul (by rw[Nat.mul_comm];exact hi)
    obtain⟨_,F,h1,_⟩:=hc (i / k) _ (List.getElem?_eq_getElem hq)
    have:=h1 (i % k) (Nat.mod_lt _ hk)
    rw[show i / k * k+i % k=i from by rw[Nat.mul_comm];exact Nat.div_add_mod i k] at this
    rw[this]
    rfl
   obtain⟨b,off,C,el,fz,rfl,hO,hcc⟩:=qi6 hF (by simp only[List.length_cons];exact Nat.mul_pos (Nat.succ_pos _) hk)
   refine⟨.slice id 0 (c0::l).length 0 cap true,some ((b,off,0),(c0::l).flatten),fun p cs e=>?_,fun E hE=>?_,Or.inr ⟨cap,_,rfl,hcap,rfl,hl⟩⟩
   ·cases e
    refine⟨C,el,fz,hO,fun i v hv=>?_⟩
    obtain⟨q,r,c,e1,e2,e3,e4⟩:=qi1 hk hl hv
    obtain⟨_,F,h1,h2⟩:=hc q c e3
    have hq:=(List.getElem?_eq_some_iff.mp e3).1
    have hi:i < (c0::l).length * k:=by
     rw[e1]
     calc q * k+r < q * k+k:=by omega
      _=(q+1) * k:=by rw[Nat.add_mul,Nat.one_mul]
      _≤_:=Nat.mul_le_mul_right _ hq
    refine⟨_,hcc i hi,fun E=>?_⟩
    rw[e1,h1 r e2]
    exact h2 r v e4 E
   ·simp only[VRel]
    exact⟨(b,off,0),by rw[hE];rfl,rfl,hcap,fun h=>by cases h⟩
def EnV (w:Go.World) (V:Value) (es:List En):Prop:=qt9 w 4 (es.map celE) V
def ClV (w:Go.World) (V:Value) (cs:List Cl):Prop:=qt9 w 8 (cs.map clL) V
def LyV (w:Go.World) (V:Value) (im:List (List En)):Prop:=(V=.slice none 0 0∧im=[])∨∃ a cap,V=.slice (some a) im.length cap∧im.length≤cap∧∀ (k:Nat) (es:List En),im[k]?=some es→∃ U,w.cell? (a.add k)=some U∧EnV w U es
def BlkOk (w:Go.World) (b:Blk):Prop:=∀ p cs,b=some (p,cs)→∃ C el fz,w.heap[p.1]?=some (.cells C el fz)∧∀ (i:Nat) (v:AV),cs[i]?=some v→∃ X,C[p.2.1+i]?=some X∧∀ E:Em,VRel E v X
theorem qah:∀ {es:List En},(es.map celE).flatten=Qm es
 | []=>rfl
 | e::l=>by
  rw[List.map_cons,List.flatten_cons,qah]
  rfl
theorem qub {w:Go.World} {es:List En} {V:Value} (h:EnV w V es) (id:Nat):∃ (A:AV) (blk:Blk),BlkOk w blk∧(∀ E:Em,E id=blk.map (·.1)→VRel E A V)∧(∀ s:St,s.h.get id=blk.map (fun q=>AO.old q.2)→EsV s A es)∧qu2 A∧A.cells=[A]∧A.one=true:=by
 obtain⟨A,blk,h1,h2,h3⟩:=qd0 (by decide) h id
 refine⟨A,blk,h1,h2,?_⟩
 rcases h3 with⟨a,c,rfl,h4,rfl⟩|⟨cap,p,rfl,h4,rfl,_⟩
 ·have:es=[]:=by simpa using h4
  subst this
  exact⟨fun s _=>Or.inl ⟨⟨a,c,rfl⟩,rfl⟩,trivial,rfl,rfl⟩
 ·rw[List.length_map] at h4 ⊢
  refine⟨fun s hs=>Or.inr (Or.inr ⟨id,0,0,cap,true,Qm es,.old (Qm es),rfl,?_,Or.inr rfl,KE,fun k e hk=>by rw[Nat.zero_add];exact KS hk⟩),h4,rfl,rfl⟩
  rw[hs,Option.map_some,qah]
def q3q (id:Nat) (b:Blk):List (Nat × AO):=match b with
 | some q=>[(id,.old q.2)]
 | none=>[]
theorem q21 {id i n c:Nat} (h:i < n):qQ TE 44 (.slice id 0 n 0 c true) (.raw (.int .i64 (i:Int)))=some (.ptr id (i * 8)):=by
 have e:qQ TE 44 (.slice id 0 n 0 c true) (.raw (.int .i64 (i:Int)))=(bif Nat.blt i n then some (.ptr id (0+i * 8)) else none):=by kernel_rfl
 rw[e,Nat.blt_eq.mpr h,Nat.zero_add]
 rfl
theorem qto {a:Option Go.Addr} {c:Nat} {L0:List (Nat × AO)}:PkA (.raw (.slice a 0 c)) [] L0:=⟨fun s'=>(by kernel_rfl),rfl,fun i z h=>(by simp at h)⟩
theorem qvk {id n c:Nat}:∀ s',Qv TE s' [44] [.slice id 0 n 0 c true]=some (.raw (.int .i64 (n:Int))):=fun s'=>by kernel_rfl
theorem qo0 {w:Go.World} {cs:List Cl} {V:Value} (h:ClV w V cs) (id:Nat):∃ (A:AV) (blk:Blk),BlkOk w blk∧(∀ E:Em,E id=blk.map (·.1)→VRel E A V)∧∀ L0,(∀ q∈q3q id blk,q∈L0)→PkA A cs L0:=by
 obtain⟨A,blk,h1,h2,h3⟩:=qd0 (by decide) h id
 refine⟨A,blk,h1,h2,fun L0 hL=>?_⟩
 rcases h3 with⟨a,c,rfl,h4,rfl⟩|⟨cap,p,rfl,h4,rfl,hk⟩
 ·have:cs=[]:=by simpa using h4
  subst this
  exact qto
 ·rw[List.length_map] at h4 ⊢
  refine⟨qvk,rfl,fun i c hi=>⟨id,i * 8,_,q21 (List.getElem?_eq_some_iff.mp hi).1,hL _ (List.mem_singleton.2 rfl),qij hk ?_⟩⟩
  rw[List.getElem?_map,hi]
  rfl
theorem qul {w:Go.World} {im:List (List En)} {V:Value} (h:LyV w V im) (id base:Nat):∃ (A:AV) (blk:Blk) (l:List (AV × Blk)),(∀ x∈l,BlkOk w x.2) ∧
  (∀ p cs,blk=some (p,cs)→∃ C el fz,w.heap[p.1]?=some (.cells C el fz)∧∀ E:Em,(∀ (k:Nat) (x:AV × Blk),l[k]?=some x→E (base+k)=x.2.map (·.1))→∀ (i:Nat) (v:AV),cs[i]?=some v→∃ X,C[p.2.1+i]?=some X∧VRel E v X) ∧
  (∀ E:Em,E id=blk.map (·.1)→VRel E A V) ∧
  (∀ s:St,s.h.get id=blk.map (fun q=>AO.old q.2)→(∀ (k:Nat) (x:AV × Blk),l[k]?=some x→s.h.get (base+k)=x.2.map (fun q=>AO.old q.2))→LsV s A im):=by
 rcases h with⟨rfl,rfl⟩|⟨a,cap,rfl,hcap,hc⟩
 ·exact⟨.raw (.slice none 0 0),none,[],fun x hx=>(by cases hx),fun p cs e=>(by cases e),fun E _=>(by simp[VRel]),fun s _ _=>Or.inl ⟨⟨_,_,rfl⟩,rfl⟩⟩
 ·cases im with
  | nil=>exact⟨.raw (.slice (some a) 0 cap),none,[],fun x hx=>(by cases hx),fun p cs e=>(by cases e),fun E _=>(by simp[VRel]),fun s _ _=>Or.inl ⟨⟨_,_,rfl⟩,rfl⟩⟩
  | cons e0 r =>
   obtain⟨l,hl,hQ⟩:=list_of (n:=(e0::r).length) (Q:=fun i (x:AV × Blk)=>∃ es U,(e0::r)[i]?=some es∧w.cell? (a.add i)=some U∧BlkOk w x.2∧(∀ E:Em,E (base+i)=x.2.map (·.1)→VRel E x.1 U)∧(∀ s:St,s.h.get (base+i)=x.2.map (fun q=>AO.old q.2)→EsV s x.1 es)∧qu2 x.1∧x.1.cells=[x.1]∧x.1.one=true) (fun i hi=>by
    obtain⟨U,hU,hE⟩:=hc i _ (List.getElem?_eq_getElem hi)
    obtain⟨A,blk,q1,q2,q3,q4,q5,q6⟩:=qub hE (base+i)
    exact⟨(A,blk),_,U,List.getElem?_eq_getElem hi,hU,q1,q2,q3,q4,q5,q6⟩)
   have hF:∀ i,i < (e0::r).length→w.cell? (a.add i)=some ((w.cell? (a.add i)).getD (.bool true)):=fun i hi=>by
    obtain⟨U,hU,_⟩:=hc i _ (List.getElem?_eq_getElem hi)
    rw[hU]
    rfl
   obtain⟨b,off,C,el,fz,rfl,hO,hcc⟩:=qi6 hF (by simp)
   refine⟨.slice id 0 (e0::r).length 0 cap true,some ((b,off,0),l.map (·.1)),l,fun x hx=>?_,fun p cs e=>?_,fun E hE=>?_,fun s hs hk=>?_⟩
   ·obtain⟨i,hi,rfl⟩:=List.mem_iff_getElem.mp hx
    obtain⟨_,_,_,_,q,_⟩:=hQ i _ (List.getElem?_eq_getElem hi)
    exact q
   ·cases e
    refine⟨C,el,fz,hO,fun E hE i v hv=>?_⟩
    rw[List.getElem?_map] at hv
    cases hx:l[i]? with
    | none=>rw[hx] at hv;cases hv
    | some x =>
     rw[hx] at hv
     cases hv
     obtain⟨es,U,_,hU,_,q2,_⟩:=hQ i x hx
     have hi:i < (e0::r).length:=by rw[← hl];exact (List.getElem?_eq_some_iff.mp hx).1
     refine⟨_,hcc i hi,?_⟩
     rw[hU]
     exact q2 E (hE i x hx)
   ·simp only[VRel]
    exact⟨(b,off,0),by rw[hE];rfl,rfl,hcap,fun h=>by cases h⟩
   ·refine Or.inr (Or.inr ⟨id,0,0,cap,true,l.map (·.1),.old (l.map (·.1)),rfl,by rw[hs];rfl,Or.inr rfl,fun k es hke=>?_⟩)
    have hkl:k < l.length:=by rw[hl];exact (List.getElem?_eq_some_iff.mp hke).1
    have hx:=List.getElem?_eq_getElem hkl
    obtain⟨es',U,he',_,_,_,q3,q4,q5,q6⟩:=hQ k _ hx
    rw[hke] at he'
    cases he'
    refine⟨l[k].1,?_,q3 s (hk k _ hx),q4,q5,q6⟩
    rw[Nat.zero_add,List.getElem?_map,hx]
    rfl
theorem BlkOk.at {w:Go.World} {b:Blk} (h:BlkOk w b) {p:Nat × Nat × Nat} {cs:List AV} (e:b=some (p,cs)) (E:Em):∃ C el fz,w.heap[p.1]?=some (.cells C el fz)∧∀ (i:Nat) (v:AV),cs[i]?=some v→∃ X,C[p.2.1+i]?=some X∧VRel E v X:=by
 obtain⟨C,el,fz,hO,hc⟩:=h p cs e
 exact⟨C,el,fz,hO,fun i v hv=>by
  obtain⟨X,h1,h2⟩:=hc i v hv
  exact⟨X,h1,h2 E⟩⟩
theorem apartWalk {w:Go.World} {vI vA vB:Value} {im:List (List En)} {ca cb:List Cl} (hI:LyV w vI im) (hA:ClV w vA ca) (hC:ClV w vB cb) (hp:∀ es∈im,∀ e∈es,e.1.length≤1048575) (hda:∀ c∈ca,c.data.length≤10000000000000000000) (hdb:∀ c∈cb,c.data.length≤10000000000000000000) :
  Calls Tryz.prog 6 #[.agg #[vI],vA,vB] w fun e w'=>e=.returned (.bool true)∧Below w.heap.size w w':=by
 obtain⟨AI,b0,l,i1,i2,i3,i4⟩:=qul hI 0 3
 obtain⟨AA,b1,a1,a2,a3⟩:=qo0 hA 1
 obtain⟨AB,b2,c1,c2,c3⟩:=qo0 hC 2
 have e3:∀ (k:Nat) (x:AV × Blk),l[k]?=some x→(b0::b1::b2::l.map (·.2))[3+k]?=some x.2:=fun k x hx=>by
  rw[show 3+k=k+1+1+1 from by omega,List.getElem?_cons_succ,List.getElem?_cons_succ,List.getElem?_cons_succ,List.getElem?_map,hx]
  rfl
 have m3:∀ (k:Nat) (x:AV × Blk),l[k]?=some x→emB (b0::b1::b2::l.map (·.2)) (3+k)=x.2.map (·.1):=fun k x hx=>by
  unfold emB
  rw[e3 k x hx]
  rfl
 have hs:Sim w (emB (b0::b1::b2::l.map (·.2))) (stB (b0::b1::b2::l.map (·.2))) w:=by
  refine simB fun j p cs hj=>?_
  match j,hj with
  | 0,hj =>
   have hj:b0=some (p,cs):=by simpa using hj
   obtain⟨C,el,fz,hO,hc⟩:=i2 p cs hj
   exact⟨C,el,fz,hO,hc _ m3⟩
  | 1,hj=>exact a1.at (by simpa using hj) _
  | 2,hj=>exact c1.at (by simpa using hj) _
  | k+3,hj =>
   have hj:(l.map (·.2))[k]?=some (some (p,cs)):=by simpa using hj
   rw[List.getElem?_map] at hj
   cases hx:l[k]? with
   | none=>rw[hx] at hj;cases hj
   | some x =>
    rw[hx] at hj
    have hj:x.2=some (p,cs):=by simpa using hj
    exact (i1 x (List.mem_of_getElem? hx)).at hj _
 have g0:∀ (j:Nat) (b:Blk),(b0::b1::b2::l.map (·.2))[j]?=some b→(stB (b0::b1::b2::l.map (·.2))).h.get j=b.map (fun q=>AO.old q.2):=fun j b hj=>by
  rw[qb1,hj]
  rfl
 refine qpt (args:=[.agg [AI],AA,AB]) (Args:=[.agg #[vI],vA,vB]) hs ?_ (qww ok3 qop (im:=im) (ca:=ca) (cb:=cb) (L0:=q3q 1 b1++q3q 2 b2) (i4 _ (g0 0 b0 rfl) (fun k x hx=>g0 _ _ (e3 k x hx))) hp (a3 _ (fun q hq=>List.mem_append_left _ hq)) (c3 _ (fun q hq=>List.mem_append_right _ hq)) (fun q hq=>?_) hda hdb)
 ·refine VRels.cons ?_ (VRels.cons (a2 _ rfl) (VRels.cons (c2 _ rfl) VRels.nil))
  simp only[VRel]
  exact⟨[vI],VRels.cons (i3 _ rfl) VRels.nil,rfl⟩
 ·rcases List.mem_append.1 hq with hq|hq
  ·have key:=g0 1 b1 rfl
   generalize stB (b0::b1::b2::l.map (·.2))=σ at key ⊢
   cases hb:b1 with
   | none=>rw[hb] at hq;cases hq
   | some y =>
    rw[hb] at hq key
    have hq:=List.mem_singleton.1 hq
    subst hq
    exact⟨key,rfl⟩
  ·have key:=g0 2 b2 rfl
   generalize stB (b0::b1::b2::l.map (·.2))=σ at key ⊢
   cases hb:b2 with
   | none=>rw[hb] at hq;cases hq
   | some y =>
    rw[hb] at hq key
    have hq:=List.mem_singleton.1 hq
    subst hq
    exact⟨key,rfl⟩
end Go.AX
