import Derived.Test.YtkcbaokljkalcaaGreatBy2H1
import Derived.Test.YtkcbaokljkalcaaGreatBy2H6
import Derived.Test.YtkcbaokljkalcaaGreatBy2H8
import Derived.Test.YtkcbaokljkalcaaGreatBy2H0
set_option linter.unusedVariables false
set_option linter.unusedSimpArgs false
set_option linter.defProp false
namespace Go.AX
open Go.Proofs Go.RowKit
set_option maxRecDepth 1000000
set_option linter.unusedSimpArgs false
set_option linter.unusedVariables false
theorem RepM.like {s s':St} {x:Nat} {M:Md} {ι μ:Nat→Nat} (R:RepM s x M ι μ) (h:∀ i o,Own x M ι μ i→s.h.get i=some o→s'.h.get i=some o):RepM s' x M ι μ :=
 ⟨fun k nd hk=>⟨h _ _ (Or.inr ⟨k,Y1 hk,Or.inl rfl⟩) (R.nd k nd hk).1,h _ _ (Or.inr ⟨k,Y1 hk,Or.inr rfl⟩) (R.nd k nd hk).2⟩,h _ _ (Or.inl rfl) R.tr,R.ij,R.mj,R.kd,R.up,R.rt,R.cw,R.f8,R.fd,R.mn,R.da⟩
theorem RepM.own {s:St} {x:Nat} {M:Md} {ι μ:Nat→Nat} (R:RepM s x M ι μ) {i:Nat} (h:Own x M ι μ i):∃ o,s.h.get i=some o:=by
 rcases h with rfl|⟨k,hk,rfl|rfl⟩
 ·exact⟨_,R.tr⟩
 ·obtain⟨nd,hn⟩:=qdp hk
  exact⟨_,(R.nd k nd hn).1⟩
 ·obtain⟨nd,hn⟩:=qdp hk
  exact⟨_,(R.nd k nd hn).2⟩
def qqv (x:Nat) (M:Md) (ι μ:Nat→Nat):List Nat:=x::((List.range M.nodes.length).map ι++(List.range M.nodes.length).map μ)
theorem own_iff {x:Nat} {M:Md} {ι μ:Nat→Nat} {i:Nat}:i∈qqv x M ι μ↔Own x M ι μ i:=by
 unfold qqv Own
 simp only[List.mem_cons,List.mem_append,List.mem_map,List.mem_range]
 constructor
 ·rintro (h|⟨k,hk,rfl⟩|⟨k,hk,rfl⟩)
  ·exact Or.inl h
  ·exact Or.inr ⟨k,hk,Or.inl rfl⟩
  ·exact Or.inr ⟨k,hk,Or.inr rfl⟩
 ·rintro (h|⟨k,hk,rfl|rfl⟩)
  ·exact Or.inl h
  ·exact Or.inr (Or.inl ⟨k,hk,rfl⟩)
  ·exact Or.inr (Or.inr ⟨k,hk,rfl⟩)
def qr1 (s:St) (l:List Nat):List (Nat × AO):=l.filterMap fun i=>(s.h.get i).map fun o=>(i,o)
theorem got_mem {s:St} {l:List Nat} {q:Nat × AO}:q∈qr1 s l↔q.1∈l∧s.h.get q.1=some q.2:=by
 unfold qr1
 rw[List.mem_filterMap]
 constructor
 ·rintro⟨i,hi,h⟩
  cases hg:s.h.get i with
  | none=>rw[hg] at h;cases h
  | some o=>rw[hg] at h;cases h;exact⟨hi,hg⟩
 ·rintro⟨h1,h2⟩
  exact⟨q.1,h1,by rw[h2];rfl⟩
def Two (s:St) (x:Nat) (M:Md) (x':Nat) (M':Md) (L:List (Nat × AO)):Prop:=∃ ι μ,RepM s x' M' ι μ∧World s x M (qr1 s (qqv x' M' ι μ)++L)∧∀ q∈L,¬ Own x' M' ι μ q.1
theorem Two.swap {s:St} {x x':Nat} {M M':Md} {L:List (Nat × AO)} (h:Two s x M x' M' L):Two s x' M' x M L:=by
 obtain⟨ι',μ',R',⟨hB,ι,μ,R,hL⟩,hn⟩:=h
 have dis:∀ i,Own x' M' ι' μ' i→¬ Own x M ι μ i:=fun i hi=>by
  obtain⟨o,ho⟩:=R'.own hi
  exact (hL (i,o) (List.mem_append_left _ (got_mem.2 ⟨own_iff.2 hi,ho⟩))).2
 refine⟨ι,μ,R,⟨hB,ι',μ',R',fun q hq=>?_⟩,fun q hq=>(hL q (List.mem_append_right _ hq)).2⟩
 rcases List.mem_append.1 hq with hq|hq
 ·obtain⟨h1,h2⟩:=got_mem.1 hq
  exact⟨h2,fun e=>dis _ e (own_iff.1 h1)⟩
 ·exact⟨(hL q (List.mem_append_right _ hq)).1,hn q hq⟩
theorem Two.step {s:St} {x x':Nat} {M M':Md} {L:List (Nat × AO)} (h:Two s x M x' M' L):∃ K,World s x M (K++L)∧∀ s2 M2 L2,World s2 x M2 (K++L2)→(∀ q∈L2,q∈L∨s.nx≤q.1)→Two s2 x M2 x' M' L2:=by
 obtain⟨ι',μ',R',hW,hn⟩:=h
 refine⟨_,hW,fun s2 M2 L2 hW2 hL2=>?_⟩
 have hB:=hW.1
 have R2:RepM s2 x' M' ι' μ':=R'.like (fun i o hi ho=>World.get hW2 (q:=(i,o)) (List.mem_append_left _ (got_mem.2 ⟨own_iff.2 hi,ho⟩)))
 refine⟨ι',μ',R2,hW2.sub (fun q hq=>?_),fun q hq=>?_⟩
 ·rcases List.mem_append.1 hq with hq|hq
  ·obtain⟨h1,h2⟩:=got_mem.1 hq
   obtain⟨o,ho⟩:=R'.own (own_iff.1 h1)
   have h3:=World.get hW2 (q:=(q.1,o)) (List.mem_append_left _ (got_mem.2 ⟨h1,ho⟩))
   simp only at h3
   rw[h2] at h3
   have h3:q.2=o:=by simpa using h3
   refine List.mem_append_left _ (got_mem.2 ⟨h1,?_⟩)
   rw[h3]
   exact ho
  ·exact List.mem_append_right _ hq
 ·rcases hL2 q hq with h|h
  ·exact hn q h
  ·intro ho
   obtain⟨o,hg⟩:=R'.own ho
   have:=hB _ _ hg
   omega
theorem Two.below {s:St} {x x':Nat} {M M':Md} {L:List (Nat × AO)} (h:Two s x M x' M' L):qc s:=by
 obtain⟨_,_,_,hW,_⟩:=h
 exact hW.1
theorem Two.get {s:St} {x x':Nat} {M M':Md} {L:List (Nat × AO)} (h:Two s x M x' M' L) {q:Nat × AO} (hq:q∈L):s.h.get q.1=some q.2:=by
 obtain⟨_,_,_,hW,_⟩:=h
 exact World.get hW (List.mem_append_right _ hq)
theorem Two.lt {s:St} {x x':Nat} {M M':Md} {L:List (Nat × AO)} (h:Two s x M x' M' L) {q:Nat × AO} (hq:q∈L):q.1 < s.nx:=h.below _ _ (h.get hq)
def Tri (s:St) (x1:Nat) (M1:Md) (x2:Nat) (M2:Md) (x3:Nat) (M3:Md) (L:List (Nat × AO)):Prop:=∃ ι μ,RepM s x3 M3 ι μ∧Two s x1 M1 x2 M2 (qr1 s (qqv x3 M3 ι μ)++L)∧∀ q∈L,¬ Own x3 M3 ι μ q.1
theorem Tri.below {s:St} {x1 x2 x3:Nat} {M1 M2 M3:Md} {L:List (Nat × AO)} (h:Tri s x1 M1 x2 M2 x3 M3 L):qc s:=by
 obtain⟨_,_,_,T,_⟩:=h
 exact T.below
theorem Tri.get {s:St} {x1 x2 x3:Nat} {M1 M2 M3:Md} {L:List (Nat × AO)} (h:Tri s x1 M1 x2 M2 x3 M3 L) {q:Nat × AO} (hq:q∈L):s.h.get q.1=some q.2:=by
 obtain⟨_,_,_,T,_⟩:=h
 exact T.get (List.mem_append_right _ hq)
theorem Tri.lt {s:St} {x1 x2 x3:Nat} {M1 M2 M3:Md} {L:List (Nat × AO)} (h:Tri s x1 M1 x2 M2 x3 M3 L) {q:Nat × AO} (hq:q∈L):q.1 < s.nx:=h.below _ _ (h.get hq)
theorem Tri.step {s:St} {x1 x2 x3:Nat} {M1 M2 M3:Md} {L:List (Nat × AO)} (h:Tri s x1 M1 x2 M2 x3 M3 L):∃ K,World s x1 M1 (K++L)∧∀ s' M' L',World s' x1 M' (K++L')→(∀ q∈L',q∈L∨s.nx≤q.1)→Tri s' x1 M' x2 M2 x3 M3 L':=by
 obtain⟨ι,μ,R,T,hn⟩:=h
 have hB:=T.below
 obtain⟨K,hW,hS⟩:=T.step
 refine⟨K++qr1 s (qqv x3 M3 ι μ),by rw[List.append_assoc];exact hW,fun s' M' L' hW' hL'=>?_⟩
 rw[List.append_assoc] at hW'
 have R':RepM s' x3 M3 ι μ:=R.like (fun i o hi ho=>World.get hW' (q:=(i,o)) (List.mem_append_right _ (List.mem_append_left _ (got_mem.2 ⟨own_iff.2 hi,ho⟩))))
 have same:∀ q,q∈qr1 s' (qqv x3 M3 ι μ)→q∈qr1 s (qqv x3 M3 ι μ):=fun q hq=>by
  obtain⟨h1,h2⟩:=got_mem.1 hq
  obtain⟨o,ho⟩:=R.own (own_iff.1 h1)
  have h3:=World.get hW' (q:=(q.1,o)) (List.mem_append_right _ (List.mem_append_left _ (got_mem.2 ⟨h1,ho⟩)))
  simp only at h3
  rw[h2] at h3
  have h3:q.2=o:=by simpa using h3
  exact got_mem.2 ⟨h1,by rw[h3];exact ho⟩
 refine⟨ι,μ,R',hS s' M' _ (hW'.sub (fun q hq=>?_)) (fun q hq=>?_),fun q hq=>?_⟩
 ·rcases List.mem_append.1 hq with hq|hq
  ·exact List.mem_append_left _ hq
  ·rcases List.mem_append.1 hq with hq|hq
   ·exact List.mem_append_right _ (List.mem_append_left _ (same q hq))
   ·exact List.mem_append_right _ (List.mem_append_right _ hq)
 ·rcases List.mem_append.1 hq with hq|hq
  ·exact Or.inl (List.mem_append_left _ (same q hq))
  ·rcases hL' q hq with h|h
   ·exact Or.inl (List.mem_append_right _ h)
   ·exact Or.inr h
 ·rcases hL' q hq with h|h
  ·exact hn q h
  ·intro ho
   obtain⟨o,hg⟩:=R.own ho
   have:=hB _ _ hg
   omega
theorem Tri.turn {s:St} {x1 x2 x3:Nat} {M1 M2 M3:Md} {L:List (Nat × AO)} (h:Tri s x1 M1 x2 M2 x3 M3 L):Tri s x3 M3 x2 M2 x1 M1 L:=by
 obtain⟨ι3,μ3,R3,⟨ι2,μ2,R2,⟨hB,ι1,μ1,R1,hL⟩,n2⟩,n3⟩:=h
 have d12:∀ i,Own x2 M2 ι2 μ2 i→¬ Own x1 M1 ι1 μ1 i:=fun i hi=>by
  obtain⟨o,ho⟩:=R2.own hi
  exact (hL (i,o) (List.mem_append_left _ (got_mem.2 ⟨own_iff.2 hi,ho⟩))).2
 have d13:∀ i,Own x3 M3 ι3 μ3 i→¬ Own x1 M1 ι1 μ1 i:=fun i hi=>by
  obtain⟨o,ho⟩:=R3.own hi
  exact (hL (i,o) (List.mem_append_right _ (List.mem_append_left _ (got_mem.2 ⟨own_iff.2 hi,ho⟩)))).2
 have d23:∀ i,Own x3 M3 ι3 μ3 i→¬ Own x2 M2 ι2 μ2 i:=fun i hi=>by
  obtain⟨o,ho⟩:=R3.own hi
  exact n2 (i,o) (List.mem_append_left _ (got_mem.2 ⟨own_iff.2 hi,ho⟩))
 refine⟨ι1,μ1,R1,⟨ι2,μ2,R2,⟨hB,ι3,μ3,R3,fun q hq=>?_⟩,fun q hq=>?_⟩,fun q hq=>(hL q (List.mem_append_right _ (List.mem_append_right _ hq))).2⟩
 ·rcases List.mem_append.1 hq with hq|hq
  ·obtain⟨h1,h2⟩:=got_mem.1 hq
   exact⟨h2,fun e=>d23 _ e (own_iff.1 h1)⟩
  ·rcases List.mem_append.1 hq with hq|hq
   ·obtain⟨h1,h2⟩:=got_mem.1 hq
    exact⟨h2,fun e=>d13 _ e (own_iff.1 h1)⟩
   ·exact⟨(hL q (List.mem_append_right _ (List.mem_append_right _ hq))).1,n3 q hq⟩
 ·rcases List.mem_append.1 hq with hq|hq
  ·obtain⟨h1,h2⟩:=got_mem.1 hq
   exact fun e=>d12 _ e (own_iff.1 h1)
  ·exact n2 q (List.mem_append_right _ hq)
theorem RepM.extT {s s':St} {x:Nat} {M:Md} {ι μ:Nat→Nat} (R:RepM s x M ι μ) (hB:qc s) (hE:Ext s s'):RepM s' x M ι μ:=R.like (fun i o _ ho=>(hE.2 i (hB _ _ ho)).trans ho)
set_option maxHeartbeats 400000000
theorem World.putA {s:St} {x:Nat} {M:Md} {L:List (Nat × AO)} (h:World s x M L) (o o':AO):World { h:=(s.alloc o).h.set s.nx o',nx:=s.nx+1 } x M ((s.nx,o')::L) :=
 (World.alloc h o).set (fun q hq=>Nat.ne_of_lt (World.lt h hq)) o'
theorem WorldF.sub {b:Nat} {s:St} {x:Nat} {M:Md} {L L':List (Nat × AO)} (h:WorldF b s x M L) (hs:∀ q∈L',q∈L):WorldF b s x M L':=by
 obtain⟨hB,hx,ι,μ,R,hf,hL⟩:=h
 exact⟨hB,hx,ι,μ,R,hf,fun q hq=>hL q (hs q hq)⟩
theorem WorldF.alloc {b:Nat} {s:St} {x:Nat} {M:Md} {L:List (Nat × AO)} (h:WorldF b s x M L) (o:AO):WorldF b (s.alloc o) x M ((s.nx,o)::L):=by
 obtain⟨hB,hx,ι,μ,R,hf,hL⟩:=h
 refine⟨qx hB o,hx,ι,μ,R.extT hB (Ext.alloc s o),hf,fun q hq=>?_⟩
 rcases List.mem_cons.1 hq with rfl|hq
 ·refine⟨qu,fun e=>?_⟩
  obtain⟨o',ho⟩:=R.own e
  have:=hB _ _ ho
  simp only at this
  omega
 ·obtain⟨h1,h2⟩:=hL q hq
  exact⟨((Ext.alloc s o).2 _ (hB _ _ h1)).trans h1,h2⟩
theorem WorldF.withU {b:Nat} {s:St} {x:Nat} {M:Md} {L:List (Nat × AO)} (h:WorldF b s x M L) {i:Nat} {o:AO} (hi:s.h.get i=some o) (ho:X7 o=true):WorldF b s x M ((i,o)::L):=by
 obtain⟨hB,hx,ι,μ,R,hf,hq⟩:=h
 refine⟨hB,hx,ι,μ,R,hf,fun q hm=>?_⟩
 rcases List.mem_cons.1 hm with rfl|hm
 ·refine⟨hi,?_⟩
  rintro (e|⟨k,hk,e|e⟩)
  ·have e:i=x:=e
   subst e
   rw[R.tr] at hi
   cases hi
   cases ho
  ·have e:i=ι k:=e
   subst e
   obtain⟨nd,hn⟩:=qdp hk
   have:=(R.nd k nd hn).1
   rw[this] at hi
   cases hi
   cases ho
  ·have e:i=μ k:=e
   subst e
   obtain⟨nd,hn⟩:=qdp hk
   have h2:s.h.get (μ k)=_:=(R.nd k nd hn).2
   rw[h2] at hi
   cases hi
   cases ho
 ·exact hq q hm
theorem Tri.alloc {s:St} {x1 x2 x3:Nat} {M1 M2 M3:Md} {L:List (Nat × AO)} (h:Tri s x1 M1 x2 M2 x3 M3 L) (o o':AO):Tri { h:=(s.alloc o).h.set s.nx o',nx:=s.nx+1 } x1 M1 x2 M2 x3 M3 ((s.nx,o')::L):=by
 obtain⟨K,hW,hS⟩:=h.step
 refine hS _ _ _ ((World.putA hW o o').sub (fun q hq=>?_)) (fun q hq=>?_)
 ·simp only[List.mem_append,List.mem_cons] at hq ⊢
  rcases hq with hq|hq|hq
  ·exact Or.inr (Or.inl hq)
  ·exact Or.inl hq
  ·exact Or.inr (Or.inr hq)
 ·rcases List.mem_cons.1 hq with rfl|hq
  ·exact Or.inr (Nat.le_refl _)
  ·exact Or.inl hq
theorem Tri.ext {s s':St} {x1 x2 x3:Nat} {M1 M2 M3:Md} {L:List (Nat × AO)} (h:Tri s x1 M1 x2 M2 x3 M3 L) (hE:Ext s s') (hB':qc s'):Tri s' x1 M1 x2 M2 x3 M3 L:=by
 obtain⟨K,hW,hS⟩:=h.step
 exact hS _ _ _ (hW.ext hE hB') (fun q hq=>Or.inl hq)
theorem Tri.sub {s:St} {x1 x2 x3:Nat} {M1 M2 M3:Md} {L L':List (Nat × AO)} (h:Tri s x1 M1 x2 M2 x3 M3 L) (hs:∀ q∈L',q∈L):Tri s x1 M1 x2 M2 x3 M3 L':=by
 obtain⟨K,hW,hS⟩:=h.step
 refine hS _ _ _ (hW.sub (fun q hq=>?_)) (fun q hq=>Or.inl (hs q hq))
 rcases List.mem_append.1 hq with hq|hq
 ·exact List.mem_append_left _ hq
 ·exact List.mem_append_right _ (hs q hq)
theorem RepM.plain {s:St} {x:Nat} {M:Md} {ι μ:Nat→Nat} (R:RepM s x M ι μ) {i:Nat} {o:AO} (hi:s.h.get i=some o) (ho:X7 o=true):¬ Own x M ι μ i:=by
 rintro (rfl|⟨k,hk,rfl|rfl⟩)
 ·rw[R.tr] at hi
  cases hi
  cases ho
 ·obtain⟨nd,hn⟩:=qdp hk
  rw[(R.nd k nd hn).1] at hi
  cases hi
  cases ho
 ·obtain⟨nd,hn⟩:=qdp hk
  have h2:s.h.get (μ k)=_:=(R.nd k nd hn).2
  rw[h2] at hi
  cases hi
  cases ho
theorem World.withL {s:St} {x:Nat} {M:Md} {L:List (Nat × AO)} (h:World s x M L) {L':List (Nat × AO)} (hL:∀ q∈L',s.h.get q.1=some q.2∧X7 q.2=true):World s x M (L'++L):=by
 obtain⟨hB,ι,μ,R,hq⟩:=h
 refine⟨hB,ι,μ,R,fun q hm=>?_⟩
 rcases List.mem_append.1 hm with hm|hm
 ·exact⟨(hL q hm).1,R.plain (hL q hm).1 (hL q hm).2⟩
 ·exact hq q hm
theorem Two.withL {s:St} {x x':Nat} {M M':Md} {L:List (Nat × AO)} (h:Two s x M x' M' L) {L':List (Nat × AO)} (hL:∀ q∈L',s.h.get q.1=some q.2∧X7 q.2=true):Two s x M x' M' (L'++L):=by
 obtain⟨ι,μ,R,hW,hn⟩:=h
 refine⟨ι,μ,R,(hW.withL hL).sub (fun q hq=>?_),fun q hq=>?_⟩
 ·simp only[List.mem_append] at hq ⊢
  rcases hq with hq|hq|hq
  ·exact Or.inr (Or.inl hq)
  ·exact Or.inl hq
  ·exact Or.inr (Or.inr hq)
 ·rcases List.mem_append.1 hq with hq|hq
  ·exact R.plain (hL q hq).1 (hL q hq).2
  ·exact hn q hq
theorem Tri.withL {s:St} {x1 x2 x3:Nat} {M1 M2 M3:Md} {L:List (Nat × AO)} (h:Tri s x1 M1 x2 M2 x3 M3 L) {L':List (Nat × AO)} (hL:∀ q∈L',s.h.get q.1=some q.2∧X7 q.2=true):Tri s x1 M1 x2 M2 x3 M3 (L'++L):=by
 obtain⟨ι,μ,R,T,hn⟩:=h
 obtain⟨ι2,μ2,R2,hW,n2⟩:=T.withL hL
 have sub:∀ q,q∈qr1 s (qqv x3 M3 ι μ)++(L'++L)→q∈L'++(qr1 s (qqv x3 M3 ι μ)++L):=fun q hq=>by
  simp only[List.mem_append] at hq ⊢
  rcases hq with hq|hq|hq
  ·exact Or.inr (Or.inl hq)
  ·exact Or.inl hq
  ·exact Or.inr (Or.inr hq)
 refine⟨ι,μ,R,⟨ι2,μ2,R2,hW.sub (fun q hq=>?_),fun q hq=>n2 q (sub q hq)⟩,fun q hq=>?_⟩
 ·rcases List.mem_append.1 hq with hq|hq
  ·exact List.mem_append_left _ hq
  ·exact List.mem_append_right _ (sub q hq)
 ·rcases List.mem_append.1 hq with hq|hq
  ·exact R.plain (hL q hq).1 (hL q hq).2
  ·exact hn q hq
theorem SlV.hold {s:St} {V:AV} {names:List (List Nat)} (h:SlV s V names):∃ LS:List (Nat × AO),(∀ q∈LS,s.h.get q.1=some q.2∧X7 q.2=true)∧∀ s',(∀ q∈LS,s'.h.get q.1=some q.2)→SlV s' V names:=by
 rcases h with h|h|⟨id,off,ci,cap,ex,cs,fz,h1,h2,h3⟩
 ·exact⟨[],fun q hq=>(by cases hq),fun s' _=>Or.inl h⟩
 ·exact⟨[],fun q hq=>(by cases hq),fun s' _=>Or.inr (Or.inl h)⟩
 ·refine⟨[(id,.cells cs 9 fz)],fun q hq=>?_,fun s' hs=>Or.inr (Or.inr ⟨id,off,ci,cap,ex,cs,fz,h1,hs _ (List.mem_singleton.2 rfl),h3⟩)⟩
  rw[List.mem_singleton.1 hq]
  exact⟨h2,rfl⟩
theorem SlV.beqA {s:St} {V:AV} {names:List (List Nat)} (h:SlV s V names):beqA V V=true:=by
 rcases h with⟨rfl,rfl⟩|⟨id,off,ci,l,z,rfl,rfl⟩|⟨id,off,ci,cap,ex,cs,fz,rfl,_⟩ <;> simp[Go.AX.beqA,qub]
abbrev Blk:=Option ((Nat × Nat × Nat) × List AV)
def qtu:Nat→List Blk→Tr AO
 | _,[]=>.e
 | j,none::l=>qtu (j+1) l
 | j,some q::l=>(qtu (j+1) l).set j (.old q.2)
theorem qcn:∀ {l:List Blk} {j i:Nat},(qtu j l).get i=if i < j then none else (l[i - j]?).join.map (fun q=>AO.old q.2)
 | [],j,i=>by simp[qtu,Tr.get]
 | none::l,j,i=>by
  rw[qtu,qcn]
  by_cases h1:i < j
  ·rw[if_pos (by omega),if_pos h1]
  ·rw[if_neg h1]
   by_cases h2:i=j
   ·subst h2
    rw[if_pos (by omega)]
    simp
   ·rw[if_neg (by omega),show i - j=(i - (j+1))+1 from by omega,List.getElem?_cons_succ]
 | some q::l,j,i=>by
  rw[qtu,Tr.get_set,qcn]
  by_cases h2:i=j
  ·subst h2
   rw[if_pos rfl,if_neg (by omega)]
   simp
  ·rw[if_neg h2]
   by_cases h1:i < j
   ·rw[if_pos (by omega),if_pos h1]
   ·rw[if_neg (by omega),if_neg h1,show i - j=(i - (j+1))+1 from by omega,List.getElem?_cons_succ]
def stB (B:List Blk):St:={ h:=qtu 0 B,nx:=B.length }
def emB (B:List Blk):Em:=fun i=>(B[i]?).join.map (·.1)
theorem qb9 {B:List Blk} {i:Nat}:(stB B).h.get i=(B[i]?).join.map (fun q=>AO.old q.2):=by
 show (qtu 0 B).get i=_
 rw[qcn,if_neg (by omega),Nat.sub_zero]
theorem join_at {B:List Blk} {i:Nat} {q:(Nat × Nat × Nat) × List AV}:(B[i]?).join=some q↔B[i]?=some (some q):=by
 cases h:B[i]? with
 | none=>simp
 | some x=>simp
theorem qmz {B:List Blk}:qc (stB B):=by
 intro i o h
 rw[qb9] at h
 cases hj:(B[i]?).join with
 | none=>rw[hj] at h;cases h
 | some q=>exact (List.getElem?_eq_some_iff.mp (join_at.1 hj)).1
theorem simB {w:Go.World} {B:List Blk} (h:∀ (j:Nat) (p:Nat × Nat × Nat) (cs:List AV),B[j]?=some (some (p,cs))→∃ C el fz,w.heap[p.1]?=some (.cells C el fz)∧∀ (i:Nat) (v:AV),cs[i]?=some v→∃ X,C[p.2.1+i]?=some X∧VRel (emB B) v X):Sim w (emB B) (stB B) w:=by
 refine⟨fun id o ho=>?_,fun id id' o o' p p' h1 h2 _ _ _=>Or.inr ?_,fun id p hp=>?_,Below.refl _ w⟩
 ·rw[qb9] at ho
  cases hj:(B[id]?).join with
  | none=>rw[hj] at ho;cases ho
  | some q =>
   rw[hj] at ho
   cases ho
   obtain⟨p,cs⟩:=q
   obtain⟨C,el,fz,hO,hc⟩:=h id p cs (join_at.1 hj)
   refine⟨p,_,by unfold emB;rw[hj];rfl,hO,?_,Or.inr ⟨_,rfl⟩⟩
   simp only[ORel]
   exact⟨C,el,fz,rfl,hc⟩
 ·rw[qb9] at h1 h2
  constructor
  ·cases hj:(B[id]?).join with
   | none=>rw[hj] at h1;cases h1
   | some q=>rw[hj] at h1;cases h1;exact⟨_,rfl⟩
  ·cases hj:(B[id']?).join with
   | none=>rw[hj] at h2;cases h2
   | some q=>rw[hj] at h2;cases h2;exact⟨_,rfl⟩
 ·unfold emB at hp
  cases hj:(B[id]?).join with
  | none=>rw[hj] at hp;cases hp
  | some q=>exact (List.getElem?_eq_some_iff.mp (join_at.1 hj)).1
def RdVal (cs:List AV) (F:Nat→Value):Prop:=∀ r v,cs[r]?=some v→∀ E:Em,VRel E v (F r)
def qvn (w:Go.World) (k:Nat) (cel:List (List AV)) (V:Value):Prop:=(V=.slice none 0 0∧cel=[])∨∃ a cap,V=.slice (some a) cel.length cap∧cel.length≤cap∧∀ i c,cel[i]?=some c→c.length=k∧∃ F:Nat→Value,(∀ r,r < k→w.cell? (a.add (i * k+r))=some (F r))∧RdVal c F
theorem qjj {k:Nat} (hk:0 < k):∀ {cel:List (List AV)} {i:Nat} {v:AV},(∀ c∈cel,c.length=k)→cel.flatten[i]?=some v→∃ q r c,i=q * k+r∧r < k∧cel[q]?=some c∧c[r]?=some v
 | [],i,v,_,h=>by simp at h
 | c::l,i,v,hl,h=>by
  rw[List.flatten_cons] at h
  have hc:=hl c (List.mem_cons_self ..)
  by_cases hi:i < k
  ·rw[List.getElem?_append_left (by omega)] at h
   exact⟨0,i,c,by omega,hi,rfl,h⟩
  ·rw[List.getElem?_append_right (by omega),hc] at h
   obtain⟨q,r,c',e1,e2,e3,e4⟩:=qjj hk (fun c hc=>hl c (List.mem_cons_of_mem _ hc)) h
   exact⟨q+1,r,c',by rw[Nat.add_mul,Nat.one_mul];omega,e2,by simpa using e3,e4⟩
theorem qdb {w:Go.World} {k:Nat} (hk:0 < k) {cel:List (List AV)} {V:Value} (h:qvn w k cel V) (id:Nat):∃ (A:AV) (blk:Blk),
  (∀ p cs,blk=some (p,cs)→∃ C el fz,w.heap[p.1]?=some (.cells C el fz)∧∀ (i:Nat) (v:AV),cs[i]?=some v→∃ X,C[p.2.1+i]?=some X∧∀ E:Em,VRel E v X) ∧
  (∀ E:Em,E id=blk.map (·.1)→VRel E A V) ∧
  ((∃ a c,A=.raw (.slice a 0 c)∧cel=[]∧blk=none)∨∃ cap p,A=.slice id 0 cel.length 0 cap true∧cel.length≤cap∧blk=some (p,cel.flatten)∧(∀ c∈cel,c.length=k)):=by
 rcases h with⟨rfl,rfl⟩|⟨a,cap,rfl,hcap,hc⟩
 ·exact⟨.raw (.slice none 0 0),none,fun p cs e=>(by cases e),fun E _=>(by simp[VRel]),Or.inl ⟨_,_,rfl,rfl,rfl⟩⟩
 ·cases cel with
  | nil=>exact⟨.raw (.slice (some a) 0 cap),none,fun p cs e=>(by cases e),fun E _=>(by simp[VRel]),Or.inl ⟨_,_,rfl,rfl,rfl⟩⟩
  | cons c0 l =>
   have hl:∀ c∈c0::l,c.length=k:=fun c hm=>by
    obtain⟨i,hi,rfl⟩:=List.mem_iff_getElem.mp hm
    exact (hc i _ (List.getElem?_eq_getElem hi)).1
   have hF:∀ i,i < (c0::l).length * k→w.cell? (a.add i)=some ((w.cell? (a.add i)).getD (.bool true)):=fun i hi=>by
    have hq:i / k < (c0::l).length:=Nat.div_lt_of_lt_mul (by rw[Nat.mul_comm];exact hi)
    obtain⟨_,F,h1,_⟩:=hc (i / k) _ (List.getElem?_eq_getElem hq)
    have:=h1 (i % k) (Nat.mod_lt _ hk)
    rw[show i / k * k+i % k=i from by rw[Nat.mul_comm];exact Nat.div_add_mod i k] at this
    rw[this]
    rfl
   obtain⟨b,off,C,el,fz,rfl,hO,hcc⟩:=qi3 hF (by simp only[List.length_cons];exact Nat.mul_pos (Nat.succ_pos _) hk)
   refine⟨.slice id 0 (c0::l).length 0 cap true,some ((b,off,0),(c0::l).flatten),fun p cs e=>?_,fun E hE=>?_,Or.inr ⟨cap,_,rfl,hcap,rfl,hl⟩⟩
   ·cases e
    refine⟨C,el,fz,hO,fun i v hv=>?_⟩
    obtain⟨q,r,c,e1,e2,e3,e4⟩:=qjj hk hl hv
    obtain⟨_,F,h1,h2⟩:=hc q c e3
    have hq:=(List.getElem?_eq_some_iff.mp e3).1
    have hi:i < (c0::l).length * k:=by
     rw[e1]
     calc q * k+r < q * k+k:=by omega
      _=(q+1) * k:=by rw[Nat.add_mul,Nat.one_mul]
      _≤_:=Nat.mul_le_mul_right _ hq
    refine⟨_,hcc i hi,fun E=>?_⟩
    rw[e1,h1 r e2]
    exact h2 r v e4 E
   ·simp only[VRel]
    exact⟨(b,off,0),by rw[hE];rfl,rfl,hcap,fun h=>by cases h⟩
def EnV (w:Go.World) (V:Value) (es:List En):Prop:=qvn w 4 (es.map celE) V
def LyV (w:Go.World) (V:Value) (im:List (List En)):Prop:=(V=.slice none 0 0∧im=[])∨∃ a cap,V=.slice (some a) im.length cap∧im.length≤cap∧∀ (k:Nat) (es:List En),im[k]?=some es→∃ U,w.cell? (a.add k)=some U∧EnV w U es
def BlkOk (w:Go.World) (b:Blk):Prop:=∀ p cs,b=some (p,cs)→∃ C el fz,w.heap[p.1]?=some (.cells C el fz)∧∀ (i:Nat) (v:AV),cs[i]?=some v→∃ X,C[p.2.1+i]?=some X∧∀ E:Em,VRel E v X
theorem WX:∀ {es:List En},(es.map celE).flatten=Q8 es
 | []=>rfl
 | e::l=>by
  rw[List.map_cons,List.flatten_cons,WX]
  rfl
theorem qx7 {w:Go.World} {es:List En} {V:Value} (h:EnV w V es) (id:Nat):∃ (A:AV) (blk:Blk),BlkOk w blk∧(∀ E:Em,E id=blk.map (·.1)→VRel E A V)∧(∀ s:St,s.h.get id=blk.map (fun q=>AO.old q.2)→EsV s A es)∧qp4 A∧A.cells=[A]∧A.one=true:=by
 obtain⟨A,blk,h1,h2,h3⟩:=qdb (by decide) h id
 refine⟨A,blk,h1,h2,?_⟩
 rcases h3 with⟨a,c,rfl,h4,rfl⟩|⟨cap,p,rfl,h4,rfl,_⟩
 ·have:es=[]:=by simpa using h4
  subst this
  exact⟨fun s _=>Or.inl ⟨⟨a,c,rfl⟩,rfl⟩,trivial,rfl,rfl⟩
 ·rw[List.length_map] at h4 ⊢
  refine⟨fun s hs=>Or.inr (Or.inr ⟨id,0,0,cap,true,Q8 es,.old (Q8 es),rfl,?_,Or.inr rfl,W9,fun k e hk=>by rw[Nat.zero_add];exact Kw hk⟩),h4,rfl,rfl⟩
  rw[hs,Option.map_some,WX]
def q81 (id:Nat) (b:Blk):List (Nat × AO):=match b with
 | some q=>[(id,.old q.2)]
 | none=>[]
theorem qyw {w:Go.World} {im:List (List En)} {V:Value} (h:LyV w V im) (id base:Nat):∃ (A:AV) (blk:Blk) (l:List (AV × Blk)),(∀ x∈l,BlkOk w x.2) ∧
  (∀ p cs,blk=some (p,cs)→∃ C el fz,w.heap[p.1]?=some (.cells C el fz)∧∀ E:Em,(∀ (k:Nat) (x:AV × Blk),l[k]?=some x→E (base+k)=x.2.map (·.1))→∀ (i:Nat) (v:AV),cs[i]?=some v→∃ X,C[p.2.1+i]?=some X∧VRel E v X) ∧
  (∀ E:Em,E id=blk.map (·.1)→VRel E A V) ∧
  (∀ s:St,s.h.get id=blk.map (fun q=>AO.old q.2)→(∀ (k:Nat) (x:AV × Blk),l[k]?=some x→s.h.get (base+k)=x.2.map (fun q=>AO.old q.2))→LsV s A im):=by
 rcases h with⟨rfl,rfl⟩|⟨a,cap,rfl,hcap,hc⟩
 ·exact⟨.raw (.slice none 0 0),none,[],fun x hx=>(by cases hx),fun p cs e=>(by cases e),fun E _=>(by simp[VRel]),fun s _ _=>Or.inl ⟨⟨_,_,rfl⟩,rfl⟩⟩
 ·cases im with
  | nil=>exact⟨.raw (.slice (some a) 0 cap),none,[],fun x hx=>(by cases hx),fun p cs e=>(by cases e),fun E _=>(by simp[VRel]),fun s _ _=>Or.inl ⟨⟨_,_,rfl⟩,rfl⟩⟩
  | cons e0 r =>
   obtain⟨l,hl,hQ⟩:=list_of (n:=(e0::r).length) (Q:=fun i (x:AV × Blk)=>∃ es U,(e0::r)[i]?=some es∧w.cell? (a.add i)=some U∧BlkOk w x.2∧(∀ E:Em,E (base+i)=x.2.map (·.1)→VRel E x.1 U)∧(∀ s:St,s.h.get (base+i)=x.2.map (fun q=>AO.old q.2)→EsV s x.1 es)∧qp4 x.1∧x.1.cells=[x.1]∧x.1.one=true) (fun i hi=>by
    obtain⟨U,hU,hE⟩:=hc i _ (List.getElem?_eq_getElem hi)
    obtain⟨A,blk,q1,q2,q3,q4,q5,q6⟩:=qx7 hE (base+i)
    exact⟨(A,blk),_,U,List.getElem?_eq_getElem hi,hU,q1,q2,q3,q4,q5,q6⟩)
   have hF:∀ i,i < (e0::r).length→w.cell? (a.add i)=some ((w.cell? (a.add i)).getD (.bool true)):=fun i hi=>by
    obtain⟨U,hU,_⟩:=hc i _ (List.getElem?_eq_getElem hi)
    rw[hU]
    rfl
   obtain⟨b,off,C,el,fz,rfl,hO,hcc⟩:=qi3 hF (by simp)
   refine⟨.slice id 0 (e0::r).length 0 cap true,some ((b,off,0),l.map (·.1)),l,fun x hx=>?_,fun p cs e=>?_,fun E hE=>?_,fun s hs hk=>?_⟩
   ·obtain⟨i,hi,rfl⟩:=List.mem_iff_getElem.mp hx
    obtain⟨_,_,_,_,q,_⟩:=hQ i _ (List.getElem?_eq_getElem hi)
    exact q
   ·cases e
    refine⟨C,el,fz,hO,fun E hE i v hv=>?_⟩
    rw[List.getElem?_map] at hv
    cases hx:l[i]? with
    | none=>rw[hx] at hv;cases hv
    | some x =>
     rw[hx] at hv
     cases hv
     obtain⟨es,U,_,hU,_,q2,_⟩:=hQ i x hx
     have hi:i < (e0::r).length:=by rw[← hl];exact (List.getElem?_eq_some_iff.mp hx).1
     refine⟨_,hcc i hi,?_⟩
     rw[hU]
     exact q2 E (hE i x hx)
   ·simp only[VRel]
    exact⟨(b,off,0),by rw[hE];rfl,rfl,hcap,fun h=>by cases h⟩
   ·refine Or.inr (Or.inr ⟨id,0,0,cap,true,l.map (·.1),.old (l.map (·.1)),rfl,by rw[hs];rfl,Or.inr rfl,fun k es hke=>?_⟩)
    have hkl:k < l.length:=by rw[hl];exact (List.getElem?_eq_some_iff.mp hke).1
    have hx:=List.getElem?_eq_getElem hkl
    obtain⟨es',U,he',_,_,_,q3,q4,q5,q6⟩:=hQ k _ hx
    rw[hke] at he'
    cases he'
    refine⟨l[k].1,?_,q3 s (hk k _ hx),q4,q5,q6⟩
    rw[Nat.zero_add,List.getElem?_map,hx]
    rfl
theorem BlkOk.at {w:Go.World} {b:Blk} (h:BlkOk w b) {p:Nat × Nat × Nat} {cs:List AV} (e:b=some (p,cs)) (E:Em):∃ C el fz,w.heap[p.1]?=some (.cells C el fz)∧∀ (i:Nat) (v:AV),cs[i]?=some v→∃ X,C[p.2.1+i]?=some X∧VRel E v X:=by
 obtain⟨C,el,fz,hO,hc⟩:=h p cs e
 exact⟨C,el,fz,hO,fun i v hv=>by
  obtain⟨X,h1,h2⟩:=hc i v hv
  exact⟨X,h1,h2 E⟩⟩
end Go.AX
