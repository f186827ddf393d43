import Derived.Test.YtliabkjjnkemlaaGreatSC3
set_option linter.unusedVariables false
set_option linter.unusedSimpArgs false
set_option linter.defProp false
namespace Go.AX
open Go.Proofs Go.RowKit
set_option maxRecDepth 1000000
set_option maxHeartbeats 4000000
set_option linter.unusedSimpArgs false
def kidsTo (i : Nat → Nat) (l : List (List Nat × Nat)) : List (List Nat × Nat) := l.map fun q => (q.1, i q.2)
def Nd.to (i : Nat → Nat) (mp : Nat) (nd : Nd) : Nd := { nd with kids := kidsTo i nd.kids, up := nd.up.map i, mp := mp }
theorem to_kids {i : Nat → Nat} {mp : Nat} {nd : Nd} : (nd.to i mp).kids = kidsTo i nd.kids := (rfl)
theorem to_up {i : Nat → Nat} {mp : Nat} {nd : Nd} : (nd.to i mp).up = nd.up.map i := (rfl)
theorem to_name {i : Nat → Nat} {mp : Nat} {nd : Nd} : (nd.to i mp).name = nd.name := (rfl)
theorem to_mp {i : Nat → Nat} {mp : Nat} {nd : Nd} : (nd.to i mp).mp = mp := (rfl)
def Hom (i : Nat → Nat) (T0 T : Nodes) : Prop := ∀ k nd, T0 k = some nd → ∃ mp, T (i k) = some (nd.to i mp)
theorem lookK_to {i : Nat → Nat} {p : List Nat} : ∀ (l : List (List Nat × Nat)), lookK p (kidsTo i l) = (lookK p l).map i
  | [] => rfl
  | (q, j) :: l => by
    have ih := lookK_to (i := i) (p := p) l
    simp only [kidsTo] at ih
    simp only [kidsTo, List.map_cons, lookK]
    cases eqB p q with
    | true => rfl
    | false => exact ih
theorem setK_to {i : Nat → Nat} {p : List Nat} {n : Nat} : ∀ (l : List (List Nat × Nat)), setK p (i n) (kidsTo i l) = kidsTo i (setK p n l)
  | [] => rfl
  | (q, j) :: l => by
    have ih := setK_to (i := i) (p := p) (n := n) l
    simp only [kidsTo] at ih
    simp only [kidsTo, List.map_cons, setK]
    cases eqB p q with
    | true => rfl
    | false => simp only [cond_false, ih, List.map_cons]
theorem sortK_to {i : Nat → Nat} (l : List (List Nat × Nat)) : sortK (kidsTo i l) = sortK l := by
  have e : (kidsTo i l).map (·.1) = l.map (·.1) := by simp [kidsTo]
  unfold sortK
  rw [e]
theorem pathT_to {i : Nat → Nat} {T0 T : Nodes} (H : Hom i T0 T) : ∀ {f k : Nat} {p : List Nat}, pathT T0 f k = some p → pathT T f (i k) = some p
  | 0, _, _, h => by cases h
  | f + 1, k, p, h => by
    simp only [pathT] at h ⊢
    cases hk : T0 k with
    | none => rw [hk] at h; cases h
    | some nd =>
      obtain ⟨mp, hm⟩ := H k nd hk
      rw [hk] at h
      rw [hm]
      simp only [to_up, to_name] at h ⊢
      cases hu : nd.up with
      | none => rw [hu] at h; exact h
      | some u =>
        rw [hu] at h
        simp only [Option.map_some] at h ⊢
        cases hp : pathT T0 f u with
        | none => rw [hp] at h; cases h
        | some q => rw [hp] at h; rw [pathT_to H hp]; exact h
def Mv.to (i : Nat → Nat) (m : Mv) : Mv := ⟨i m.u, m.old, i m.j, i m.v, m.nm, m.y.map i⟩
end Go.AX
namespace Go.AX
open Go.Proofs Go.RowKit
set_option maxRecDepth 1000000
set_option maxHeartbeats 4000000
set_option linter.unusedSimpArgs false
structure Md where
  nodes : List Nd
  root : Nat
  cwd : Nat
  fds : List (Option Nat)
  many : Int
structure An where
  status : Int
  num : Int
  kind : Int
  mode : Int
  data : List Nat
  names : List (List Nat)
def Md.T (M : Md) : Nodes := fun k => M.nodes[k]?
def fdsA (ι : Nat → Nat) (fds : List (Option Nat)) : List (Option Nat) := fds.map (Option.map ι)
structure RepM (s : St) (x : Nat) (M : Md) (ι μ : Nat → Nat) : Prop where
  nd : ∀ k nd, M.T k = some nd → NRep s (ι k) (nd.to ι (μ k))
  tr : s.h.get x = some (trA (ι M.root) (ι M.cwd) (fdsA ι M.fds) M.many)
  ij : ∀ j k, j < M.nodes.length → k < M.nodes.length → ι j = ι k → j = k
  mj : ∀ j k, j < M.nodes.length → k < M.nodes.length → μ j = μ k → j = k
  kd : ∀ k nd, M.T k = some nd → ∀ q ∈ nd.kids, q.2 < M.nodes.length
  up : ∀ k nd u, M.T k = some nd → nd.up = some u → u < M.nodes.length
  rt : M.root < M.nodes.length
  cw : M.cwd < M.nodes.length
  f8 : M.fds.length = 8
  fd : ∀ o ∈ M.fds, ∀ k, o = some k → k < M.nodes.length
  mn : -1000000 ≤ M.many ∧ M.many ≤ 1000000
  da : ∀ k nd, M.T k = some nd → nd.data.length ≤ 40000
def Own (x : Nat) (M : Md) (ι μ : Nat → Nat) (i : Nat) : Prop := i = x ∨ ∃ k, k < M.nodes.length ∧ (i = ι k ∨ i = μ k)
def World (s : St) (x : Nat) (M : Md) (L : List (Nat × AO)) : Prop := Below0 s ∧ ∃ ι μ, RepM s x M ι μ ∧ ∀ q ∈ L, s.h.get q.1 = some q.2 ∧ ¬ Own x M ι μ q.1
theorem T_lt {M : Md} {k : Nat} {nd : Nd} (h : M.T k = some nd) : k < M.nodes.length := by
  unfold Md.T at h
  exact (List.getElem?_eq_some_iff.mp h).1
theorem T_of {M : Md} {k : Nat} (h : k < M.nodes.length) : ∃ nd, M.T k = some nd := ⟨M.nodes[k], List.getElem?_eq_getElem h⟩
open Classical in
noncomputable def tOf (M : Md) (ι μ : Nat → Nat) : Nodes := fun i => if h : ∃ k, k < M.nodes.length ∧ ι k = i then (M.T (Classical.choose h)).map (Nd.to ι (μ (Classical.choose h))) else none
section
variable {s : St} {x : Nat} {M : Md} {ι μ : Nat → Nat} (R : RepM s x M ι μ)
include R
theorem RepM.at {k : Nat} {nd : Nd} (h : M.T k = some nd) : tOf M ι μ (ι k) = some (nd.to ι (μ k)) := by
  have hex : ∃ j, j < M.nodes.length ∧ ι j = ι k := ⟨k, T_lt h, rfl⟩
  have hc := Classical.choose_spec hex
  have e : Classical.choose hex = k := R.ij _ _ hc.1 (T_lt h) hc.2
  unfold tOf
  rw [dif_pos hex, e, h]
  rfl
theorem RepM.inv {i : Nat} {nd' : Nd} (h : tOf M ι μ i = some nd') : ∃ k nd, i = ι k ∧ M.T k = some nd ∧ nd' = nd.to ι (μ k) := by
  by_cases hex : ∃ j, j < M.nodes.length ∧ ι j = i
  · obtain ⟨k, hk, rfl⟩ := hex
    obtain ⟨nd, hn⟩ := T_of hk
    rw [R.at hn] at h
    cases h
    exact ⟨k, nd, rfl, hn, rfl⟩
  · unfold tOf at h
    rw [dif_neg hex] at h
    cases h
theorem RepM.hom : Hom ι M.T (tOf M ι μ) := fun k _ h => ⟨μ k, R.at h⟩
theorem RepM.rep : RepT s (tOf M ι μ) := fun i nd' h => by
  obtain ⟨k, nd, rfl, hn, rfl⟩ := R.inv h
  exact R.nd k nd hn
theorem RepM.inj : ∀ j k nd kd, M.T j = some nd → M.T k = some kd → ι j = ι k → j = k := fun j k _ _ hj hk e => R.ij j k (T_lt hj) (T_lt hk) e
theorem RepM.im {j k : Nat} (hj : j < M.nodes.length) (hk : k < M.nodes.length) : ι j ≠ μ k := by
  intro e
  obtain ⟨jd, hj⟩ := T_of hj
  obtain ⟨kd, hk⟩ := T_of hk
  have h1 := (R.nd j jd hj).1
  have h2 := (R.nd k kd hk).2
  rw [e] at h1
  have h2 : s.h.get (μ k) = _ := h2
  rw [h2] at h1
  cases h1
theorem RepM.xi {k : Nat} (hk : k < M.nodes.length) : ι k ≠ x := by
  intro e
  obtain ⟨kd, hk⟩ := T_of hk
  have h1 := (R.nd k kd hk).1
  rw [e, R.tr] at h1
  simp [ndA, trA] at h1
theorem RepM.xm {k : Nat} (hk : k < M.nodes.length) : μ k ≠ x := by
  intro e
  obtain ⟨kd, hk⟩ := T_of hk
  have h1 : s.h.get (μ k) = _ := (R.nd k kd hk).2
  rw [e, R.tr] at h1
  simp [trA] at h1
theorem RepM.li (hB : Below0 s) {k : Nat} (hk : k < M.nodes.length) : ι k < s.nx := by
  obtain ⟨kd, hk⟩ := T_of hk
  exact hB _ _ (R.nd k kd hk).1
theorem RepM.lm (hB : Below0 s) {k : Nat} (hk : k < M.nodes.length) : μ k < s.nx := by
  obtain ⟨kd, hk⟩ := T_of hk
  exact hB _ _ (R.nd k kd hk).2
theorem RepM.lx (hB : Below0 s) : x < s.nx := hB _ _ R.tr
theorem World.new {s' : St} {M' : Md} {L : List (Nat × AO)} (hB : Below0 s) (hL : ∀ q ∈ L, s.h.get q.1 = some q.2 ∧ ¬ Own x M ι μ q.1) (hB' : Below0 s') (hlen : M'.nodes.length = M.nodes.length)
    (hn : ∀ k nd, M'.T k = some nd → NRep s' (ι k) (nd.to ι (μ k)) ∧ (∀ q ∈ nd.kids, q.2 < M.nodes.length) ∧ (∀ u, nd.up = some u → u < M.nodes.length) ∧ nd.data.length ≤ 40000)
    (hrt : M'.root = M.root) (hcw : M'.cwd < M.nodes.length) (h8 : M'.fds.length = 8) (hfd : ∀ o ∈ M'.fds, ∀ k, o = some k → k < M.nodes.length) (hmn : -1000000 ≤ M'.many ∧ M'.many ≤ 1000000)
    (htr : s'.h.get x = some (trA (ι M'.root) (ι M'.cwd) (fdsA ι M'.fds) M'.many)) (hfr : ∀ i, i < s.nx → ¬ Own x M ι μ i → s'.h.get i = s.h.get i) : World s' x M' L := by
  refine ⟨hB', ι, μ, ⟨fun k nd h => (hn k nd h).1, htr, ?_, ?_, ?_, ?_, ?_, ?_, h8, ?_, hmn, fun k nd h => (hn k nd h).2.2.2⟩, ?_⟩
  · rw [hlen]; exact R.ij
  · rw [hlen]; exact R.mj
  · rw [hlen]; exact fun k nd h => (hn k nd h).2.1
  · rw [hlen]; exact fun k nd u h hu => (hn k nd h).2.2.1 u hu
  · rw [hlen, hrt]; exact R.rt
  · rw [hlen]; exact hcw
  · rw [hlen]; exact hfd
  · intro q hq
    obtain ⟨h1, h2⟩ := hL q hq
    refine ⟨(hfr _ (hB _ _ h1) h2).trans h1, ?_⟩
    unfold Own at h2 ⊢
    rw [hlen]
    exact h2
theorem World.same {s' : St} {L : List (Nat × AO)} (hB : Below0 s) (hL : ∀ q ∈ L, s.h.get q.1 = some q.2 ∧ ¬ Own x M ι μ q.1) (hB' : Below0 s') (he : Ext s s') : World s' x M L := by
  refine World.new R hB hL hB' rfl (fun k nd h => ⟨?_, R.kd k nd h, fun u hu => R.up k nd u h hu, R.da k nd h⟩) rfl R.cw R.f8 R.fd R.mn ((he.2 _ (R.lx hB)).trans R.tr) (fun i hi _ => he.2 i hi)
  have := R.nd k nd h
  exact ⟨(he.2 _ (R.li hB (T_lt h))).trans this.1, (he.2 _ (R.lm hB (T_lt h))).trans this.2⟩
end
theorem World.ext {s s' : St} {x : Nat} {M : Md} {L : List (Nat × AO)} (h : World s x M L) (he : Ext s s') (hB' : Below0 s') : World s' x M L := by
  obtain ⟨hB, ι, μ, R, hL⟩ := h
  exact World.same R hB hL hB' he
end Go.AX
namespace Go.AX
open Go.Proofs Go.RowKit
set_option maxRecDepth 1000000
set_option maxHeartbeats 4000000
set_option linter.unusedSimpArgs false
theorem eight {α : Type} : ∀ {l : List α}, l.length = 8 → ∃ a b c d e f g h, l = [a, b, c, d, e, f, g, h]
  | [a, b, c, d, e, f, g, h], _ => ⟨a, b, c, d, e, f, g, h, rfl⟩
theorem RepM.tr8 {s : St} {x : Nat} {M : Md} {ι μ : Nat → Nat} (R : RepM s x M ι μ) : ∃ f0 f1 f2 f3 f4 f5 f6 f7, ∀ m : Int, trA (ι M.root) (ι M.cwd) (fdsA ι M.fds) m = .cells [.ptr (ι M.root) 0, .ptr (ι M.cwd) 0, f0, f1, f2, f3, f4, f5, f6, f7, .raw (.int .i64 m)] 53 0 := by
  obtain ⟨a, b, c, d, e, f, g, h, hl⟩ := eight R.f8
  rw [hl]
  exact ⟨upA (a.map ι), upA (b.map ι), upA (c.map ι), upA (d.map ι), upA (e.map ι), upA (f.map ι), upA (g.map ι), upA (h.map ι), fun m => rfl⟩
theorem mem_setK {p : List Nat} {n : Nat} : ∀ {l : List (List Nat × Nat)} {q : List Nat × Nat}, q ∈ setK p n l → q.2 = n ∨ q ∈ l
  | [], q, h => by
    simp only [setK, List.mem_singleton] at h
    exact Or.inl (by rw [h])
  | (r, j) :: l, q, h => by
    simp only [setK] at h
    cases he : eqB p r with
    | true =>
      rw [he] at h
      simp only [cond_true, List.mem_cons] at h
      rcases h with rfl | h
      · exact Or.inl rfl
      · exact Or.inr (List.mem_cons_of_mem _ h)
    | false =>
      rw [he] at h
      simp only [cond_false, List.mem_cons] at h
      rcases h with rfl | h
      · exact Or.inr (List.mem_cons_self ..)
      · exact (mem_setK h).imp_right (List.mem_cons_of_mem _)
theorem kidsTo_congr {i j : Nat → Nat} {l : List (List Nat × Nat)} (h : ∀ q ∈ l, i q.2 = j q.2) : kidsTo i l = kidsTo j l := by
  unfold kidsTo
  exact List.map_congr_left fun q hq => by rw [h q hq]
theorem to_congr {i j : Nat → Nat} {mp : Nat} {nd : Nd} (h : ∀ q ∈ nd.kids, i q.2 = j q.2) (h2 : ∀ u, nd.up = some u → i u = j u) : nd.to i mp = nd.to j mp := by
  unfold Nd.to
  rw [kidsTo_congr h]
  cases hu : nd.up with
  | none => rfl
  | some u => simp only [Option.map_some, h2 u hu]
end Go.AX
namespace Go.AX
open Go.Proofs Go.RowKit
set_option maxRecDepth 1000000
set_option maxHeartbeats 4000000
set_option linter.unusedSimpArgs false
theorem World.fds {s s' : St} {x : Nat} {M : Md} {ι μ : Nat → Nat} (R : RepM s x M ι μ) {L : List (Nat × AO)} (hB : Below0 s) (hL : ∀ q ∈ L, s.h.get q.1 = some q.2 ∧ ¬ Own x M ι μ q.1) (hB' : Below0 s') {cwd : Nat} {l : List (Option Nat)} (hc : cwd < M.nodes.length) (h8 : l.length = 8) (hl : ∀ o ∈ l, ∀ k, o = some k → k < M.nodes.length)
    (ht : Turned s s' x (trA (ι M.root) (ι cwd) (fdsA ι l) M.many)) : World s' x { M with cwd := cwd, fds := l } L := by
  refine World.new R hB hL hB' rfl (fun j jd h => ?_) rfl hc h8 hl R.mn ht.2.1 (fun i hi ho => ht.2.2 i hi (fun e => ho (Or.inl e)))
  have h : M.T j = some jd := h
  have old := R.nd j jd h
  have hjl := T_lt h
  exact ⟨⟨(ht.2.2 _ (R.li hB hjl) (R.xi hjl)).trans old.1, (ht.2.2 _ (R.lm hB hjl) (R.xm hjl)).trans old.2⟩, R.kd j jd h, fun u hu => R.up j jd u h hu, R.da j jd h⟩
end Go.AX
namespace Go.AX
open Go.Proofs Go.RowKit
set_option maxRecDepth 1000000
set_option maxHeartbeats 40000000
set_option linter.unusedSimpArgs false
theorem World.alloc {s : St} {x : Nat} {M : Md} {L : List (Nat × AO)} (h : World s x M L) (o : AO) : World (s.alloc o) x M ((s.nx, o) :: L) := by
  obtain ⟨hB, ι, μ, R, hL⟩ := h
  obtain ⟨hB', ι', μ', R', hL'⟩ := World.same R (L := L) hB hL (below_alloc hB o) (Ext.alloc s o)
  refine ⟨below_alloc hB o, ι, μ, ?_, ?_⟩
  · have he := Ext.alloc s o
    exact ⟨fun k nd hk => ⟨(he.2 _ (R.li hB (T_lt hk))).trans (R.nd k nd hk).1, (he.2 _ (R.lm hB (T_lt hk))).trans (R.nd k nd hk).2⟩, (he.2 _ (R.lx hB)).trans R.tr, R.ij, R.mj, R.kd, R.up, R.rt, R.cw, R.f8, R.fd, R.mn, R.da⟩
  · intro q hq
    simp only [List.mem_cons] at hq
    rcases hq with rfl | hq
    · refine ⟨al_same, ?_⟩
      rintro (e | ⟨k, hk, e | e⟩)
      · have := R.lx hB
        simp only at e
        omega
      · have := R.li hB hk
        simp only at e
        omega
      · have := R.lm hB hk
        simp only at e
        omega
    · obtain ⟨h1, h2⟩ := hL q hq
      exact ⟨((Ext.alloc s o).2 _ (hB _ _ h1)).trans h1, h2⟩
theorem World.get {s : St} {x : Nat} {M : Md} {L : List (Nat × AO)} (h : World s x M L) {q : Nat × AO} (hq : q ∈ L) : s.h.get q.1 = some q.2 := by
  obtain ⟨hB, ι, μ, R, hL⟩ := h
  exact (hL q hq).1
theorem World.below {s : St} {x : Nat} {M : Md} {L : List (Nat × AO)} (h : World s x M L) : Below0 s := h.1
theorem World.lt {s : St} {x : Nat} {M : Md} {L : List (Nat × AO)} (h : World s x M L) {q : Nat × AO} (hq : q ∈ L) : q.1 < s.nx := h.1 _ _ (h.get hq)
theorem World.sub {s : St} {x : Nat} {M : Md} {L L' : List (Nat × AO)} (h : World s x M L) (hs : ∀ q ∈ L', q ∈ L) : World s x M L' := by
  obtain ⟨hB, ι, μ, R, hL⟩ := h
  exact ⟨hB, ι, μ, R, fun q hq => hL q (hs q hq)⟩
theorem World.set {s : St} {x : Nat} {M : Md} {L : List (Nat × AO)} {a : Nat} {o : AO} (h : World s x M ((a, o) :: L)) (hne : ∀ q ∈ L, q.1 ≠ a) (o' : AO) : World { s with h := s.h.set a o' } x M ((a, o') :: L) := by
  obtain ⟨hB, ι, μ, R, hL⟩ := h
  obtain ⟨ha, hno⟩ := hL (a, o) (List.mem_cons_self ..)
  have hno : ¬ Own x M ι μ a := hno
  have f : ∀ i, i ≠ a → ({ s with h := s.h.set a o' } : St).h.get i = s.h.get i := fun i hi => hs_ne hi
  have hx : x ≠ a := fun e => hno (Or.inl e.symm)
  have hi : ∀ k, k < M.nodes.length → ι k ≠ a := fun k hk e => hno (Or.inr ⟨k, hk, Or.inl e.symm⟩)
  have hm : ∀ k, k < M.nodes.length → μ k ≠ a := fun k hk e => hno (Or.inr ⟨k, hk, Or.inr e.symm⟩)
  refine ⟨below_set hB (hB _ _ ha) _, ι, μ, ?_, ?_⟩
  · exact ⟨fun k nd hk => ⟨(f _ (hi _ (T_lt hk))).trans (R.nd k nd hk).1, (f _ (hm _ (T_lt hk))).trans (R.nd k nd hk).2⟩, (f _ hx).trans R.tr, R.ij, R.mj, R.kd, R.up, R.rt, R.cw, R.f8, R.fd, R.mn, R.da⟩
  · intro q hq
    simp only [List.mem_cons] at hq
    rcases hq with rfl | hq
    · exact ⟨hs_same, hno⟩
    · obtain ⟨h1, h2⟩ := hL q (List.mem_cons_of_mem _ hq)
      exact ⟨(f _ (hne q hq)).trans h1, h2⟩
theorem SlV.set {s : St} {V : AV} {names : List (List Nat)} (h : SlV s V names) {a : Nat} {cs : List AV} {t z : Nat} (ha : s.h.get a = some (.cells cs t z)) (ht : t ≠ 9) (o : AO) : SlV { s with h := s.h.set a o } V names := by
  rcases h with h | h | ⟨id, off, ci, cap, ex, cs', fz, h1, h2, h3⟩
  · exact Or.inl h
  · exact Or.inr (Or.inl h)
  · refine Or.inr (Or.inr ⟨id, off, ci, cap, ex, cs', fz, h1, (hs_ne ?_).trans h2, h3⟩)
    intro e
    rw [e, ha] at h2
    simp only [Option.some.injEq, AO.cells.injEq] at h2
    exact ht h2.2.1
def outM (M : Md) : Nat ⊕ (An × Md) → An × Md
  | .inl n => (⟨(n : Int), 0, 0, 0, [], []⟩, M)
  | .inr q => q
theorem fr_1' {x : Nat} : fieldAddrA TE 53 (.ptr x 0) 1 = some (.ptr x 1) := by kernel_rfl
end Go.AX
namespace Go.AX
open Go.Proofs Go.RowKit
set_option maxRecDepth 1000000
set_option maxHeartbeats 40000000
set_option linter.unusedSimpArgs false
end Go.AX
