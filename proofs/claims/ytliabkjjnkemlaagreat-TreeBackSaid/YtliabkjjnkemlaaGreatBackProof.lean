/-
  Proved here: the statement 'Rows.TreeBackSaid': the law TreeBack returns true at every input and leaves all memory that was there as it was.
  Conditions: none but those of the given row.
-/
import Derived.Test.YtliabkjjnkemlaaGreatRows
import Derived.WalkKit
import Derived.ProofKit
import Derived.OpenShut
import Derived.ChangeMaps5
import Derived.ShutString
import Derived.ReadAgain
import Derived.Deep.Slices
import Derived.Test.YtliabkjjnkemlaaGreatBackWalk
namespace Go.Proofs.YtliabkjjnkemlaaGreat.treeBack
open Go.ChangeShapes Go.WideShapes Go.ChangeAt Go.RowKit
set_option linter.unusedVariables false
set_option linter.unusedSimpArgs false

theorem own : ownKnob Tryz.prog.godebug = none := by kernel_rfl
theorem size : Tryz.prog.cellsOf 46 = 8 := by kernel_rfl
theorem fields : ∀ fs : Array Field, Tryz.prog.underlying 46 = some (.struct fs) → fs.toList.map (·.type) = [3, 9, 9, 3, 3, 3, 3, 9] ∧ fs.toList.map (·.offset) = List.range 8 := by
  intro fs h
  rw [Tryz.underlying46] at h
  cases h
  exact ⟨rfl, rfl⟩
theorem ones : Tryz.prog.cellsOf 3 = 1 ∧ Tryz.prog.cellsOf 9 = 1 := ⟨by kernel_rfl, by kernel_rfl⟩
theorem kids : Kids Tryz.prog (· < Tryz.prog.types.size) := kids_rows (by kernel_rfl) (by kernel_rfl)
theorem full : ∀ t e, t < Tryz.prog.types.size → Tryz.prog.underlying t = some (.slice e) → 0 < Tryz.prog.cellsOf e := slices_full_of Tryz.prog (by kernel_rfl)

set_option maxRecDepth 100000 in
theorem contract (H : Type) (enc : TypeId × Value → H) (W : World) (base : Nat) (args : Array Value) (ds gs : List (DataW H)) (before : List MemPlace)
    (hval0 : ∀ (j : Nat) t v, Tryz.f4.params[j]? = some t → args[j]? = some v → Value.okWide Tryz.prog W .any base t v)
    (hW : DataW.Whole enc Tryz.prog Tryz.f4.params.toList Rows.treeBackSpec.vars false W args.toList ds gs before) :
    Calls Tryz.prog 4 args W fun e W' => ∃ v, e = .returned v ∧ Rows.treeBackSpec.post enc Tryz.prog Tryz.f4 false true false false W args v W' := by
  have hval : ∀ (j : Nat) t v, Tryz.f4.params[j]? = some t → args[j]? = some v → Value.okWide Tryz.prog W .any base t v := hval0
  have hW' := hW
  have hlt := hW.lt
  obtain ⟨p, q, hA0, hV, rfl, hfz, hnd⟩ := hW
  have hA : DataW.TrodAll enc Tryz.prog W 0 (fun _ => true) true Tryz.f4.params.toList args.toList ds p := hA0
  rw [Tryz.params4] at hA hval
  obtain ⟨v0, vs0, d0, ds0, p0, q0, hargs, rfl, rfl, h0, r0⟩ := trodAll_cons hA
  obtain ⟨rfl, rfl, rfl⟩ := trodAll_nil r0
  obtain rfl : args = #[v0] := by cases args; simp_all
  obtain ⟨rfl, rfl⟩ := trodVars_none hV
  obtain ⟨a0, len, cap, rfl⟩ := okWide_slice Tryz.underlying39 (hval 0 39 v0 rfl rfl)
  obtain ⟨fuel, hf⟩ := h0
  simp only [List.append_nil] at hW' hA0 hlt
  have hpost : ∀ W', Below W.heap.size W W' → Rows.treeBackSpec.post enc Tryz.prog Tryz.f4 false true false false W #[.slice a0 len cap] (.bool true) W' := by
    intro W' hg
    refine AX.post_of_below (pa := p0) (pv := []) hW' (fun _ _ _ => (trodAll_cons_mk (shut_bool Tryz.underlying4 _) trodAll_mk0)) (fun sp hsp => ?_) (fun _ _ => rfl) (by simp) hg (ok_one (by kernel_rfl) rfl (okWide_bool_mk Tryz.underlying4 _))
    refine AX.args_again kids full (fun t ht => ?_) hA0 hlt hg sp hsp
    rw [Tryz.params4] at ht
    simp only [List.mem_singleton] at ht
    subst ht
    exact of_decide_eq_true (by kernel_rfl)
  have hsl := fun hside => AX.hand_slice Tryz.underlying39 Tryz.underlying46 size hside hf
  rcases hsl (by
    intro j f hj
    match j, hj with
    | 0, hj => cases hj; exact ⟨rfl, ones.1⟩
    | 1, hj => cases hj; exact ⟨rfl, ones.2⟩
    | 2, hj => cases hj; exact ⟨rfl, ones.2⟩
    | 3, hj => cases hj; exact ⟨rfl, ones.1⟩
    | 4, hj => cases hj; exact ⟨rfl, ones.1⟩
    | 5, hj => cases hj; exact ⟨rfl, ones.1⟩
    | 6, hj => cases hj; exact ⟨rfl, ones.1⟩
    | 7, hj => cases hj; exact ⟨rfl, ones.2⟩
    | j + 8, hj => simp at hj
    ) with hcs | ⟨a, len', cap', m, hcs, hl, hx⟩
  · simp [Value.cells] at hcs
    obtain ⟨rfl, rfl, rfl⟩ := hcs
    exact (Go.AX.backWalk0 W).mono fun e W' ⟨he, hg⟩ => ⟨_, he, hpost W' hg⟩
  · simp [Value.cells] at hcs
    obtain ⟨rfl, rfl, rfl⟩ := hcs
    refine (Go.AX.backWalkH (w := W) (a := a) (len := len) (cap := cap) hl (fun i hi => ?_)).mono fun e W' ⟨he, hg⟩ => ⟨_, he, hpost W' hg⟩
    obtain ⟨vs, hvl, hc, ht⟩ := hx i hi
    match vs, hvl, hc, ht with
    | [v0, v1, v2, v3, v4, v5, v6, v7], _, hc, ht =>
      obtain ⟨y0, g0⟩ := ht 0 _ v0 rfl rfl
      obtain ⟨n0, e0, _, _⟩ := DataW.trod_int Tryz.underlying3 g0
      obtain rfl : v0 = _ := by simpa using e0
      obtain ⟨y1, g1⟩ := ht 1 _ v1 rfl rfl
      obtain ⟨n1, e1, _, b1⟩ := DataW.trod_string Tryz.underlying9 g1
      obtain rfl : v1 = _ := by simpa using e1
      obtain ⟨y2, g2⟩ := ht 2 _ v2 rfl rfl
      obtain ⟨n2, e2, _, b2⟩ := DataW.trod_string Tryz.underlying9 g2
      obtain rfl : v2 = _ := by simpa using e2
      obtain ⟨y3, g3⟩ := ht 3 _ v3 rfl rfl
      obtain ⟨n3, e3, _, _⟩ := DataW.trod_int Tryz.underlying3 g3
      obtain rfl : v3 = _ := by simpa using e3
      obtain ⟨y4, g4⟩ := ht 4 _ v4 rfl rfl
      obtain ⟨n4, e4, _, _⟩ := DataW.trod_int Tryz.underlying3 g4
      obtain rfl : v4 = _ := by simpa using e4
      obtain ⟨y5, g5⟩ := ht 5 _ v5 rfl rfl
      obtain ⟨n5, e5, _, _⟩ := DataW.trod_int Tryz.underlying3 g5
      obtain rfl : v5 = _ := by simpa using e5
      obtain ⟨y6, g6⟩ := ht 6 _ v6 rfl rfl
      obtain ⟨n6, e6, _, _⟩ := DataW.trod_int Tryz.underlying3 g6
      obtain rfl : v6 = _ := by simpa using e6
      obtain ⟨y7, g7⟩ := ht 7 _ v7 rfl rfl
      obtain ⟨n7, e7, _, b7⟩ := DataW.trod_string Tryz.underlying9 g7
      obtain rfl : v7 = _ := by simpa using e7
      refine ⟨⟨n0, n1.data.toList.map UInt8.toNat, n2.data.toList.map UInt8.toNat, n3, n4, n5, n6, n7.data.toList.map UInt8.toNat⟩, fun r => ([.int .i64 n0, .string n1, .string n2, .int .i64 n3, .int .i64 n4, .int .i64 n5, .int .i64 n6, .string n7] : List Value).getD r (.bool true), fun r hr => hc r _ (by
        simp only [List.getD_eq_getElem?_getD]
        have : r < ([.int .i64 n0, .string n1, .string n2, .int .i64 n3, .int .i64 n4, .int .i64 n5, .int .i64 n6, .string n7] : List Value).length := hr
        rw [List.getElem?_eq_getElem this]
        rfl), ?_, ?_⟩
      · intro r v hv E
        match r, hv with
        | 0, hv => cases hv; exact (by simp [AX.VRel])
        | 1, hv => cases hv; exact AX.str_vrel n1
        | 2, hv => cases hv; exact AX.str_vrel n2
        | 3, hv => cases hv; exact (by simp [AX.VRel])
        | 4, hv => cases hv; exact (by simp [AX.VRel])
        | 5, hv => cases hv; exact (by simp [AX.VRel])
        | 6, hv => cases hv; exact (by simp [AX.VRel])
        | 7, hv => cases hv; exact AX.str_vrel n7
        | r + 8, hv => cases hv
      · have : n7.data.toList.length = n7.size := by cases n7; rfl
        simp only [List.length_map, this]
        have := b7
        unfold maxLen at this
        omega

/-! ### The row's step -/
set_option maxRecDepth 100000 in
theorem lifted (os : Os) (started : os.Started) (H : Type) (enc : TypeId × Value → H) :
    ReturnsInHanded {} Tryz.checked os 4 .any (Rows.treeBackSpec.pre6 enc Tryz.prog Tryz.f4 Rows.treeBackRow.domain false) (Rows.treeBackSpec.post enc Tryz.prog Tryz.f4 false true false false) := by
  refine returnsInHanded_of_change (C := Tryz.checked) own started (by kernel_rfl) Tryz.func4
    (ChangeSpec.witness6 (enc := enc) (C := Tryz.checked) false ⟨#[], #[.slice none 0 0], []⟩ 8 (by kernel_rfl) (by kernel_rfl) (by kernel_rfl) (by kernel_rfl)) ?_
  intro W base args ds gs before hval hW _ _
  exact contract H enc W base args ds gs before hval hW

theorem over : Rows.treeBackRow.holds Tryz.pinned (OpenSpec.ofChange Rows.treeBackSpec) :=
  OpenClaim.holds_of_wide 4 Tryz.f4 rfl rfl rfl rfl rfl rfl rfl ⟨rfl, rfl, rfl, rfl, rfl⟩ rfl rfl rfl rfl rfl (by kernel_rfl) Tryz.func4 (by kernel_rfl)
    (of_decide_eq_true (by kernel_rfl)) (by unfold Func.isWrapper; first | (rw [if_pos (by decide +kernel)]; kernel_rfl) | (rw [if_neg (by decide +kernel)]; exact ⟨rfl, rfl⟩))
    (fun os started H enc _ => lifted os started H enc)

/-- The statement. -/
theorem proved : Rows.TreeBackSaid :=
  over
#print axioms proved
end Go.Proofs.YtliabkjjnkemlaaGreat.treeBack
