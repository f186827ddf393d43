/-
  Proved here: the statement 'Rows.TreeOfsUptoSaid': the law TreeOfs returns true at every input (of the bulk that the statement names) and leaves all memory that was there as it was.
  Conditions: none but those of the given row.
-/
import Derived.Test.YtliabkjjnkemlaaGreatRows
import Derived.WalkKit
import Derived.ProofKit
import Derived.OpenShut
import Derived.ChangeMaps5
import Derived.ShutString
import Derived.ReadAgain
import Derived.Deep.Slices
import Derived.JoinedCond
import Derived.Test.YtliabkjjnkemlaaGreatSOfsWalk
namespace Go.Proofs.YtliabkjjnkemlaaGreat.treeOfs
open Go.ChangeShapes Go.WideShapes Go.ChangeAt Go.RowKit
set_option linter.unusedVariables false
set_option linter.unusedSimpArgs false
theorem own : ownKnob Tryz.prog.godebug = none := by kernel_rfl
theorem size : Tryz.prog.cellsOf 49 = 4 := by kernel_rfl
theorem fields : ∀ fs : Array Field, Tryz.prog.underlying 49 = some (.struct fs) → fs.toList.map (·.type) = [9, 3, 3, 9] ∧ fs.toList.map (·.offset) = List.range 4 := by
  intro fs h
  rw [Tryz.underlying49] at h
  cases h
  exact ⟨rfl, rfl⟩
theorem ones : Tryz.prog.cellsOf 3 = 1 ∧ Tryz.prog.cellsOf 9 = 1 := ⟨by kernel_rfl, by kernel_rfl⟩
theorem kids : Kids Tryz.prog (· < Tryz.prog.types.size) := kids_rows (by kernel_rfl) (by kernel_rfl)
theorem full : ∀ t e, t < Tryz.prog.types.size → Tryz.prog.underlying t = some (.slice e) → 0 < Tryz.prog.cellsOf e := slices_full_of Tryz.prog (by kernel_rfl)
theorem bulk_two {H : Type} : ∀ {l : List (DataW H)}, (∀ d ∈ l, 2 ≤ Rows.uptoBulk d) → 2 * l.length ≤ Rows.uptoBulkAll l
  | [], _ => Nat.le_refl _
  | a :: l, h => by
    have h1 := bulk_two (l := l) (fun d hd => h d (List.mem_cons_of_mem _ hd))
    have h2 := h a (by simp)
    simp only [Rows.uptoBulkAll, List.length_cons]
    omega
theorem bulk_one {H : Type} {d : DataW H} : 1 ≤ Rows.uptoBulk d := by
  cases d with
  | lit x => cases x <;> simp [Rows.uptoBulk]
  | _ => simp [Rows.uptoBulk]
theorem bulk_mem {H : Type} : ∀ {l : List (DataW H)} {d : DataW H}, d ∈ l → Rows.uptoBulk d ≤ Rows.uptoBulkAll l
  | [], d, h => by cases h
  | a :: l, d, h => by
    simp only [Rows.uptoBulkAll]
    rcases List.mem_cons.mp h with rfl | h
    · omega
    · have := bulk_mem h
      omega
theorem bulk_len {H : Type} : ∀ {l : List (DataW H)}, l.length ≤ Rows.uptoBulkAll l
  | [] => Nat.le_refl _
  | a :: l => by
    have := bulk_len (l := l)
    have := bulk_one (d := a)
    simp only [Rows.uptoBulkAll, List.length_cons]
    omega
set_option maxRecDepth 100000 in
theorem contract (H : Type) (enc : TypeId × Value → H) (W : World) (base : Nat) (args : Array Value) (ds gs : List (DataW H)) (before : List MemPlace)
    (hval0 : ∀ (j : Nat) t v, Tryz.f3.params[j]? = some t → args[j]? = some v → Value.okWide Tryz.prog W .any base t v)
    (hW : DataW.Whole enc Tryz.prog Tryz.f3.params.toList Rows.treeOfsSpec.vars false W args.toList ds gs before) (hsmall : Rows.uptoSmall H (ds ++ gs) = true) :
    Calls Tryz.prog 3 args W fun e W' => ∃ v, e = .returned v ∧ Rows.treeOfsSpec.post enc Tryz.prog Tryz.f3 false true false false W args v W' := by
  have hval : ∀ (j : Nat) t v, Tryz.f3.params[j]? = some t → args[j]? = some v → Value.okWide Tryz.prog W .any base t v := hval0
  have hW' := hW
  have hlt := hW.lt
  obtain ⟨p, q, hA0, hV, rfl, hfz, hnd⟩ := hW
  have hA : DataW.TrodAll enc Tryz.prog W 0 (fun _ => true) true Tryz.f3.params.toList args.toList ds p := hA0
  rw [Tryz.params3] at hA hval
  obtain ⟨v0, vs0, d0, ds0, p0, q0, hargs, rfl, rfl, h0, r0⟩ := trodAll_cons hA
  obtain ⟨rfl, rfl, rfl⟩ := trodAll_nil r0
  obtain rfl : args = #[v0] := by cases args; simp_all
  obtain ⟨rfl, rfl⟩ := trodVars_none hV
  obtain ⟨a0, len, cap, rfl⟩ := okWide_slice Tryz.underlying22 (hval 0 22 v0 rfl rfl)
  obtain ⟨fuel, hf⟩ := h0
  simp only [List.append_nil] at hW' hA0 hlt
  have hpost : ∀ W', Below W.heap.size W W' → Rows.treeOfsSpec.post enc Tryz.prog Tryz.f3 false true false false W #[.slice a0 len cap] (.bool true) W' := by
    intro W' hg
    refine AX.post_of_below (pa := p0) (pv := []) hW' (fun _ _ _ => (trodAll_cons_mk (shut_bool Tryz.underlying4 _) trodAll_mk0)) (fun sp hsp => ?_) (fun _ _ => rfl) (by simp) hg (ok_one (by kernel_rfl) rfl (okWide_bool_mk Tryz.underlying4 _))
    refine AX.args_again kids full (fun t ht => ?_) hA0 hlt hg sp hsp
    rw [Tryz.params3] at ht
    simp only [List.mem_singleton] at ht
    subst ht
    exact of_decide_eq_true (by kernel_rfl)
  have hsl := fun hside => AX.hand_slice2 Tryz.underlying22 Tryz.underlying49 size hside hf
  rcases hsl (by
    intro j f hj
    match j, hj with
    | 0, hj => cases hj; exact ⟨rfl, ones.2⟩
    | 1, hj => cases hj; exact ⟨rfl, ones.1⟩
    | 2, hj => cases hj; exact ⟨rfl, ones.1⟩
    | 3, hj => cases hj; exact ⟨rfl, ones.2⟩
    | j + 4, hj => simp at hj
    ) with hcs | ⟨a, len', cap', m, D, rest, hcs, hl, hD, hx⟩
  · simp [Value.cells] at hcs
    obtain ⟨rfl, rfl, rfl⟩ := hcs
    exact (Go.AX.ofsWalk0 W).mono fun e W' ⟨he, hg⟩ => ⟨_, he, hpost W' hg⟩
  · simp [Value.cells] at hcs
    obtain ⟨rfl, rfl, rfl⟩ := hcs
    have hb0 : Rows.uptoBulk d0 ≤ 1048576 := by
      have h1 := of_decide_eq_true hsmall
      simpa [Rows.uptoBulkAll] using h1
    have hD : d0 = .slice ((List.range len).map D) rest := hD
    have hb1 : Rows.uptoBulkAll ((List.range len).map D) + 1 ≤ 1048576 := by
      rw [hD] at hb0
      simp only [Rows.uptoBulk] at hb0
      omega
    refine (Go.AX.ofsWalkH (w := W) (a := a) (len := len) (cap := cap) hl (by
      have h1 := bulk_two (l := (List.range len).map D) (fun d hd => by
        obtain ⟨i, hi, rfl⟩ := List.mem_map.mp hd
        obtain ⟨vs, xs, hDi, hvl, hc, ht⟩ := hx i (List.mem_range.mp hi)
        match vs, hvl, hc, ht with
        | [v0, v1, v2, v3], _, hc, ht =>
          obtain ⟨y0, g0, z0⟩ := ht 0 _ v0 rfl rfl
          have h3 := bulk_mem (List.mem_of_getElem? z0)
          have h4 := bulk_one (d := y0.1)
          rw [hDi]
          simp only [Rows.uptoBulk]
          omega)
      simp only [List.length_map, List.length_range] at h1
      omega) (fun i hi => ?_)).mono fun e W' ⟨he, hg⟩ => ⟨_, he, hpost W' hg⟩
    obtain ⟨vs, xs, hDi, hvl, hc, ht⟩ := hx i hi
    match vs, hvl, hc, ht with
    | [v0, v1, v2, v3], _, hc, ht =>
      obtain ⟨y0, g0, z0⟩ := ht 0 _ v0 rfl rfl
      obtain ⟨n0, e0, w0, b0⟩ := DataW.trod_string Tryz.underlying9 g0
      obtain rfl : v0 = _ := by simpa using e0
      obtain ⟨y1, g1, z1⟩ := ht 1 _ v1 rfl rfl
      obtain ⟨n1, e1, w1, _⟩ := DataW.trod_int Tryz.underlying3 g1
      obtain rfl : v1 = _ := by simpa using e1
      obtain ⟨y2, g2, z2⟩ := ht 2 _ v2 rfl rfl
      obtain ⟨n2, e2, w2, _⟩ := DataW.trod_int Tryz.underlying3 g2
      obtain rfl : v2 = _ := by simpa using e2
      obtain ⟨y3, g3, z3⟩ := ht 3 _ v3 rfl rfl
      obtain ⟨n3, e3, w3, b3⟩ := DataW.trod_string Tryz.underlying9 g3
      obtain rfl : v3 = _ := by simpa using e3
      refine ⟨(n0.data.toList.map UInt8.toNat, n1, n2, n3.data.toList.map UInt8.toNat), fun r => ([.string n0, .int .i64 n1, .int .i64 n2, .string n3] : List Value).getD r (.bool true), fun r hr => hc r _ (by
        simp only [List.getD_eq_getElem?_getD]
        have : r < ([.string n0, .int .i64 n1, .int .i64 n2, .string n3] : List Value).length := hr
        rw [List.getElem?_eq_getElem this]
        rfl), ?_, ?_⟩
      · intro r v hv E
        match r, hv with
        | 0, hv => cases hv; exact AX.str_vrel n0
        | 1, hv => cases hv; exact (by simp [AX.VRel])
        | 2, hv => cases hv; exact (by simp [AX.VRel])
        | 3, hv => cases hv; exact AX.str_vrel n3
        | r + 4, hv => cases hv
      · have h1 : D i ∈ (List.range len).map D := List.mem_map.mpr ⟨i, List.mem_range.mpr hi, rfl⟩
        have h2 := bulk_mem h1
        rw [hDi] at h2
        simp only [Rows.uptoBulk] at h2
        have h3 := bulk_mem (List.mem_of_getElem? z0)
        rw [w0] at h3
        simp only [Rows.uptoBulk] at h3
        simp only [List.length_map]
        omega
set_option maxRecDepth 100000 in
theorem lifted (os : Os) (started : os.Started) (H : Type) (enc : TypeId × Value → H) (F : Stop.Interp) :
    ReturnsInHanded {} Tryz.checked os 3 .any ((Rows.OpenSpec.upto Rows.treeOfsSpec).pre6 enc Tryz.prog Tryz.f3 Rows.treeOfsUptoRow.domain false) (((Rows.OpenSpec.upto Rows.treeOfsSpec).at F).post enc Tryz.prog Tryz.f3 false true false false) := by
  refine returnsInHanded_of_cond (C := Tryz.checked) (s := Rows.OpenSpec.upto Rows.treeOfsSpec) (k := Rows.uptoSmall) rfl own started (by kernel_rfl) Tryz.func3
    (OpenSpec.witness (enc := enc) (C := Tryz.checked) (s := Rows.OpenSpec.upto Rows.treeOfsSpec) (k := Rows.uptoSmall) rfl false ⟨#[], #[.slice none 0 0], []⟩ 8 (by kernel_rfl) (by kernel_rfl) (by kernel_rfl)
      (x := ([.nil], [], [])) (by kernel_rfl) rfl (by kernel_rfl)) ?_
  intro W base args ds gs before hval hW _ hk _
  exact contract H enc W base args ds gs before hval hW hk
theorem over : Rows.treeOfsUptoRow.holds Tryz.pinned (Rows.OpenSpec.upto Rows.treeOfsSpec) :=
  OpenClaim.holds_of_cond 3 Tryz.f3 rfl rfl rfl rfl rfl rfl rfl ⟨rfl, rfl, rfl, rfl, rfl⟩ rfl rfl rfl rfl rfl (by kernel_rfl) Tryz.func3 (by kernel_rfl)
    (of_decide_eq_true (by kernel_rfl)) (by unfold Func.isWrapper; first | (rw [if_pos (by decide +kernel)]; kernel_rfl) | (rw [if_neg (by decide +kernel)]; exact ⟨rfl, rfl⟩))
    (fun os started H enc _ F => lifted os started H enc F)
theorem proved : Rows.TreeOfsUptoSaid :=
  over
#print axioms proved
end Go.Proofs.YtliabkjjnkemlaaGreat.treeOfs
