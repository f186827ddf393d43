/-
  Proved here: the statement 'Rows.UnionBytesUptoSaid': the law UnionBytes returns true at every input (of the bulk that the statement names) and leaves all memory that was there as it was.
  Conditions: none but those of the given row.
-/
import Derived.Test.YtkcbaokljkalcaaGreatRows
import Derived.WalkKit
import Derived.ProofKit
import Derived.OpenShut
import Derived.ChangeMaps5
import Derived.ShutString
import Derived.ReadAgain
import Derived.Deep.Slices
import Derived.JoinedCond
import Derived.Test.YtkcbaokljkalcaaGreatBy2ByWalk
namespace Go.Proofs.YtkcbaokljkalcaaGreat.unionBytes
open Go.ChangeShapes Go.WideShapes Go.ChangeAt Go.RowKit
set_option linter.unusedVariables false
set_option linter.unusedSimpArgs false

theorem own : ownKnob Tryz.prog.godebug = none := by kernel_rfl
theorem sizeE : Tryz.prog.cellsOf 34 = 4 := by kernel_rfl
theorem sizeL : Tryz.prog.cellsOf 49 = 1 := by kernel_rfl
theorem sizeI : Tryz.prog.cellsOf 24 = 1 := by kernel_rfl
theorem sizeS : Tryz.prog.cellsOf 22 = 1 ∧ Tryz.prog.cellsOf 29 = 1 := ⟨by kernel_rfl, by kernel_rfl⟩
theorem ones : Tryz.prog.cellsOf 3 = 1 ∧ Tryz.prog.cellsOf 9 = 1 := ⟨by kernel_rfl, by kernel_rfl⟩
theorem kids : Kids Tryz.prog (· < Tryz.prog.types.size) := kids_rows (by kernel_rfl) (by kernel_rfl)
theorem full : ∀ t e, t < Tryz.prog.types.size → Tryz.prog.underlying t = some (.slice e) → 0 < Tryz.prog.cellsOf e := slices_full_of Tryz.prog (by kernel_rfl)
theorem bulk_two {H : Type} : ∀ {l : List (DataW H)}, (∀ d ∈ l, 2 ≤ Rows.uptoBulk d) → 2 * l.length ≤ Rows.uptoBulkAll l
  | [], _ => Nat.le_refl _
  | a :: l, h => by
    have h1 := bulk_two (l := l) (fun d hd => h d (List.mem_cons_of_mem _ hd))
    have h2 := h a (by simp)
    simp only [Rows.uptoBulkAll, List.length_cons]
    omega
theorem bulk_one {H : Type} {d : DataW H} : 1 ≤ Rows.uptoBulk d := by
  cases d with
  | lit x => cases x <;> simp [Rows.uptoBulk]
  | _ => simp [Rows.uptoBulk]
theorem bulk_mem {H : Type} : ∀ {l : List (DataW H)} {d : DataW H}, d ∈ l → Rows.uptoBulk d ≤ Rows.uptoBulkAll l
  | [], d, h => by cases h
  | a :: l, d, h => by
    simp only [Rows.uptoBulkAll]
    rcases List.mem_cons.mp h with rfl | h
    · omega
    · have := bulk_mem h
      omega
theorem bulk_len {H : Type} : ∀ {l : List (DataW H)}, l.length ≤ Rows.uptoBulkAll l
  | [] => Nat.le_refl _
  | a :: l => by
    have := bulk_len (l := l)
    have := bulk_one (d := a)
    simp only [Rows.uptoBulkAll, List.length_cons]
    omega

theorem entries {H : Type} {enc : TypeId × Value → H} {W : World} {fuel : Nat} {cs : List Value} {x : DataW H × List MemPlace} (hf : DataW.trod enc Tryz.prog W 0 (fun _ => true) true fuel 29 cs = some x) :
    ∃ (U : Value) (es : List AX.En), cs = [U] ∧ AX.EnV W U es ∧ ∀ e ∈ es, e.1.length ≤ Rows.uptoBulk x.1 := by
  rcases AX.hand_slice2 Tryz.underlying29 Tryz.underlying34 sizeE (by
    intro j f hj
    match j, hj with
    | 0, hj => cases hj; exact ⟨rfl, ones.2⟩
    | 1, hj => cases hj; exact ⟨rfl, ones.1⟩
    | 2, hj => cases hj; exact ⟨rfl, ones.1⟩
    | 3, hj => cases hj; exact ⟨rfl, ones.2⟩
    | j + 4, hj => simp at hj
    ) hf with hcs | ⟨a, len, cap, m, D, rest, hcs, hl, hD, hx⟩
  · exact ⟨_, [], hcs, Or.inl ⟨rfl, rfl⟩, fun e he => by cases he⟩
  · obtain ⟨es, hlen, hQ⟩ := AX.list_of (n := len) (Q := fun i (c : AX.En) => c.1.length ≤ Rows.uptoBulk (D i) ∧ ∃ F : Nat → Value, (∀ r, r < 4 → W.cell? (a.add (i * 4 + r)) = some (F r)) ∧ AX.RdVal (AX.celE c) F) (fun i hi => by
      obtain ⟨vs, xs, hDi, hvl, hc, ht⟩ := hx i hi
      match vs, hvl, hc, ht with
      | [v0, v1, v2, v3], _, hc, ht =>
        obtain ⟨y0, g0, z0⟩ := ht 0 _ v0 rfl rfl
        obtain ⟨n0, e0, w0, b0⟩ := DataW.trod_string Tryz.underlying9 g0
        obtain rfl : v0 = _ := by simpa using e0
        obtain ⟨y1, g1, z1⟩ := ht 1 _ v1 rfl rfl
        obtain ⟨n1, e1, w1, _⟩ := DataW.trod_int Tryz.underlying3 g1
        obtain rfl : v1 = _ := by simpa using e1
        obtain ⟨y2, g2, z2⟩ := ht 2 _ v2 rfl rfl
        obtain ⟨n2, e2, w2, _⟩ := DataW.trod_int Tryz.underlying3 g2
        obtain rfl : v2 = _ := by simpa using e2
        obtain ⟨y3, g3, z3⟩ := ht 3 _ v3 rfl rfl
        obtain ⟨n3, e3, w3, b3⟩ := DataW.trod_string Tryz.underlying9 g3
        obtain rfl : v3 = _ := by simpa using e3
        refine ⟨(n0.data.toList.map UInt8.toNat, n1, n2, n3.data.toList.map UInt8.toNat), ?_, fun r => ([.string n0, .int .i64 n1, .int .i64 n2, .string n3] : List Value).getD r (.bool true), fun r hr => hc r _ (by
          simp only [List.getD_eq_getElem?_getD]
          have : r < ([.string n0, .int .i64 n1, .int .i64 n2, .string n3] : List Value).length := hr
          rw [List.getElem?_eq_getElem this]
          rfl), ?_⟩
        · rw [hDi]
          simp only [Rows.uptoBulk]
          have h3 := bulk_mem (List.mem_of_getElem? z0)
          rw [w0] at h3
          simp only [Rows.uptoBulk] at h3
          simp only [List.length_map]
          omega
        · intro r v hv E
          match r, hv with
          | 0, hv => cases hv; exact AX.str_vrel n0
          | 1, hv => cases hv; exact (by simp [AX.VRel])
          | 2, hv => cases hv; exact (by simp [AX.VRel])
          | 3, hv => cases hv; exact AX.str_vrel n3
          | r + 4, hv => cases hv
      )
    refine ⟨_, es, hcs, Or.inr ⟨a, cap, by rw [List.length_map, hlen], by rw [List.length_map, hlen]; exact hl, fun i c hc => ?_⟩, fun e he => ?_⟩
    · rw [List.getElem?_map] at hc
      cases hi : es[i]? with
      | none => rw [hi] at hc; cases hc
      | some e =>
        rw [hi] at hc
        cases hc
        obtain ⟨_, F, h1, h2⟩ := hQ i e hi
        exact ⟨rfl, F, h1, h2⟩
    · obtain ⟨i, hi, rfl⟩ := List.mem_iff_getElem.mp he
      obtain ⟨h1, _⟩ := hQ i _ (List.getElem?_eq_getElem hi)
      have h2 := bulk_mem (List.mem_map.mpr ⟨i, List.mem_range.mpr (by omega : i < len), rfl⟩ : D i ∈ (List.range len).map D)
      rw [hD]
      simp only [Rows.uptoBulk]
      omega
theorem ints {H : Type} {enc : TypeId × Value → H} {W : World} {fuel : Nat} {cs : List Value} {x : DataW H × List MemPlace} (hf : DataW.trod enc Tryz.prog W 0 (fun _ => true) true fuel 25 cs = some x) :
    ∃ (U : Value) (zs : List Int), cs = [U] ∧ AX.IntV W U zs := by
  rcases open_ints Tryz.underlying25 Tryz.underlying3 ones.1 hf with ⟨hcs, hx⟩ | ⟨a, len, cap, zs, hcs, _, hl, hm, hz, hx, hcell, hwz⟩
  · exact ⟨_, [], hcs, Or.inl ⟨rfl, rfl⟩⟩
  · simp only [if_true] at hz
    have hlen : (zs.take len).length = len := by simp; omega
    refine ⟨_, zs.take len, hcs, Or.inr ⟨a, cap, by rw [List.length_map, hlen], by rw [List.length_map, hlen]; exact hl, fun i c hc => ?_⟩⟩
    rw [List.getElem?_map] at hc
    cases hi : (zs.take len)[i]? with
    | none => rw [hi] at hc; cases hc
    | some z =>
      rw [hi] at hc
      cases hc
      have hi' : i < zs.length := by
        have := (List.getElem?_eq_some_iff.mp hi).1
        simp at this
        omega
      have h2 := hcell i hi'
      have hz' : zs[i]? = some z := by
        rw [List.getElem?_take] at hi
        split at hi
        · exact hi
        · cases hi
      have e : zs.getD i 0 = z := by rw [List.getD_eq_getElem?_getD, hz']; rfl
      rw [e] at h2
      refine ⟨rfl, fun _ => .int .i64 z, fun r hr => ?_, fun r v hv E => ?_⟩
      · rw [show i * 1 + r = i from by omega]
        exact h2
      · match r, hv with
        | 0, hv => cases hv; simp [AX.VRel]
        | r + 1, hv => cases hv
theorem layers {H : Type} {enc : TypeId × Value → H} {W : World} {fuel : Nat} {cs : List Value} {x : DataW H × List MemPlace} (hf : DataW.trod enc Tryz.prog W 0 (fun _ => true) true fuel 22 cs = some x) :
    ∃ (U : Value) (im : List (List AX.En)), cs = [U] ∧ AX.LyV W U im ∧ ∀ es ∈ im, ∀ e ∈ es, e.1.length ≤ Rows.uptoBulk x.1 := by
  rcases Go.Deep.open_slice Tryz.underlying22 hf with ⟨h0, _⟩ | ⟨a, len, cap, m, n, D, Pl, rfl, _, hl, _, hm, hxe, hx⟩
  · exact ⟨_, [], h0, Or.inl ⟨rfl, rfl⟩, fun es he => by cases he⟩
  · obtain ⟨im, hlen, hQ⟩ := AX.list_of (n := len) (Q := fun i (es : List AX.En) => (∀ e ∈ es, e.1.length ≤ Rows.uptoBulk (D i)) ∧ ∃ U, W.cell? (a.add i) = some U ∧ AX.EnV W U es) (fun i hi => by
      obtain ⟨cs', h1, h2⟩ := hx i (by rw [hm]; simp; omega)
      rw [sizeL, Nat.mul_one] at h1
      obtain ⟨y0, n', e1, e2, h3⟩ := trod_struct1 Tryz.underlying49 h2
      rw [sizeL] at e2
      rw [sizeS.2] at h3
      match cs', e2 with
      | [v], _ =>
        obtain ⟨U, es, e4, h4, h5⟩ := entries (x := y0) h3
        obtain rfl : v = U := by simpa using e4
        refine ⟨es, fun e he => ?_, v, cell_of_cells?_one h1, h4⟩
        have h6 := h5 e he
        have h7 : D i = .agg [y0.1] := by
          have := congrArg Prod.fst e1
          simpa using this
        rw [h7]
        simp only [Rows.uptoBulk, Rows.uptoBulkAll]
        omega)
    refine ⟨_, im, rfl, Or.inr ⟨a, cap, by rw [hlen], by rw [hlen]; exact hl, fun k es hk => ?_⟩, fun es he e hee => ?_⟩
    · obtain ⟨_, U, h1, h2⟩ := hQ k es hk
      exact ⟨U, h1, h2⟩
    · obtain ⟨i, hi, rfl⟩ := List.mem_iff_getElem.mp he
      have h1 := (hQ i _ (List.getElem?_eq_getElem hi)).1 e hee
      have h2 := bulk_mem (List.mem_map.mpr ⟨i, List.mem_range.mpr (by omega : i < len), rfl⟩ : D i ∈ (List.range len).map D)
      rw [hxe]
      simp only [Rows.uptoBulk]
      omega
set_option maxRecDepth 100000 in
theorem contract (H : Type) (enc : TypeId × Value → H) (W : World) (base : Nat) (args : Array Value) (ds gs : List (DataW H)) (before : List MemPlace)
    (hval0 : ∀ (j : Nat) t v, Tryz.f3.params[j]? = some t → args[j]? = some v → Value.okWide Tryz.prog W .any base t v)
    (hW : DataW.Whole enc Tryz.prog Tryz.f3.params.toList Rows.unionBytesSpec.vars false W args.toList ds gs before) (hsmall : Rows.uptoSmall H (ds ++ gs) = true) :
    Calls Tryz.prog 3 args W fun e W' => ∃ v, e = .returned v ∧ Rows.unionBytesSpec.post enc Tryz.prog Tryz.f3 false true false false W args v W' := by
  have hval : ∀ (j : Nat) t v, Tryz.f3.params[j]? = some t → args[j]? = some v → Value.okWide Tryz.prog W .any base t v := hval0
  have hW' := hW
  have hlt := hW.lt
  obtain ⟨p, q, hA0, hV, rfl, hfz, hnd⟩ := hW
  have hA : DataW.TrodAll enc Tryz.prog W 0 (fun _ => true) true Tryz.f3.params.toList args.toList ds p := hA0
  rw [Tryz.params3] at hA hval
  obtain ⟨v0, vs0, d0, ds0, p0, q0, hargs, rfl, rfl, h0, r0⟩ := trodAll_cons hA
  obtain ⟨v1, vs1, d1, ds1, p1, q1, rfl, rfl, rfl, h1, r1⟩ := trodAll_cons r0
  obtain ⟨rfl, rfl, rfl⟩ := trodAll_nil r1
  obtain rfl : args = #[v0, v1] := by cases args; simp_all
  obtain ⟨rfl, rfl⟩ := trodVars_none hV
  obtain ⟨cs, rfl, hcs⟩ := okWide_struct Tryz.underlying24 (hval 0 24 v0 rfl rfl)
  obtain ⟨a1, l1, k1, rfl⟩ := okWide_slice Tryz.underlying25 (hval 1 25 v1 rfl rfl)
  rw [sizeI] at hcs
  obtain ⟨u, rfl⟩ : ∃ u, cs = #[u] := by
    obtain ⟨l⟩ := cs
    match l, hcs with
    | [u], _ => exact ⟨u, rfl⟩
  obtain ⟨f0, h0⟩ := h0
  obtain ⟨f1, h1⟩ := h1
  simp only [List.append_nil] at hW' hA0 hlt
  have hpost : ∀ W', Below W.heap.size W W' → Rows.unionBytesSpec.post enc Tryz.prog Tryz.f3 false true false false W #[.agg #[u], .slice a1 l1 k1] (.bool true) W' := by
    intro W' hg
    refine AX.post_of_below (pa := p0 ++ p1) (pv := []) hW' (fun _ _ _ => (trodAll_cons_mk (shut_bool Tryz.underlying4 _) trodAll_mk0)) (fun sp hsp => ?_) (fun _ _ => rfl) (by simp) hg (ok_one (by kernel_rfl) rfl (okWide_bool_mk Tryz.underlying4 _))
    refine AX.args_again kids full (fun t ht => ?_) hA0 hlt hg sp hsp
    rw [Tryz.params3] at ht
    simp only [List.mem_cons, List.not_mem_nil, or_false] at ht
    rcases ht with rfl | rfl <;> exact of_decide_eq_true (by kernel_rfl)
  obtain ⟨y0, n0, e1, e2, h3⟩ := trod_struct1 Tryz.underlying24 h0
  rw [sizeS.1] at h3
  have hb0 : Rows.uptoBulk d0 ≤ 1048576 := by
    have h := of_decide_eq_true hsmall
    simp only [List.cons_append, Rows.uptoBulkAll] at h
    omega
  have hd0 : d0 = .agg [y0.1] := by
    have := congrArg Prod.fst e1
    simpa using this
  rw [hd0] at hb0
  simp only [Rows.uptoBulk, Rows.uptoBulkAll] at hb0
  obtain ⟨U, im, e3, hI, hp⟩ := layers (x := y0) h3
  obtain ⟨U1, zs, e4, hZ⟩ := ints h1
  obtain rfl : u = U := by simpa [Value.cells] using e3
  obtain rfl : (.slice a1 l1 k1 : Value) = U1 := by simpa [Value.cells] using e4
  exact (Go.AX.bytesWalk hI hZ (fun es he e hee => by have := hp es he e hee; omega)).mono fun e W' ⟨he, hg⟩ => ⟨_, he, hpost W' hg⟩

/-! ### The row's step -/
set_option maxRecDepth 100000 in
theorem lifted (os : Os) (started : os.Started) (H : Type) (enc : TypeId × Value → H) (F : Stop.Interp) :
    ReturnsInHanded {} Tryz.checked os 3 .any ((Rows.OpenSpec.upto Rows.unionBytesSpec).pre6 enc Tryz.prog Tryz.f3 Rows.unionBytesUptoRow.domain false) (((Rows.OpenSpec.upto Rows.unionBytesSpec).at F).post enc Tryz.prog Tryz.f3 false true false false) := by
  refine returnsInHanded_of_cond (C := Tryz.checked) (s := Rows.OpenSpec.upto Rows.unionBytesSpec) (k := Rows.uptoSmall) rfl own started (by kernel_rfl) Tryz.func3
    (OpenSpec.witness (enc := enc) (C := Tryz.checked) (s := Rows.OpenSpec.upto Rows.unionBytesSpec) (k := Rows.uptoSmall) rfl false ⟨#[], #[.agg #[.slice none 0 0], .slice none 0 0], []⟩ 8 (by kernel_rfl) (by kernel_rfl) (by kernel_rfl)
      (x := ([.agg [.nil], .nil], [], [])) (by kernel_rfl) rfl (by kernel_rfl)) ?_
  intro W base args ds gs before hval hW _ hk _
  exact contract H enc W base args ds gs before hval hW hk

theorem over : Rows.unionBytesUptoRow.holds Tryz.pinned (Rows.OpenSpec.upto Rows.unionBytesSpec) :=
  OpenClaim.holds_of_cond 3 Tryz.f3 rfl rfl rfl rfl rfl rfl rfl ⟨rfl, rfl, rfl, rfl, rfl⟩ rfl rfl rfl rfl rfl (by kernel_rfl) Tryz.func3 (by kernel_rfl)
    (of_decide_eq_true (by kernel_rfl)) (by unfold Func.isWrapper; first | (rw [if_pos (by decide +kernel)]; kernel_rfl) | (rw [if_neg (by decide +kernel)]; exact ⟨rfl, rfl⟩))
    (fun os started H enc _ F => lifted os started H enc F)

/-- The statement. -/
theorem proved : Rows.UnionBytesUptoSaid :=
  over
#print axioms proved
end Go.Proofs.YtkcbaokljkalcaaGreat.unionBytes
