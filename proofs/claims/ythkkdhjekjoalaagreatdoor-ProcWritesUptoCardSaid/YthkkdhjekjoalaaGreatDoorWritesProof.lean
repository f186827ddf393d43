/-
  Proved here: the statement 'Rows.ProcWritesUptoSaid': the law ProcWrites returns true at every input (of the bulk that the statement names) and leaves all memory that was there as it was.
  Conditions: none but those of the given card (the listed tables of Go's library read as their text lays them: the given tie).
-/
import Derived.Test.YthkkdhjekjoalaaGreatDoorK1
import Derived.WalkKit
import Derived.ProofKit
import Derived.OpenShut
import Derived.ChangeMaps5
import Derived.ShutString
import Derived.JoinedCond
import Derived.Test.YthkkdhjekjoalaaGreatDoorWritesWalk
namespace Go.Proofs.YthkkdhjekjoalaaGreatDoor.procWrites
open Go.ChangeShapes Go.WideShapes Go.ChangeAt Go.RowKit
set_option linter.unusedVariables false
set_option linter.unusedSimpArgs false

theorem hc1 : Tryz.prog.cellsOf 3 = 1 := by kernel_rfl

/-- A row of numbers reads behind the call as it did. -/
theorem again {H : Type} {enc : TypeId × Value → H} {W W' : World} {a : Addr} {len cap : Nat} {zs : List Int} (hl : len ≤ cap) (hm : cap ≤ maxLen) (hz : zs.length = cap) (hcell : ∀ i, i < zs.length → W.cell? (a.add i) = some (.int .i64 (zs.getD i 0)))
    (hwz : ∀ n ∈ zs, (Lit.int .i64 n).wf = true) (hg : Below W.heap.size W W') (sp : Nat → Bool) (hsp : ∀ p ∈ MemPlace.row a zs.length, sp p.block = true) :
    DataW.Trod enc Tryz.prog W' 0 sp true 40 (.slice (some a) len cap) (.slice (lits .i64 (zs.take len)) (lits .i64 (zs.drop len))) (MemPlace.row a zs.length) := by
  have hcell' : ∀ i, i < zs.length → W'.cell? (a.add i) = some (.int .i64 (zs.getD i 0)) := fun i hi => by
    have h := hcell i hi
    have hb : (a.add i).block < W.heap.size := by
      rcases Nat.lt_or_ge (a.add i).block W.heap.size with h' | h'
      · exact h'
      · simp [World.cell?, Array.getElem?_eq_none h'] at h
    rw [hg.cell hb]
    exact h
  by_cases hz0 : zs.length = 0
  · have hc0 : cap = 0 := by omega
    have hl0 : len = 0 := by omega
    subst hc0; subst hl0
    have t0 := shut_ints (enc := enc) (w := W') (base := 0) (spare := sp) (held := true) (a := a) (len := 0) (cap := 0) (zs := zs) 0 Tryz.underlying40 Tryz.underlying3 hc1 (Nat.zero_le _) (Nat.le_refl _) hm (by simp [hz0]) hcell' hwz
    exact ⟨2, by simpa [Value.cells] using t0⟩
  · have hspb : sp a.block = true := by
      have := hsp (.cell a.block a.off) (MemPlace.mem_row.2 ⟨0, by omega, by simp⟩)
      exact this
    have t0 := shut_ints (enc := enc) (w := W') (base := 0) (spare := sp) (held := true) (a := a) (len := len) (cap := cap) (zs := zs) 0 Tryz.underlying40 Tryz.underlying3 hc1 (Nat.zero_le _) hl hm (by simp [hspb, hz]) hcell' hwz
    exact ⟨2, by simpa [Value.cells] using t0⟩

/-! ### The walk -/
theorem walkRow (tx : ByteArray) {a : Addr} {len cap : Nat} {zs : List Int} {W : World} (hl : len ≤ cap) (hz : zs.length = cap) (hcell : ∀ i, i < zs.length → W.cell? (a.add i) = some (.int .i64 (zs.getD i 0))) :
    Calls Tryz.prog 5 #[.slice (some a) len cap, .string tx] W fun e w' => e = .returned (.bool true) ∧ Below W.heap.size W w' := by
  by_cases h0 : len = 0
  · subst h0
    exact Go.AX.writesWalkE tx W
  · obtain ⟨b, off, rfl, hc⟩ := ints_at hcell (by omega)
    have h1 := hc 0 (by omega)
    unfold World.cell? at h1
    simp only [Nat.add_zero] at h1
    split at h1
    · rename_i C el fz hO
      refine Go.AX.writesWalk tx (zs := zs.take len) hO (fun i z hi => ?_) (by simp; omega) hl
      have hi' : i < zs.length := by
        have := (List.getElem?_eq_some_iff.mp hi).1
        simp at this
        omega
      have h2 := hc i hi'
      unfold World.cell? at h2
      simp only at h2
      rw [hO] at h2
      have : zs[i]? = some z := by
        rw [List.getElem?_take] at hi
        split at hi
        · exact hi
        · cases hi
      have e : zs.getD i 0 = z := by rw [List.getD_eq_getElem?_getD, this]; rfl
      rw [e] at h2
      simpa using h2
    · cases h1

set_option maxRecDepth 100000 in
theorem contract (H : Type) (enc : TypeId × Value → H) (W : World) (base : Nat) (args : Array Value) (ds gs : List (DataW H)) (before : List MemPlace)
    (hval0 : ∀ (j : Nat) t v, Tryz.f5.params[j]? = some t → args[j]? = some v → Value.okWide Tryz.prog W .any base t v)
    (hW : DataW.Whole enc Tryz.prog Tryz.f5.params.toList Rows.procWritesSpec.vars false W args.toList ds gs before) :
    Calls Tryz.prog 5 args W fun e W' => ∃ v, e = .returned v ∧ Rows.procWritesSpec.post enc Tryz.prog Tryz.f5 false true false false W args v W' := by
  have hval : ∀ (j : Nat) t v, Tryz.f5.params[j]? = some t → args[j]? = some v → Value.okWide Tryz.prog W .any base t v := hval0
  have hW' := hW
  obtain ⟨p, q, hA0, hV, rfl, hfz, hnd⟩ := hW
  have hA : DataW.TrodAll enc Tryz.prog W 0 (fun _ => true) true Tryz.f5.params.toList args.toList ds p := hA0
  rw [Tryz.params5] at hA hval
  obtain ⟨v0, vs0, d0, ds0, p0, q0, hargs, rfl, rfl, h0, r0⟩ := trodAll_cons hA
  obtain ⟨v1, vs1, d1, ds1, p1, q1, rfl, rfl, rfl, h1, r1⟩ := trodAll_cons r0
  obtain ⟨rfl, rfl, rfl⟩ := trodAll_nil r1
  obtain rfl : args = #[v0, v1] := by cases args; simp_all
  obtain ⟨rfl, rfl⟩ := trodVars_none hV
  obtain ⟨tx, rfl, rfl, rfl, htx⟩ := Go.ChangeMaps.open_string Tryz.underlying9 (hval 1 9 v1 rfl rfl) h1
  obtain ⟨a0, len, cap, rfl⟩ := okWide_slice Tryz.underlying40 (hval 0 40 v0 rfl rfl)
  obtain ⟨fuel, hf⟩ := h0
  clear hA0 hval0
  simp only [List.append_nil] at hW'
  rcases open_ints Tryz.underlying40 Tryz.underlying3 hc1 hf with ⟨hcs, hx⟩ | ⟨a, len', cap', zs, hcs, _, hl, hm, hz, hx, hcell, hwz⟩
  · simp [Value.cells] at hcs
    obtain ⟨rfl, rfl, rfl⟩ := hcs
    simp only [Prod.mk.injEq] at hx
    obtain ⟨rfl, rfl⟩ := hx
    refine (Go.AX.writesWalk0 tx W).mono fun e W' ⟨he, hg⟩ => ?_
    subst he
    exact ⟨_, rfl, AX.post_of_below (pa := []) (pv := []) hW' (fun _ _ _ => (trodAll_cons_mk (shut_bool Tryz.underlying4 _) trodAll_mk0)) (fun sp _ => (trodAll_cons_mk (shut_slice_nil Tryz.underlying40) (trodAll_cons_mk (Go.ChangeMaps.shut_string Tryz.underlying9 htx) trodAll_mk0))) (fun _ _ => rfl) rfl hg (ok_one (by kernel_rfl) rfl (okWide_bool_mk Tryz.underlying4 _))⟩
  · simp [Value.cells] at hcs
    obtain ⟨rfl, rfl, rfl⟩ := hcs
    simp only [Prod.mk.injEq] at hx
    obtain ⟨rfl, rfl⟩ := hx
    simp only [if_true] at hz
    refine (walkRow tx (W := W) hl hz hcell).mono fun e W' ⟨he, hg⟩ => ?_
    subst he
    refine ⟨_, rfl, AX.post_of_below (pa := MemPlace.row a zs.length) (pv := []) hW' (fun _ _ _ => (trodAll_cons_mk (shut_bool Tryz.underlying4 _) trodAll_mk0)) (fun sp hsp => ?_) (fun _ _ => rfl) (by simp) hg (ok_one (by kernel_rfl) rfl (okWide_bool_mk Tryz.underlying4 _))⟩
    have h1 := again (enc := enc) hl hm hz hcell hwz hg sp (fun p hp => hsp p (by simpa using hp))
    have h2 := (show DataW.TrodAll enc Tryz.prog W' 0 sp true _ _ _ _ from (trodAll_cons_mk (h1) (trodAll_cons_mk (Go.ChangeMaps.shut_string Tryz.underlying9 htx) trodAll_mk0)))
    simp only [List.append_nil] at h2
    exact h2

/-! ### The row's step -/
set_option maxRecDepth 100000 in
theorem lifted (os : Os) (started : os.Started) (H : Type) (enc : TypeId × Value → H) (F : Stop.Interp) :
    ReturnsInHanded {} Tryz.checked os 5 .any (fun w args => ((Rows.OpenSpec.upto Rows.procWritesSpec).pre enc Tryz.prog Tryz.f5 Rows.procWritesUptoRow.domain false w args ∧ laidMetH Tryz.prog laid2 w) ∧ sizedMet enc Tryz.prog Tryz.f5 (Rows.OpenSpec.upto Rows.procWritesSpec) false w args)
      (((Rows.OpenSpec.upto Rows.procWritesSpec).at F).post enc Tryz.prog Tryz.f5 false true false false) := by
  have sh : ((World.laidAll Tryz.prog os laid2).forCall (fun _ _ => 0) ⟨#[], #[.slice none 0 0, .string ⟨#[]⟩], []⟩).Shaped Tryz.prog := World.shaped_of_ZipB (by kernel_rfl) (by kernel_rfl)
  have ok : Input.okWideB Tryz.prog ((World.laidAll Tryz.prog os laid2).forCall (fun _ _ => 0) ⟨#[], #[.slice none 0 0, .string ⟨#[]⟩], []⟩) 5 ⟨#[], #[.slice none 0 0, .string ⟨#[]⟩], []⟩ = true := by kernel_rfl
  have hx : DataW.whole enc Tryz.prog ((World.laidAll Tryz.prog os laid2).forCall (fun _ _ => 0) ⟨#[], #[.slice none 0 0, .string ⟨#[]⟩], []⟩).memory Tryz.f5.params.toList (Rows.OpenSpec.upto Rows.procWritesSpec).vars false #[.slice none 0 0, .string ⟨#[]⟩].toList 8 = some ([.nil, .lit (.string [])], [], []) := by kernel_rfl
  refine returnsInHanded_of_calls own started (by kernel_rfl) ⟨World.laidAll Tryz.prog os laid2, fun _ _ => 0, ⟨#[], #[.slice none 0 0, .string ⟨#[]⟩], []⟩, World.laidAll_os _ _ _, sh, (Input.okWide_of_okWideB (base := 0) ok).1, (Input.okWide_of_okWideB ok).2,
    ⟨⟨(OpenSpec.pre_some (k := Rows.uptoSmall) rfl _ _ _ _).2 ⟨_, _, _, DataW.Whole_of_whole hx, by kernel_rfl, by kernel_rfl⟩, met os _⟩, sizedMet_of_sizedB (fuel := 8) (by kernel_rfl)⟩, ⟨by simp, by simp, fun h => (by cases h), by simp, by simp⟩⟩ ?_
  intro w tape i _ _ _ hok hpre hholds
  obtain ⟨_, _, _, fn', hfn', _, _, _, _, hval⟩ := hok
  have e : fn' = Tryz.f5 := Option.some.inj (hfn'.symm.trans Tryz.func5)
  subst e
  obtain ⟨ds, gs, before, hw, _, _⟩ := (OpenSpec.pre_some (k := Rows.uptoSmall) rfl _ _ _ _).1 hpre.1.1
  have hw' := DataW.Whole.of_heap (w' := w.forCall tape i) (by rfl) hw
  refine (contract H enc (w.forCall tape i) w.heap.size i.args ds gs before hval hw').mono fun e W' ⟨v, he, hp⟩ => ?_
  subst he
  exact ChangeSpec.post_blind hp

theorem named : Tryz.prog.funcNamed "oriel/oriellaw24.ProcWrites" = some 5 := by kernel_rfl
set_option maxRecDepth 100000 in
theorem closed : joinedFacts Tryz.prog 5 Tryz.f5 (Rows.OpenSpec.upto Rows.procWritesSpec).bare Rows.procWritesUptoRow = true := facts (by kernel_rfl) (by kernel_rfl) (by kernel_rfl) (by kernel_rfl) ⟨rfl, rfl⟩ (by kernel_rfl) rfl rfl rfl
theorem over : Rows.procWritesUptoRow.holds Tryz.pinned (Rows.OpenSpec.upto Rows.procWritesSpec) :=
  OpenClaim.holds_of_cond 5 Tryz.f5 rfl rfl rfl rfl rfl rfl rfl ⟨rfl, rfl, rfl, rfl, rfl⟩ rfl rfl rfl rfl rfl named Tryz.func5 closed
    (of_decide_eq_true (by kernel_rfl)) (by unfold Func.isWrapper; first | (rw [if_pos (by decide +kernel)]; kernel_rfl) | (rw [if_neg (by decide +kernel)]; exact ⟨rfl, rfl⟩))
    (fun os started H enc _ F => lifted os started H enc F)
theorem goes : false = Tryz.prog.goesAt .entering "oriel/oriellaw24.ProcWrites" := by
  unfold Program.goesAt Program.goesFrom
  rw [named, Option.any_some, goes_no]
  rfl

set_option maxRecDepth 100000 in
/-- The statement: the tied card. -/
theorem proved : Rows.ProcWritesUptoCardSaid :=
  Claim7.holds_tied_plain_at .later [] [.data, .pinned] true (true, "d0a7098eca320b6306fee5170973a2423aff83ed4cdd1f274b2350a741014835") true over (fun _ h => by cases h) (by kernel_rfl) (fun _ h => by cases h) procWritesUpto_row_tie rfl ⟨rfl, rfl⟩ kMain rfl
    (fun f fn hf hfn => by
      obtain rfl : f = 5 := Option.some.inj (named.symm.trans hf) |>.symm
      obtain rfl : fn = Tryz.f5 := (Option.some.inj (Tryz.func5.symm.trans hfn)).symm
      exact ⟨kLooks, fun j t ht => by
        have hm : t ∈ Tryz.f5.params.toList := by simpa using Array.mem_of_getElem? ht
        have hall : (Tryz.f5.params.toList.all fun u => !Tryz.prog.wantsStandIn u) = true := by kernel_rfl
        exact (show Tryz.prog.wantsStandIn t = false by simpa using List.all_eq_true.1 hall t hm)⟩)
    goes
#print axioms proved
end Go.Proofs.YthkkdhjekjoalaaGreatDoor.procWrites
