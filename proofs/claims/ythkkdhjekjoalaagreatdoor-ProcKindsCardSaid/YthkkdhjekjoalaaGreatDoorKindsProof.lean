/-
  Proved here: the tied card 'Rows.ProcKindsCardSaid': the law ProcKinds returns true at every input and leaves all memory that was there as it was.
  Conditions: none but those of the given card (the listed tables of Go's library read as their text lays them: the given tie).
  The frame was written by the kit's program proof-skeleton.mjs; the walk is made of runs of a machine that is proved sound (the texts Ax..) and of contracts.
-/
import Derived.Test.YthkkdhjekjoalaaGreatDoorK1
import Derived.WalkKit
import Derived.ProofKit
import Derived.OpenShut
import Derived.Test.YthkkdhjekjoalaaGreatDoorKindsWalk
namespace Go.Proofs.YthkkdhjekjoalaaGreatDoor.procKinds
open Go.ChangeShapes Go.WideShapes Go.ChangeAt Go.RowKit
set_option linter.unusedVariables false      -- a walk need not use every 'w<i>' (that an integer argument fits its kind)


/-! ### The walk -/
theorem walk  (w : World) :
    Calls Tryz.prog 16 #[] w fun e w' => e = .returned (.bool true) ∧ Below w.heap.size w w' := Go.AX.kindsWalk  w

/-! ### The row's step -/
set_option maxRecDepth 100000 in
theorem lifted (os : Os) (started : os.Started) (H : Type) (enc : TypeId × Value → H) :
    ReturnsInHanded {} Tryz.checked os 16 .any (fun w args => (Rows.procKindsSpec.pre enc Tryz.prog Tryz.f16 Rows.procKindsRow.domain false w args ∧ laidMetH Tryz.prog laid2 w) ∧ sizedMet enc Tryz.prog Tryz.f16 (OpenSpec.ofChange Rows.procKindsSpec) false w args)
      (Rows.procKindsSpec.post enc Tryz.prog Tryz.f16 false true false false) := by
  refine returnsInHanded_of_change_and (C := Tryz.checked) (X := fun w _ => laidMetH Tryz.prog laid2 w) (fun _ _ _ hh h => h.of_heap hh) own started (by kernel_rfl) Tryz.func16
    (ChangeSpec.witness_shaped (enc := enc) (C := Tryz.checked) (os := os) (X := fun w _ => laidMetH Tryz.prog laid2 w) false (World.laidAll Tryz.prog os laid2) #[] 8 (World.laidAll_os _ _ _)
      (World.shaped_of_ZipB (by kernel_rfl) (by kernel_rfl)) (by kernel_rfl) (by kernel_rfl) (by kernel_rfl) (met os _)) ?_
  intro W base args ds gs before hval0 hW hcnd _ _ _
  have hval : ∀ (j : Nat) t v, Tryz.f16.params[j]? = some t → args[j]? = some v → Value.okWide Tryz.prog W .any base t v := hval0
  have hW' := hW
  obtain ⟨p, q, hA0, hV, rfl, hfz, hnd⟩ := hW
  have hA : DataW.TrodAll enc Tryz.prog W 0 (fun _ => true) true Tryz.f16.params.toList args.toList ds p := hA0
  rw [Tryz.params16] at hA hval
  obtain ⟨rfl, rfl, rfl⟩ := trodAll_none hA
  obtain ⟨rfl, rfl⟩ := trodVars_none hV
  clear hA0 hval0
  simp only [List.append_nil] at hW'
  refine (walk  W).mono fun e W' ⟨he, hg⟩ => ?_
  subst he
  exact ⟨_, rfl, AX.post_of_below (pa := []) (pv := []) hW' (fun _ _ _ => (trodAll_cons_mk (shut_bool Tryz.underlying4 _) trodAll_mk0)) (fun sp _ => rfl) (fun _ _ => rfl) rfl
    hg (ok_one (by kernel_rfl) rfl (okWide_bool_mk Tryz.underlying4 _))⟩

theorem named : Tryz.prog.funcNamed "oriel/oriellaw24.ProcKinds" = some 16 := by kernel_rfl
set_option maxRecDepth 100000 in
theorem closed : joinedFacts Tryz.prog 16 Tryz.f16 Rows.procKindsSpec Rows.procKindsRow = true := facts (by kernel_rfl) (by kernel_rfl) (by kernel_rfl) (by kernel_rfl) ⟨rfl, rfl⟩ (by kernel_rfl) rfl rfl rfl
theorem over : Rows.procKindsRow.holds Tryz.pinned (OpenSpec.ofChange Rows.procKindsSpec) :=
  OpenClaim.holds_of_wide 16 Tryz.f16 rfl rfl rfl rfl rfl rfl rfl ⟨rfl, rfl, rfl, rfl, rfl⟩ rfl rfl rfl rfl rfl named Tryz.func16 closed
    (of_decide_eq_true (by kernel_rfl)) (by unfold Func.isWrapper; first | (rw [if_pos (by decide +kernel)]; kernel_rfl) | (rw [if_neg (by decide +kernel)]; exact ⟨rfl, rfl⟩))
    (fun os started H enc _ => lifted os started H enc)
theorem goes : false = Tryz.prog.goesAt .entering "oriel/oriellaw24.ProcKinds" := by
  unfold Program.goesAt Program.goesFrom
  rw [named, Option.any_some, goes_no]
  rfl

set_option maxRecDepth 100000 in
/-- The statement: the tied card. -/
theorem proved : Rows.ProcKindsCardSaid :=
  Claim7.holds_tied_plain_at .later [] [.data, .pinned] true (true, "d0a7098eca320b6306fee5170973a2423aff83ed4cdd1f274b2350a741014835") true over (fun _ h => by cases h) (by kernel_rfl) (fun _ h => by cases h) procKinds_row_tie rfl ⟨rfl, rfl⟩ kMain rfl
    (fun f fn hf hfn => by
      obtain rfl : f = 16 := Option.some.inj (named.symm.trans hf) |>.symm
      obtain rfl : fn = Tryz.f16 := (Option.some.inj (Tryz.func16.symm.trans hfn)).symm
      exact ⟨kLooks, fun j t ht => by
        have hm : t ∈ Tryz.f16.params.toList := by simpa using Array.mem_of_getElem? ht
        have hall : (Tryz.f16.params.toList.all fun u => !Tryz.prog.wantsStandIn u) = true := by kernel_rfl
        exact (show Tryz.prog.wantsStandIn t = false by simpa using List.all_eq_true.1 hall t hm)⟩)
    goes
#print axioms proved
end Go.Proofs.YthkkdhjekjoalaaGreatDoor.procKinds
