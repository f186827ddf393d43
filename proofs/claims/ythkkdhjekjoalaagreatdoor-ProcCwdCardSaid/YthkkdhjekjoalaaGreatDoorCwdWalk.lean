import Derived.Test.YthkkdhjekjoalaaGreatDoorD2
set_option linter.unusedVariables false
set_option linter.unusedSimpArgs false
set_option linter.defProp false
namespace Go.AX
open Go.Proofs Go.RowKit
set_option maxRecDepth 1000000
set_option maxHeartbeats 40000000
set_option linter.unusedSimpArgs false
set_option linter.unusedVariables false

def cwdV (M : Md) (f : List Nat) : Bool := ask M (mkC 6 [47, 100]) (st 0) fun _ M =>
    ask M (mkC 6 [47, 100, 47, 101]) (st 0) fun _ M =>
    ask M (qC 18 [47, 100, 47, 101]) (st 0) fun _ M =>
    ask M (mkC 5 f) (st 0) fun _ M =>
    ask M (qC 1 (47 :: 100 :: 47 :: 101 :: 47 :: f)) (st 0) fun _ M =>
    ask M (qC 1 (46 :: 46 :: 47 :: 101 :: 47 :: f)) (st 0) fun _ M =>
    ask M (rnC [47, 100] [47, 122]) (st 0) fun _ M =>
    ask M (qC 1 f) (st 0) fun _ M =>
    ask M (qC 1 (47 :: 122 :: 47 :: 101 :: 47 :: f)) (st 0) fun _ M =>
    ask M (qC 1 [46, 46]) (st 0) fun _ M =>
    ask M (qC 11 f) (st 0) fun _ M =>
    ask M (qC 12 [47, 122, 47, 101]) (st 13) fun _ M =>
    ask M (mkC 6 [47, 110]) (st 0) fun _ M =>
    ask M (rnC [47, 110] [47, 122, 47, 101]) (st 13) fun _ M =>
    ask M (qC 18 [47]) (st 0) fun _ M =>
    ask M (qC 12 [47, 122, 47, 101]) (st 0) fun _ M =>
    ask M (qC 18 [47, 110, 47, 46, 46, 47, 110, 47, 46]) (st 0) fun _ M =>
    ask M (mkC 5 [47, 110, 47, 113]) (st 0) fun _ M =>
    ask M (qC 18 [113]) (st 3) fun _ M =>
    true
theorem cwd_c (z : Int) {r : Nat} (e : andI z 255 = (r : Int)) (hb : Nat.blt r 256 = true) {f : List Nat} (ha : binFast .add (.str [102]) (.str (decL r)) = some (.str f)) (hf : f.length ≤ 4) {M : Md} {s : St} (hW : WL s M []) (h : cwdV M f = true) :
    (sem Tryz.prog).call 42 [.fn 62 [.ptr 13 0], .raw (.int .i64 z)] s (fun v _ => isTrue v) (fun _ _ => false) = true := by
  have H := ok4
  unfold cwdV at h
  obtain ⟨a1, M1, e1, p1, h⟩ := ask_inv h
  have p1 := st_of p1
  obtain ⟨a2, M2, e2, p2, h⟩ := ask_inv h
  have p2 := st_of p2
  obtain ⟨a3, M3, e3, p3, h⟩ := ask_inv h
  have p3 := st_of p3
  obtain ⟨a4, M4, e4, p4, h⟩ := ask_inv h
  have p4 := st_of p4
  obtain ⟨a5, M5, e5, p5, h⟩ := ask_inv h
  have p5 := st_of p5
  obtain ⟨a6, M6, e6, p6, h⟩ := ask_inv h
  have p6 := st_of p6
  obtain ⟨a7, M7, e7, p7, h⟩ := ask_inv h
  have p7 := st_of p7
  obtain ⟨a8, M8, e8, p8, h⟩ := ask_inv h
  have p8 := st_of p8
  obtain ⟨a9, M9, e9, p9, h⟩ := ask_inv h
  have p9 := st_of p9
  obtain ⟨a10, M10, e10, p10, h⟩ := ask_inv h
  have p10 := st_of p10
  obtain ⟨a11, M11, e11, p11, h⟩ := ask_inv h
  have p11 := st_of p11
  obtain ⟨a12, M12, e12, p12, h⟩ := ask_inv h
  have p12 := st_of p12
  obtain ⟨a13, M13, e13, p13, h⟩ := ask_inv h
  have p13 := st_of p13
  obtain ⟨a14, M14, e14, p14, h⟩ := ask_inv h
  have p14 := st_of p14
  obtain ⟨a15, M15, e15, p15, h⟩ := ask_inv h
  have p15 := st_of p15
  obtain ⟨a16, M16, e16, p16, h⟩ := ask_inv h
  have p16 := st_of p16
  obtain ⟨a17, M17, e17, p17, h⟩ := ask_inv h
  have p17 := st_of p17
  obtain ⟨a18, M18, e18, p18, h⟩ := ask_inv h
  have p18 := st_of p18
  obtain ⟨a19, M19, e19, p19, h⟩ := ask_inv h
  have p19 := st_of p19
  have f0 : binFast .add (.str [47, 100, 47, 101, 47]) (.str f) = some (.str (47 :: 100 :: 47 :: 101 :: 47 :: f)) := b_add (by simp; omega)
  have f1 : binFast .add (.str [46, 46, 47, 101, 47]) (.str f) = some (.str (46 :: 46 :: 47 :: 101 :: 47 :: f)) := b_add (by simp; omega)
  have f2 : binFast .add (.str [47, 122, 47, 101, 47]) (.str f) = some (.str (47 :: 122 :: 47 :: 101 :: 47 :: f)) := b_add (by simp; omega)
  refine w_call H 123 fn_42 rfl rfl ?_
  repeat (first | with_reducible (refine w_one H ?_; constructor) | simp only [rB, rP, rQ, boolA, intA, resultA, resA, reduceIte, reduceCtorEq, Nat.reduceAdd, Nat.reduceLT, Nat.reduceEqDiff, UInt8.reduceToNat, pe4, pf4, b_eqi, b_nei, b_lt, b_le, b_gt, b_ge, fn_an0, fn_an1, fn_an4, fn_an5, bc_01, bc_012, bc_015, bc_0145, bc_0147, bc_016, bc_0167, bc_017, bc_03, bc_035, bc_0347, beq_self_eq_true, bne_self_eq_false, Int.reduceBEq, Int.reduceBNe, Int.reduceLT, Int.reduceLE, Int.reduceGT, decide_true, decide_false, eqB_self, e, c_dec hb, ha, f0, f1, f2, p7, p14, Tryz.results42] | (with_reducible refine lmake_c ok3 hW (by assumption) (by assumption) ?_; intro s hW hl) | (with_reducible refine lstatus_c ok3 hW (by assumption) (by assumption) ?_; intro s hW hl) | (with_reducible refine lwrite_c ok3 hW (by assumption) (by assumption) ?_; intro s hW hl) | (with_reducible refine lread_c ok3 hW (by assumption) (by assumption) ?_; intro s hW hl) | (with_reducible refine lface_c hW (by assumption) ?_; intro s V hW hl hV))
  rfl
theorem cwdRun : allN 256 (fun r => cwdV M0 (102 :: decL r)) = true := by kernel_rfl
end Go.AX
namespace Go.AX
open Go.Proofs Go.RowKit
set_option maxRecDepth 1000000
set_option linter.unusedSimpArgs false
set_option linter.unusedVariables false
theorem cwdAll (a0 : Int) {s : St} (hW : WL s M0 []) : (sem Tryz.prog).call 42 [.fn 62 [.ptr 13 0], .raw (.int .i64 a0)] s (fun v _ => isTrue v) (fun _ _ => false) = true := by
  obtain ⟨r, hr, e⟩ := and_lt (x := a0) (m := 255) (by decide)
  exact cwd_c a0 e (Nat.blt_eq.mpr (by omega)) (f := 102 :: decL r) (b_add (by have := decL_len (n := r); simp; omega)) (by have := decL_len (n := r); simp; omega) hW (allN_at cwdRun (by omega))
theorem cwdWalk (a0 : Int) (w : Go.World) : Calls Tryz.prog 14 #[.int .i64 a0] w fun e w' => e = .returned (.bool true) ∧ Below w.heap.size w w' := by
  refine sem_walk (args := [.raw (.int .i64 a0)]) (Args := [.int .i64 a0]) (VRels.cons (by simp [VRel]) VRels.nil) ?_ w
  have H := ok3
  show (sem Tryz.prog).call 14 [.raw (.int .i64 a0)] st0 _ _ = true
  refine w_call H 9 fn_14 rfl rfl ?_
  repeat (first | with_reducible (refine w_one H ?_; constructor) | simp only [rB, rP, rQ, boolA, intA, resultA, resA, reduceIte, reduceCtorEq, Nat.reduceAdd, Nat.reduceLT, Nat.reduceEqDiff, UInt8.reduceToNat, pe3, pf3, c_awake, Tryz.results14] | (with_reducible refine faceW_c ?_; intro s hW) | (with_reducible refine call_true (cwdAll a0 hW) (fun s' => ?_)))
  rfl
end Go.AX
