import Derived.Test.YthkkdhjekjoalaaGreatDoorD2
set_option linter.unusedVariables false
set_option linter.unusedSimpArgs false
set_option linter.defProp false
namespace Go.AX
open Go.Proofs Go.RowKit
set_option maxRecDepth 1000000
set_option maxHeartbeats 40000000
set_option linter.unusedSimpArgs false
set_option linter.unusedVariables false

def fullE (M : Md) (f : List Nat) : Bool := ask M (mkC 6 [100]) (st 10) fun _ M =>
    ask M (mkC 7 [108]) (st 10) fun _ M =>
    ask M (qC 11 f) (st 0) fun _ M =>
    ask M (mkC 6 [100]) (st 0) fun _ M =>
    ask M (mkC 5 [101]) (st 10) fun _ M =>
    true
def fullT (P : Md → Bool) : Nat → Nat → Md → Bool
  | 0, _, M => P M
  | n + 1, i, M => ask M (mkC 5 (102 :: decL i)) (st 0) fun _ M => fullT P n (i + 1) M
theorem full_c (z : Int) {r : Nat} (er : (IntKind.u64.wrap z).tmod 128 = (r : Int)) (hr : r < 128) {M : Md} {s : St} (hW : WL s M []) (h : fullT (fun M => allN 128 (fun r => fullE M (102 :: decL r))) 128 0 M = true) :
    (sem Tryz.prog).call 45 [.fn 62 [.ptr 13 0], .raw (.int .i64 z)] s (fun v _ => isTrue v) (fun _ _ => false) = true := by
  have H := ok4
  have m3 : (128 : Int) ≠ 0 := by decide
  refine w_call H 47 fn_45 rfl rfl ?_
  repeat (first | with_reducible (refine w_one H ?_; constructor) | simp only [rB, rP, rQ, boolA, intA, resultA, resA, reduceIte, reduceCtorEq, Nat.reduceAdd, Nat.reduceLT, Nat.reduceEqDiff, UInt8.reduceToNat, pe4, pf4, b_eqi, b_nei, b_lt, b_le, b_gt, b_ge, fn_an0, fn_an1, fn_an4, fn_an5, bc_01, bc_012, bc_015, bc_0145, bc_0147, bc_016, bc_0167, bc_017, bc_03, bc_035, bc_0347, beq_self_eq_true, bne_self_eq_false, Int.reduceBEq, Int.reduceBNe, Int.reduceLT, Int.reduceLE, Int.reduceGT, decide_true, decide_false, eqB_self, la_cons, la_nil])
  refine w_loop_ind H (fun n t s => ∃ (i : Nat) (M : Md), n + i = 128 ∧ tg t 0 = .fn 62 [.ptr 13 0] ∧ tg t 1 = .raw (.int .i64 z) ∧ tg t 5 = .raw (.int .i64 (i : Int)) ∧ WL s M [] ∧ fullT (fun M => allN 128 (fun r => fullE M (102 :: decL r))) n i M = true) (n := 128)
    ⟨0, M, rfl, by simp only [rB, rP, rQ, boolA, intA, resultA, resA, reduceIte, reduceCtorEq, Nat.reduceAdd, Nat.reduceLT, Nat.reduceEqDiff, UInt8.reduceToNat], by simp only [rB, rP, rQ, boolA, intA, resultA, resA, reduceIte, reduceCtorEq, Nat.reduceAdd, Nat.reduceLT, Nat.reduceEqDiff, UInt8.reduceToNat], by simp only [rB, rP, rQ, boolA, intA, resultA, resA, reduceIte, reduceCtorEq, Nat.reduceAdd, Nat.reduceLT, Nat.reduceEqDiff, UInt8.reduceToNat]; rfl, hW, h⟩ ?_
  rintro n t s' ih ⟨i, M', hn, t0, t1, t5, hW, h⟩
  cases n with
  | succ n =>
    have g0 : decide ((i : Int) < 128) = true := by rw [decide_eq_true_eq]; omega
    have ew : IntKind.i64.wrap ((i : Int) + 1) = ((i + 1 : Nat) : Int) := by
      rw [show (i : Int) + 1 = ((i + 1 : Nat) : Int) from by simp]
      exact wrap_nat (by omega)
    have hb : Nat.blt i 256 = true := Nat.blt_eq.mpr (by omega)
    have ha : binFast .add (.str [102]) (.str (decL i)) = some (.str (102 :: decL i)) := b_add (by have := decL_len (n := i); simp; omega)
    obtain ⟨b, Mb, eb, pb, h⟩ := ask_inv h
    have pb := st_of pb
    repeat (first | with_reducible (refine w_one H ?_; constructor) | simp only [rB, rP, rQ, boolA, intA, resultA, resA, reduceIte, reduceCtorEq, Nat.reduceAdd, Nat.reduceLT, Nat.reduceEqDiff, UInt8.reduceToNat, pe4, pf4, b_eqi, b_nei, b_lt, b_le, b_gt, b_ge, fn_an0, fn_an1, fn_an4, fn_an5, bc_01, bc_012, bc_015, bc_0145, bc_0147, bc_016, bc_0167, bc_017, bc_03, bc_035, bc_0347, beq_self_eq_true, bne_self_eq_false, Int.reduceBEq, Int.reduceBNe, Int.reduceLT, Int.reduceLE, Int.reduceGT, decide_true, decide_false, eqB_self, la_cons, la_nil, b_plus, t0, t1, t5, g0, ew, c_dec hb, ha] | (with_reducible refine lmake_c ok3 hW (by assumption) (by assumption) ?_; intro s hW hl) | (with_reducible refine lstatus_c ok3 hW (by assumption) (by assumption) ?_; intro s hW hl) | (with_reducible refine lwrite_c ok3 hW (by assumption) (by assumption) ?_; intro s hW hl) | (with_reducible refine lread_c ok3 hW (by assumption) (by assumption) ?_; intro s hW hl))
    exact ih n _ _ (by omega) ⟨i + 1, Mb, by omega, by simp only [rB, rP, rQ, boolA, intA, resultA, resA, reduceIte, reduceCtorEq, Nat.reduceAdd, Nat.reduceLT, Nat.reduceEqDiff, UInt8.reduceToNat, t0], by simp only [rB, rP, rQ, boolA, intA, resultA, resA, reduceIte, reduceCtorEq, Nat.reduceAdd, Nat.reduceLT, Nat.reduceEqDiff, UInt8.reduceToNat, t1], by simp only [rB, rP, rQ, boolA, intA, resultA, resA, reduceIte, reduceCtorEq, Nat.reduceAdd, Nat.reduceLT, Nat.reduceEqDiff, UInt8.reduceToNat], hW, h⟩
  | zero =>
    have g0 : decide ((i : Int) < 128) = false := by rw [decide_eq_false_iff_not]; omega
    have hb : Nat.blt r 256 = true := Nat.blt_eq.mpr (by omega)
    have h := allN_at h (i := r) hr
    have hf : (102 :: decL r).length ≤ 4 := by have := decL_len (n := r); simp; omega
    have ha : binFast .add (.str [102]) (.str (decL r)) = some (.str (102 :: decL r)) := b_add (by have := decL_len (n := r); simp; omega)
    have wr : IntKind.i64.wrap (r : Int) = (r : Int) := wrap_nat (by omega)
    generalize 102 :: decL r = f at h hf ha
    unfold fullE at h
    obtain ⟨a1, M1, e1, p1, h⟩ := ask_inv h
    have p1 := st_of p1
    obtain ⟨a2, M2, e2, p2, h⟩ := ask_inv h
    have p2 := st_of p2
    obtain ⟨a3, M3, e3, p3, h⟩ := ask_inv h
    have p3 := st_of p3
    obtain ⟨a4, M4, e4, p4, h⟩ := ask_inv h
    have p4 := st_of p4
    obtain ⟨a5, M5, e5, p5, h⟩ := ask_inv h
    have p5 := st_of p5
    repeat (first | with_reducible (refine w_one H ?_; constructor) | simp only [rB, rP, rQ, boolA, intA, resultA, resA, reduceIte, reduceCtorEq, Nat.reduceAdd, Nat.reduceLT, Nat.reduceEqDiff, UInt8.reduceToNat, pe4, pf4, b_eqi, b_nei, b_lt, b_le, b_gt, b_ge, fn_an0, fn_an1, fn_an4, fn_an5, bc_01, bc_012, bc_015, bc_0145, bc_0147, bc_016, bc_0167, bc_017, bc_03, bc_035, bc_0347, beq_self_eq_true, bne_self_eq_false, Int.reduceBEq, Int.reduceBNe, Int.reduceLT, Int.reduceLE, Int.reduceGT, decide_true, decide_false, eqB_self, la_cons, la_nil, t0, t1, t5, g0, c_dec hb, ha, o_cvt, toU_int, b_rem, eqS_rem, rm_eq m3, u64_int, remA_int, er, i64_int, o_cvi, toI_int, wr, Tryz.results45] | (with_reducible refine lmake_c ok3 hW (by assumption) (by assumption) ?_; intro s hW hl) | (with_reducible refine lstatus_c ok3 hW (by assumption) (by assumption) ?_; intro s hW hl) | (with_reducible refine lwrite_c ok3 hW (by assumption) (by assumption) ?_; intro s hW hl) | (with_reducible refine lread_c ok3 hW (by assumption) (by assumption) ?_; intro s hW hl))
    rfl
theorem fullRun : fullT (fun M => allN 128 (fun r => fullE M (102 :: decL r))) 128 0 M0 = true := by kernel_rfl
end Go.AX
namespace Go.AX
open Go.Proofs Go.RowKit
set_option maxRecDepth 1000000
set_option linter.unusedSimpArgs false
set_option linter.unusedVariables false
theorem fullAll (a0 : Int) {s : St} (hW : WL s M0 []) : (sem Tryz.prog).call 45 [.fn 62 [.ptr 13 0], .raw (.int .i64 a0)] s (fun v _ => isTrue v) (fun _ _ => false) = true := by
  obtain ⟨r, hr, er⟩ := rem_lt (z := a0) (m := 128) (by decide)
  exact full_c a0 er hr hW fullRun
theorem fullWalk (a0 : Int) (w : Go.World) : Calls Tryz.prog 17 #[.int .i64 a0] w fun e w' => e = .returned (.bool true) ∧ Below w.heap.size w w' := by
  refine sem_walk (args := [.raw (.int .i64 a0)]) (Args := [.int .i64 a0]) (VRels.cons (by simp [VRel]) VRels.nil) ?_ w
  have H := ok3
  show (sem Tryz.prog).call 17 [.raw (.int .i64 a0)] st0 _ _ = true
  refine w_call H 9 fn_17 rfl rfl ?_
  repeat (first | with_reducible (refine w_one H ?_; constructor) | simp only [rB, rP, rQ, boolA, intA, resultA, resA, reduceIte, reduceCtorEq, Nat.reduceAdd, Nat.reduceLT, Nat.reduceEqDiff, UInt8.reduceToNat, pe3, pf3, c_awake, Tryz.results17] | (with_reducible refine faceW_c ?_; intro s hW) | (with_reducible refine call_true (fullAll a0 hW) (fun s' => ?_)))
  rfl
end Go.AX
