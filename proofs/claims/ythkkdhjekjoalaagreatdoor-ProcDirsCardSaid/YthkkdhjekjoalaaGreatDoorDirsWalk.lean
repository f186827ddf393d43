import Derived.Test.YthkkdhjekjoalaaGreatDoorD2
set_option linter.unusedVariables false
set_option linter.unusedSimpArgs false
set_option linter.defProp false
namespace Go.AX
open Go.Proofs Go.RowKit
set_option maxRecDepth 1000000
set_option maxHeartbeats 40000000
set_option linter.unusedSimpArgs false
set_option linter.unusedVariables false

def upDT (f : Nat → Cl) (P : Md → Bool) : Nat → Nat → Md → Bool
  | 0, _, M => P M
  | n + 1, i, M => ask M (f i) (st 0) fun _ M => upDT f P n (i + 1) M
def dirsE (M : Md) : Bool := ask M (qC 3 [47]) (ns []) fun _ M =>
    ask M (qC 12 [47]) (st 5) fun _ M =>
    true
def dirsD : Nat → Md → Bool
  | 0, M => dirsE M
  | 1, M => ask M (qC 11 (dpL 1)) (st 4) fun _ M => ask M (qC 12 (dpL 1)) (st 0) fun _ M => dirsE M
  | n + 2, M => ask M (qC 12 (dpL (n + 1))) (st 6) fun _ M => ask M (qC 11 (dpL (n + 2))) (st 4) fun _ M => ask M (qC 12 (dpL (n + 2))) (st 0) fun _ M => dirsD (n + 1) M
def dirsF (k : Nat) (M : Md) : Bool := bif Nat.beq k 8 then (ask M (mkC 6 (dpL (k + 1))) (st 8) fun _ M => dirsD k M) else (ask M (mkC 6 (dpL (k + 1))) (st 0) fun _ M => ask M (qC 12 (dpL (k + 1))) (fun _ => true) fun _ M => dirsD k M)
theorem dirs_c (z : Int) {r : Nat} (e : andI z 7 = (r : Int)) (hr : r ≤ 7) {k : Nat} (hk : 1 + r = k) {M : Md} {s : St} (hW : WL s M []) (h : upDT (fun i => mkC 6 (dpL (i + 1))) (dirsF k) k 0 M = true) :
    (sem Tryz.prog).call 37 [.fn 62 [.ptr 13 0], .raw (.int .i64 z)] s (fun v _ => isTrue v) (fun _ _ => false) = true := by
  have H := ok4
  have wk : IntKind.i64.wrap (1 + (r : Int)) = (k : Int) := by
    rw [show 1 + (r : Int) = (k : Int) from by omega]
    exact wrap_nat (by omega)
  have wk1 : IntKind.i64.wrap ((k : Int) - 1) = (k : Int) - 1 := Go.IntWalk.i64_in _ (by omega)
  refine w_call H 94 fn_37 rfl rfl ?_
  repeat (first | with_reducible (refine w_one H ?_; constructor) | simp only [rB, rP, rQ, boolA, intA, resultA, resA, reduceIte, reduceCtorEq, Nat.reduceAdd, Nat.reduceLT, Nat.reduceEqDiff, UInt8.reduceToNat, pe4, pf4, b_eqi, b_nei, b_lt, b_le, b_gt, b_ge, fn_an0, fn_an1, fn_an4, fn_an5, bc_01, bc_012, bc_015, bc_0145, bc_0147, bc_016, bc_0167, bc_017, bc_03, bc_035, bc_0347, beq_self_eq_true, bne_self_eq_false, Int.reduceBEq, Int.reduceBNe, Int.reduceLT, Int.reduceLE, Int.reduceGT, decide_true, decide_false, eqB_self, la_cons, la_nil, b_plus, b_minus, e, wk, b_mul, eqS_mul, mul_eq, mulA_int, i64_int] | (with_reducible refine lmake_c ok3 hW (by assumption) (by assumption) ?_; intro s hW hl) | (with_reducible refine lstatus_c ok3 hW (by assumption) (by assumption) ?_; intro s hW hl) | (with_reducible refine lwrite_c ok3 hW (by assumption) (by assumption) ?_; intro s hW hl) | (with_reducible refine lread_c ok3 hW (by assumption) (by assumption) ?_; intro s hW hl))
  refine w_loop_ind H (fun n t s => ∃ (i : Nat) (M : Md), n + i = k ∧ tg t 0 = .fn 62 [.ptr 13 0] ∧ tg t 5 = .raw (.int .i64 (k : Int)) ∧ tg t 6 = .str (dpL i) ∧ tg t 7 = .raw (.int .i64 (i : Int)) ∧ WL s M [] ∧ upDT (fun i => mkC 6 (dpL (i + 1))) (dirsF k) n i M = true) (n := k)
    ⟨0, M, rfl, by simp only [rB, rP, rQ, boolA, intA, resultA, resA, reduceIte, reduceCtorEq, Nat.reduceAdd, Nat.reduceLT, Nat.reduceEqDiff, UInt8.reduceToNat], by simp only [rB, rP, rQ, boolA, intA, resultA, resA, reduceIte, reduceCtorEq, Nat.reduceAdd, Nat.reduceLT, Nat.reduceEqDiff, UInt8.reduceToNat], by simp only [rB, rP, rQ, boolA, intA, resultA, resA, reduceIte, reduceCtorEq, Nat.reduceAdd, Nat.reduceLT, Nat.reduceEqDiff, UInt8.reduceToNat]; rfl, by simp only [rB, rP, rQ, boolA, intA, resultA, resA, reduceIte, reduceCtorEq, Nat.reduceAdd, Nat.reduceLT, Nat.reduceEqDiff, UInt8.reduceToNat]; rfl, hW, h⟩ ?_
  rintro n t s' ih ⟨i, M', hn, t0, t5, t6, t7, hW, h⟩
  cases n with
  | succ n =>
    have g0 : decide ((i : Int) < (k : Int)) = true := by rw [decide_eq_true_eq]; omega
    have ew : IntKind.i64.wrap ((i : Int) + 1) = ((i + 1 : Nat) : Int) := by
      rw [show (i : Int) + 1 = ((i + 1 : Nat) : Int) from by simp]
      exact wrap_nat (by omega)
    have ha : binFast .add (.str (dpL i)) (.str [47, 100]) = some (.str (dpL (i + 1))) := b_add (by rw [dp_len]; simp; omega)
    obtain ⟨b, Mb, eb, pb, h⟩ := ask_inv h
    have pb := st_of pb
    repeat (first | with_reducible (refine w_one H ?_; constructor) | simp only [rB, rP, rQ, boolA, intA, resultA, resA, reduceIte, reduceCtorEq, Nat.reduceAdd, Nat.reduceLT, Nat.reduceEqDiff, UInt8.reduceToNat, pe4, pf4, b_eqi, b_nei, b_lt, b_le, b_gt, b_ge, fn_an0, fn_an1, fn_an4, fn_an5, bc_01, bc_012, bc_015, bc_0145, bc_0147, bc_016, bc_0167, bc_017, bc_03, bc_035, bc_0347, beq_self_eq_true, bne_self_eq_false, Int.reduceBEq, Int.reduceBNe, Int.reduceLT, Int.reduceLE, Int.reduceGT, decide_true, decide_false, eqB_self, la_cons, la_nil, b_plus, b_minus, e, wk, b_mul, eqS_mul, mul_eq, mulA_int, i64_int, t0, t5, t6, t7, g0, ew, ha, pb] | (with_reducible refine lmake_c ok3 hW (by assumption) (by assumption) ?_; intro s hW hl) | (with_reducible refine lstatus_c ok3 hW (by assumption) (by assumption) ?_; intro s hW hl) | (with_reducible refine lwrite_c ok3 hW (by assumption) (by assumption) ?_; intro s hW hl) | (with_reducible refine lread_c ok3 hW (by assumption) (by assumption) ?_; intro s hW hl))
    exact ih n _ _ (by omega) ⟨i + 1, Mb, by omega, by simp only [rB, rP, rQ, boolA, intA, resultA, resA, reduceIte, reduceCtorEq, Nat.reduceAdd, Nat.reduceLT, Nat.reduceEqDiff, UInt8.reduceToNat, t0], by simp only [rB, rP, rQ, boolA, intA, resultA, resA, reduceIte, reduceCtorEq, Nat.reduceAdd, Nat.reduceLT, Nat.reduceEqDiff, UInt8.reduceToNat, t5], by simp only [rB, rP, rQ, boolA, intA, resultA, resA, reduceIte, reduceCtorEq, Nat.reduceAdd, Nat.reduceLT, Nat.reduceEqDiff, UInt8.reduceToNat], by simp only [rB, rP, rQ, boolA, intA, resultA, resA, reduceIte, reduceCtorEq, Nat.reduceAdd, Nat.reduceLT, Nat.reduceEqDiff, UInt8.reduceToNat], hW, h⟩
  | zero =>
  have hik : i = k := by omega
  rw [hik] at t6 t7
  clear ih
  have g0 : decide ((k : Int) < (k : Int)) = false := by rw [decide_eq_false_iff_not]; omega
  have ha : binFast .add (.str (dpL k)) (.str [47, 100]) = some (.str (dpL (k + 1))) := b_add (by rw [dp_len]; simp; omega)
  unfold upDT dirsF at h
  by_cases h8 : k = 8
  · have k8 : ((k : Int) == 8) = true := by rw [beq_iff_eq]; omega
    have kl : decide ((k : Int) < 8) = false := by rw [decide_eq_false_iff_not]; omega
    have k8' : Nat.beq k 8 = true := by rw [h8]; rfl
    rw [k8', cond_true] at h
    obtain ⟨a1, M1, f1, p1, h⟩ := ask_inv h
    have p1 := st_of p1
    repeat (first | with_reducible (refine w_one H ?_; constructor) | simp only [rB, rP, rQ, boolA, intA, resultA, resA, reduceIte, reduceCtorEq, Nat.reduceAdd, Nat.reduceLT, Nat.reduceEqDiff, UInt8.reduceToNat, pe4, pf4, b_eqi, b_nei, b_lt, b_le, b_gt, b_ge, fn_an0, fn_an1, fn_an4, fn_an5, bc_01, bc_012, bc_015, bc_0145, bc_0147, bc_016, bc_0167, bc_017, bc_03, bc_035, bc_0347, beq_self_eq_true, bne_self_eq_false, Int.reduceBEq, Int.reduceBNe, Int.reduceLT, Int.reduceLE, Int.reduceGT, decide_true, decide_false, eqB_self, la_cons, la_nil, b_plus, b_minus, e, wk, b_mul, eqS_mul, mul_eq, mulA_int, i64_int, t0, t5, t6, t7, g0, ha, k8, kl, wk1] | (with_reducible refine lmake_c ok3 hW (by assumption) (by assumption) ?_; intro s hW hl) | (with_reducible refine lstatus_c ok3 hW (by assumption) (by assumption) ?_; intro s hW hl) | (with_reducible refine lwrite_c ok3 hW (by assumption) (by assumption) ?_; intro s hW hl) | (with_reducible refine lread_c ok3 hW (by assumption) (by assumption) ?_; intro s hW hl))
    refine w_loop_ind H (fun n t s => ∃ (z' : Int) (M : Md), z' = (n : Int) - 1 ∧ n ≤ k ∧ tg t 0 = .fn 62 [.ptr 13 0] ∧ tg t 6 = .str (dpL k) ∧ tg t 9 = .raw (.int .i64 z') ∧ WL s M [] ∧ dirsD n M = true) (n := k)
      ⟨_, _, rfl, Nat.le_refl _, by simp only [rB, rP, rQ, boolA, intA, resultA, resA, reduceIte, reduceCtorEq, Nat.reduceAdd, Nat.reduceLT, Nat.reduceEqDiff, UInt8.reduceToNat, t0], by simp only [rB, rP, rQ, boolA, intA, resultA, resA, reduceIte, reduceCtorEq, Nat.reduceAdd, Nat.reduceLT, Nat.reduceEqDiff, UInt8.reduceToNat, t6], by simp only [rB, rP, rQ, boolA, intA, resultA, resA, reduceIte, reduceCtorEq, Nat.reduceAdd, Nat.reduceLT, Nat.reduceEqDiff, UInt8.reduceToNat, wk1], hW, h⟩ ?_
    rintro n t s' ih ⟨z', M', hz, hnk, t0, t6, t9, hW, h⟩
    cases n with
    | zero =>
      have g0 : decide (z' ≥ 0) = false := by rw [decide_eq_false_iff_not]; omega
      unfold dirsD dirsE at h
      obtain ⟨a1, M1, e1, p1, h⟩ := ask_inv h
      obtain ⟨a2, M2, e2, p2, h⟩ := ask_inv h
      have p1 := ns_of p1
      have p2 := st_of p2
      repeat (first | with_reducible (refine w_one H ?_; constructor) | simp only [rB, rP, rQ, boolA, intA, resultA, resA, reduceIte, reduceCtorEq, Nat.reduceAdd, Nat.reduceLT, Nat.reduceEqDiff, UInt8.reduceToNat, pe4, pf4, b_eqi, b_nei, b_lt, b_le, b_gt, b_ge, fn_an0, fn_an1, fn_an4, fn_an5, bc_01, bc_012, bc_015, bc_0145, bc_0147, bc_016, bc_0167, bc_017, bc_03, bc_035, bc_0347, beq_self_eq_true, bne_self_eq_false, Int.reduceBEq, Int.reduceBNe, Int.reduceLT, Int.reduceLE, Int.reduceGT, decide_true, decide_false, eqB_self, la_cons, la_nil, b_plus, b_minus, e, wk, b_mul, eqS_mul, mul_eq, mulA_int, i64_int, t0, t6, t9, g0])
      refine lnames_c ok3 hW e1 p1 ?_
      intro s V hW hl hV
      have nl := hV.len
      have ni := hV.ids
      repeat (first | with_reducible (refine w_one H ?_; constructor) | simp only [rB, rP, rQ, boolA, intA, resultA, resA, reduceIte, reduceCtorEq, Nat.reduceAdd, Nat.reduceLT, Nat.reduceEqDiff, UInt8.reduceToNat, pe4, pf4, b_eqi, b_nei, b_lt, b_le, b_gt, b_ge, fn_an0, fn_an1, fn_an4, fn_an5, bc_01, bc_012, bc_015, bc_0145, bc_0147, bc_016, bc_0167, bc_017, bc_03, bc_035, bc_0347, beq_self_eq_true, bne_self_eq_false, Int.reduceBEq, Int.reduceBNe, Int.reduceLT, Int.reduceLE, Int.reduceGT, decide_true, decide_false, eqB_self, la_cons, la_nil, b_plus, b_minus, e, wk, b_mul, eqS_mul, mul_eq, mulA_int, i64_int, t0, t6, t9, nl, ni, List.length_nil, Int.ofNat_zero, Int.cast_ofNat_Int, Tryz.results37] | (with_reducible refine lmake_c ok3 hW (by assumption) (by assumption) ?_; intro s hW hl) | (with_reducible refine lstatus_c ok3 hW (by assumption) (by assumption) ?_; intro s hW hl) | (with_reducible refine lwrite_c ok3 hW (by assumption) (by assumption) ?_; intro s hW hl) | (with_reducible refine lread_c ok3 hW (by assumption) (by assumption) ?_; intro s hW hl))
      rfl
    | succ n =>
      have hz : z' = (n : Int) := by omega
      subst hz
      have g0 : decide ((n : Int) ≥ 0) = true := by rw [decide_eq_true_eq]; omega
      have e0 : IntKind.i64.wrap ((n : Int) - 1) = (n : Int) - 1 := Go.IntWalk.i64_in _ (by omega)
      have e1 : IntKind.i64.wrap (2 * (n : Int)) = ((2 * n : Nat) : Int) := by
        rw [show 2 * (n : Int) = ((2 * n : Nat) : Int) from by simp]
        exact wrap_nat (by omega)
      have e2 : IntKind.i64.wrap (((2 * n : Nat) : Int) + 2) = ((2 * (n + 1) : Nat) : Int) := by
        rw [show ((2 * n : Nat) : Int) + 2 = ((2 * (n + 1) : Nat) : Int) from by omega]
        exact wrap_nat (by omega)
      have s1 : sliceOpA TE 9 (.str (dpL k)) none (some (.raw (.int .i64 ((2 * n : Nat) : Int)))) none = some (.str (dpL n)) := by rw [sl_to (by rw [dp_len]; omega), dp_take (by omega)]
      have s2 : sliceOpA TE 9 (.str (dpL k)) none (some (.raw (.int .i64 ((2 * (n + 1) : Nat) : Int)))) none = some (.str (dpL (n + 1))) := by rw [sl_to (by rw [dp_len]; omega), dp_take (by omega)]
      cases n with
      | zero =>
        have g1 : decide (((0 : Nat) : Int) > 0) = false := rfl
        unfold dirsD at h
        obtain ⟨a2, M2, f2, p2, h⟩ := ask_inv h
        obtain ⟨a3, M3, f3, p3, h⟩ := ask_inv h
        have p2 := st_of p2
        have p3 := st_of p3
        repeat (first | with_reducible (refine w_one H ?_; constructor) | simp only [rB, rP, rQ, boolA, intA, resultA, resA, reduceIte, reduceCtorEq, Nat.reduceAdd, Nat.reduceLT, Nat.reduceEqDiff, UInt8.reduceToNat, pe4, pf4, b_eqi, b_nei, b_lt, b_le, b_gt, b_ge, fn_an0, fn_an1, fn_an4, fn_an5, bc_01, bc_012, bc_015, bc_0145, bc_0147, bc_016, bc_0167, bc_017, bc_03, bc_035, bc_0347, beq_self_eq_true, bne_self_eq_false, Int.reduceBEq, Int.reduceBNe, Int.reduceLT, Int.reduceLE, Int.reduceGT, decide_true, decide_false, eqB_self, la_cons, la_nil, b_plus, b_minus, e, wk, b_mul, eqS_mul, mul_eq, mulA_int, i64_int, t0, t6, t9, g0, g1, e0, e1, e2, s1, s2] | (with_reducible refine lmake_c ok3 hW (by assumption) (by assumption) ?_; intro s hW hl) | (with_reducible refine lstatus_c ok3 hW (by assumption) (by assumption) ?_; intro s hW hl) | (with_reducible refine lwrite_c ok3 hW (by assumption) (by assumption) ?_; intro s hW hl) | (with_reducible refine lread_c ok3 hW (by assumption) (by assumption) ?_; intro s hW hl))
        exact ih 0 _ _ (by omega) ⟨_, M3, rfl, by omega, by simp only [rB, rP, rQ, boolA, intA, resultA, resA, reduceIte, reduceCtorEq, Nat.reduceAdd, Nat.reduceLT, Nat.reduceEqDiff, UInt8.reduceToNat, t0], by simp only [rB, rP, rQ, boolA, intA, resultA, resA, reduceIte, reduceCtorEq, Nat.reduceAdd, Nat.reduceLT, Nat.reduceEqDiff, UInt8.reduceToNat, t6], by simp only [rB, rP, rQ, boolA, intA, resultA, resA, reduceIte, reduceCtorEq, Nat.reduceAdd, Nat.reduceLT, Nat.reduceEqDiff, UInt8.reduceToNat], hW, h⟩
      | succ n =>
        have g1 : decide (((n + 1 : Nat) : Int) > 0) = true := by rw [decide_eq_true_eq]; omega
        unfold dirsD at h
        obtain ⟨a1, M1, f1, p1, h⟩ := ask_inv h
        obtain ⟨a2, M2, f2, p2, h⟩ := ask_inv h
        obtain ⟨a3, M3, f3, p3, h⟩ := ask_inv h
        have p1 := st_of p1
        have p2 := st_of p2
        have p3 := st_of p3
        repeat (first | with_reducible (refine w_one H ?_; constructor) | simp only [rB, rP, rQ, boolA, intA, resultA, resA, reduceIte, reduceCtorEq, Nat.reduceAdd, Nat.reduceLT, Nat.reduceEqDiff, UInt8.reduceToNat, pe4, pf4, b_eqi, b_nei, b_lt, b_le, b_gt, b_ge, fn_an0, fn_an1, fn_an4, fn_an5, bc_01, bc_012, bc_015, bc_0145, bc_0147, bc_016, bc_0167, bc_017, bc_03, bc_035, bc_0347, beq_self_eq_true, bne_self_eq_false, Int.reduceBEq, Int.reduceBNe, Int.reduceLT, Int.reduceLE, Int.reduceGT, decide_true, decide_false, eqB_self, la_cons, la_nil, b_plus, b_minus, e, wk, b_mul, eqS_mul, mul_eq, mulA_int, i64_int, t0, t6, t9, g0, g1, e0, e1, e2, s1, s2] | (with_reducible refine lmake_c ok3 hW (by assumption) (by assumption) ?_; intro s hW hl) | (with_reducible refine lstatus_c ok3 hW (by assumption) (by assumption) ?_; intro s hW hl) | (with_reducible refine lwrite_c ok3 hW (by assumption) (by assumption) ?_; intro s hW hl) | (with_reducible refine lread_c ok3 hW (by assumption) (by assumption) ?_; intro s hW hl))
        exact ih (n + 1) _ _ (by omega) ⟨_, M3, rfl, by omega, by simp only [rB, rP, rQ, boolA, intA, resultA, resA, reduceIte, reduceCtorEq, Nat.reduceAdd, Nat.reduceLT, Nat.reduceEqDiff, UInt8.reduceToNat, t0], by simp only [rB, rP, rQ, boolA, intA, resultA, resA, reduceIte, reduceCtorEq, Nat.reduceAdd, Nat.reduceLT, Nat.reduceEqDiff, UInt8.reduceToNat, t6], by simp only [rB, rP, rQ, boolA, intA, resultA, resA, reduceIte, reduceCtorEq, Nat.reduceAdd, Nat.reduceLT, Nat.reduceEqDiff, UInt8.reduceToNat], hW, h⟩
  · have k8 : ((k : Int) == 8) = false := by rw [beq_eq_false_iff_ne]; omega
    have kl : decide ((k : Int) < 8) = true := by rw [decide_eq_true_eq]; omega
    have k8' : Nat.beq k 8 = false := by
      cases hb : Nat.beq k 8 with
      | false => rfl
      | true => exact absurd (Nat.eq_of_beq_eq_true hb) h8
    rw [k8', cond_false] at h
    obtain ⟨a1, M1, f1, p1, h⟩ := ask_inv h
    obtain ⟨a2, M2, f2, p2, h⟩ := ask_inv h
    have p1 := st_of p1
    have p2 : a2.status = a2.status := rfl
    repeat (first | with_reducible (refine w_one H ?_; constructor) | simp only [rB, rP, rQ, boolA, intA, resultA, resA, reduceIte, reduceCtorEq, Nat.reduceAdd, Nat.reduceLT, Nat.reduceEqDiff, UInt8.reduceToNat, pe4, pf4, b_eqi, b_nei, b_lt, b_le, b_gt, b_ge, fn_an0, fn_an1, fn_an4, fn_an5, bc_01, bc_012, bc_015, bc_0145, bc_0147, bc_016, bc_0167, bc_017, bc_03, bc_035, bc_0347, beq_self_eq_true, bne_self_eq_false, Int.reduceBEq, Int.reduceBNe, Int.reduceLT, Int.reduceLE, Int.reduceGT, decide_true, decide_false, eqB_self, la_cons, la_nil, b_plus, b_minus, e, wk, b_mul, eqS_mul, mul_eq, mulA_int, i64_int, t0, t5, t6, t7, g0, ha, k8, kl, wk1] | (with_reducible refine lmake_c ok3 hW (by assumption) (by assumption) ?_; intro s hW hl) | (with_reducible refine lstatus_c ok3 hW (by assumption) (by assumption) ?_; intro s hW hl) | (with_reducible refine lwrite_c ok3 hW (by assumption) (by assumption) ?_; intro s hW hl) | (with_reducible refine lread_c ok3 hW (by assumption) (by assumption) ?_; intro s hW hl))
    refine w_loop_ind H (fun n t s => ∃ (z' : Int) (M : Md), z' = (n : Int) - 1 ∧ n ≤ k ∧ tg t 0 = .fn 62 [.ptr 13 0] ∧ tg t 6 = .str (dpL k) ∧ tg t 9 = .raw (.int .i64 z') ∧ WL s M [] ∧ dirsD n M = true) (n := k)
      ⟨_, _, rfl, Nat.le_refl _, by simp only [rB, rP, rQ, boolA, intA, resultA, resA, reduceIte, reduceCtorEq, Nat.reduceAdd, Nat.reduceLT, Nat.reduceEqDiff, UInt8.reduceToNat, t0], by simp only [rB, rP, rQ, boolA, intA, resultA, resA, reduceIte, reduceCtorEq, Nat.reduceAdd, Nat.reduceLT, Nat.reduceEqDiff, UInt8.reduceToNat, t6], by simp only [rB, rP, rQ, boolA, intA, resultA, resA, reduceIte, reduceCtorEq, Nat.reduceAdd, Nat.reduceLT, Nat.reduceEqDiff, UInt8.reduceToNat, wk1], hW, h⟩ ?_
    rintro n t s' ih ⟨z', M', hz, hnk, t0, t6, t9, hW, h⟩
    cases n with
    | zero =>
      have g0 : decide (z' ≥ 0) = false := by rw [decide_eq_false_iff_not]; omega
      unfold dirsD dirsE at h
      obtain ⟨a1, M1, e1, p1, h⟩ := ask_inv h
      obtain ⟨a2, M2, e2, p2, h⟩ := ask_inv h
      have p1 := ns_of p1
      have p2 := st_of p2
      repeat (first | with_reducible (refine w_one H ?_; constructor) | simp only [rB, rP, rQ, boolA, intA, resultA, resA, reduceIte, reduceCtorEq, Nat.reduceAdd, Nat.reduceLT, Nat.reduceEqDiff, UInt8.reduceToNat, pe4, pf4, b_eqi, b_nei, b_lt, b_le, b_gt, b_ge, fn_an0, fn_an1, fn_an4, fn_an5, bc_01, bc_012, bc_015, bc_0145, bc_0147, bc_016, bc_0167, bc_017, bc_03, bc_035, bc_0347, beq_self_eq_true, bne_self_eq_false, Int.reduceBEq, Int.reduceBNe, Int.reduceLT, Int.reduceLE, Int.reduceGT, decide_true, decide_false, eqB_self, la_cons, la_nil, b_plus, b_minus, e, wk, b_mul, eqS_mul, mul_eq, mulA_int, i64_int, t0, t6, t9, g0])
      refine lnames_c ok3 hW e1 p1 ?_
      intro s V hW hl hV
      have nl := hV.len
      have ni := hV.ids
      repeat (first | with_reducible (refine w_one H ?_; constructor) | simp only [rB, rP, rQ, boolA, intA, resultA, resA, reduceIte, reduceCtorEq, Nat.reduceAdd, Nat.reduceLT, Nat.reduceEqDiff, UInt8.reduceToNat, pe4, pf4, b_eqi, b_nei, b_lt, b_le, b_gt, b_ge, fn_an0, fn_an1, fn_an4, fn_an5, bc_01, bc_012, bc_015, bc_0145, bc_0147, bc_016, bc_0167, bc_017, bc_03, bc_035, bc_0347, beq_self_eq_true, bne_self_eq_false, Int.reduceBEq, Int.reduceBNe, Int.reduceLT, Int.reduceLE, Int.reduceGT, decide_true, decide_false, eqB_self, la_cons, la_nil, b_plus, b_minus, e, wk, b_mul, eqS_mul, mul_eq, mulA_int, i64_int, t0, t6, t9, nl, ni, List.length_nil, Int.ofNat_zero, Int.cast_ofNat_Int, Tryz.results37] | (with_reducible refine lmake_c ok3 hW (by assumption) (by assumption) ?_; intro s hW hl) | (with_reducible refine lstatus_c ok3 hW (by assumption) (by assumption) ?_; intro s hW hl) | (with_reducible refine lwrite_c ok3 hW (by assumption) (by assumption) ?_; intro s hW hl) | (with_reducible refine lread_c ok3 hW (by assumption) (by assumption) ?_; intro s hW hl))
      rfl
    | succ n =>
      have hz : z' = (n : Int) := by omega
      subst hz
      have g0 : decide ((n : Int) ≥ 0) = true := by rw [decide_eq_true_eq]; omega
      have e0 : IntKind.i64.wrap ((n : Int) - 1) = (n : Int) - 1 := Go.IntWalk.i64_in _ (by omega)
      have e1 : IntKind.i64.wrap (2 * (n : Int)) = ((2 * n : Nat) : Int) := by
        rw [show 2 * (n : Int) = ((2 * n : Nat) : Int) from by simp]
        exact wrap_nat (by omega)
      have e2 : IntKind.i64.wrap (((2 * n : Nat) : Int) + 2) = ((2 * (n + 1) : Nat) : Int) := by
        rw [show ((2 * n : Nat) : Int) + 2 = ((2 * (n + 1) : Nat) : Int) from by omega]
        exact wrap_nat (by omega)
      have s1 : sliceOpA TE 9 (.str (dpL k)) none (some (.raw (.int .i64 ((2 * n : Nat) : Int)))) none = some (.str (dpL n)) := by rw [sl_to (by rw [dp_len]; omega), dp_take (by omega)]
      have s2 : sliceOpA TE 9 (.str (dpL k)) none (some (.raw (.int .i64 ((2 * (n + 1) : Nat) : Int)))) none = some (.str (dpL (n + 1))) := by rw [sl_to (by rw [dp_len]; omega), dp_take (by omega)]
      cases n with
      | zero =>
        have g1 : decide (((0 : Nat) : Int) > 0) = false := rfl
        unfold dirsD at h
        obtain ⟨a2, M2, f2, p2, h⟩ := ask_inv h
        obtain ⟨a3, M3, f3, p3, h⟩ := ask_inv h
        have p2 := st_of p2
        have p3 := st_of p3
        repeat (first | with_reducible (refine w_one H ?_; constructor) | simp only [rB, rP, rQ, boolA, intA, resultA, resA, reduceIte, reduceCtorEq, Nat.reduceAdd, Nat.reduceLT, Nat.reduceEqDiff, UInt8.reduceToNat, pe4, pf4, b_eqi, b_nei, b_lt, b_le, b_gt, b_ge, fn_an0, fn_an1, fn_an4, fn_an5, bc_01, bc_012, bc_015, bc_0145, bc_0147, bc_016, bc_0167, bc_017, bc_03, bc_035, bc_0347, beq_self_eq_true, bne_self_eq_false, Int.reduceBEq, Int.reduceBNe, Int.reduceLT, Int.reduceLE, Int.reduceGT, decide_true, decide_false, eqB_self, la_cons, la_nil, b_plus, b_minus, e, wk, b_mul, eqS_mul, mul_eq, mulA_int, i64_int, t0, t6, t9, g0, g1, e0, e1, e2, s1, s2] | (with_reducible refine lmake_c ok3 hW (by assumption) (by assumption) ?_; intro s hW hl) | (with_reducible refine lstatus_c ok3 hW (by assumption) (by assumption) ?_; intro s hW hl) | (with_reducible refine lwrite_c ok3 hW (by assumption) (by assumption) ?_; intro s hW hl) | (with_reducible refine lread_c ok3 hW (by assumption) (by assumption) ?_; intro s hW hl))
        exact ih 0 _ _ (by omega) ⟨_, M3, rfl, by omega, by simp only [rB, rP, rQ, boolA, intA, resultA, resA, reduceIte, reduceCtorEq, Nat.reduceAdd, Nat.reduceLT, Nat.reduceEqDiff, UInt8.reduceToNat, t0], by simp only [rB, rP, rQ, boolA, intA, resultA, resA, reduceIte, reduceCtorEq, Nat.reduceAdd, Nat.reduceLT, Nat.reduceEqDiff, UInt8.reduceToNat, t6], by simp only [rB, rP, rQ, boolA, intA, resultA, resA, reduceIte, reduceCtorEq, Nat.reduceAdd, Nat.reduceLT, Nat.reduceEqDiff, UInt8.reduceToNat], hW, h⟩
      | succ n =>
        have g1 : decide (((n + 1 : Nat) : Int) > 0) = true := by rw [decide_eq_true_eq]; omega
        unfold dirsD at h
        obtain ⟨a1, M1, f1, p1, h⟩ := ask_inv h
        obtain ⟨a2, M2, f2, p2, h⟩ := ask_inv h
        obtain ⟨a3, M3, f3, p3, h⟩ := ask_inv h
        have p1 := st_of p1
        have p2 := st_of p2
        have p3 := st_of p3
        repeat (first | with_reducible (refine w_one H ?_; constructor) | simp only [rB, rP, rQ, boolA, intA, resultA, resA, reduceIte, reduceCtorEq, Nat.reduceAdd, Nat.reduceLT, Nat.reduceEqDiff, UInt8.reduceToNat, pe4, pf4, b_eqi, b_nei, b_lt, b_le, b_gt, b_ge, fn_an0, fn_an1, fn_an4, fn_an5, bc_01, bc_012, bc_015, bc_0145, bc_0147, bc_016, bc_0167, bc_017, bc_03, bc_035, bc_0347, beq_self_eq_true, bne_self_eq_false, Int.reduceBEq, Int.reduceBNe, Int.reduceLT, Int.reduceLE, Int.reduceGT, decide_true, decide_false, eqB_self, la_cons, la_nil, b_plus, b_minus, e, wk, b_mul, eqS_mul, mul_eq, mulA_int, i64_int, t0, t6, t9, g0, g1, e0, e1, e2, s1, s2] | (with_reducible refine lmake_c ok3 hW (by assumption) (by assumption) ?_; intro s hW hl) | (with_reducible refine lstatus_c ok3 hW (by assumption) (by assumption) ?_; intro s hW hl) | (with_reducible refine lwrite_c ok3 hW (by assumption) (by assumption) ?_; intro s hW hl) | (with_reducible refine lread_c ok3 hW (by assumption) (by assumption) ?_; intro s hW hl))
        exact ih (n + 1) _ _ (by omega) ⟨_, M3, rfl, by omega, by simp only [rB, rP, rQ, boolA, intA, resultA, resA, reduceIte, reduceCtorEq, Nat.reduceAdd, Nat.reduceLT, Nat.reduceEqDiff, UInt8.reduceToNat, t0], by simp only [rB, rP, rQ, boolA, intA, resultA, resA, reduceIte, reduceCtorEq, Nat.reduceAdd, Nat.reduceLT, Nat.reduceEqDiff, UInt8.reduceToNat, t6], by simp only [rB, rP, rQ, boolA, intA, resultA, resA, reduceIte, reduceCtorEq, Nat.reduceAdd, Nat.reduceLT, Nat.reduceEqDiff, UInt8.reduceToNat], hW, h⟩
theorem dirsRun : allN 8 (fun r => upDT (fun i => mkC 6 (dpL (i + 1))) (dirsF (1 + r)) (1 + r) 0 M0) = true := by kernel_rfl
end Go.AX
namespace Go.AX
open Go.Proofs Go.RowKit
set_option maxRecDepth 1000000
set_option linter.unusedSimpArgs false
set_option linter.unusedVariables false
theorem dirsAll (a0 : Int) {s : St} (hW : WL s M0 []) : (sem Tryz.prog).call 37 [.fn 62 [.ptr 13 0], .raw (.int .i64 a0)] s (fun v _ => isTrue v) (fun _ _ => false) = true := by
  obtain ⟨r, hr, e⟩ := and_lt (x := a0) (m := 7) (by decide)
  exact dirs_c a0 e hr rfl hW (allN_at dirsRun (i := r) (by omega))
theorem dirsWalk (a0 : Int) (w : Go.World) : Calls Tryz.prog 9 #[.int .i64 a0] w fun e w' => e = .returned (.bool true) ∧ Below w.heap.size w w' := by
  refine sem_walk (args := [.raw (.int .i64 a0)]) (Args := [.int .i64 a0]) (VRels.cons (by simp [VRel]) VRels.nil) ?_ w
  have H := ok3
  show (sem Tryz.prog).call 9 [.raw (.int .i64 a0)] st0 _ _ = true
  refine w_call H 9 fn_9 rfl rfl ?_
  repeat (first | with_reducible (refine w_one H ?_; constructor) | simp only [rB, rP, rQ, boolA, intA, resultA, resA, reduceIte, reduceCtorEq, Nat.reduceAdd, Nat.reduceLT, Nat.reduceEqDiff, UInt8.reduceToNat, pe3, pf3, c_awake, Tryz.results9] | (with_reducible refine faceW_c ?_; intro s hW) | (with_reducible refine call_true (dirsAll a0 hW) (fun s' => ?_)))
  rfl
end Go.AX
