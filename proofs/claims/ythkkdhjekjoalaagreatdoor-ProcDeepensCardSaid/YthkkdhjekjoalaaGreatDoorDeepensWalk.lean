import Derived.Test.YthkkdhjekjoalaaGreatDoorD2
set_option linter.unusedVariables false
set_option linter.unusedSimpArgs false
set_option linter.defProp false
namespace Go.AX
open Go.Proofs Go.RowKit
set_option maxRecDepth 1000000
set_option maxHeartbeats 40000000
set_option linter.unusedSimpArgs false
set_option linter.unusedVariables false

def xbL : Nat → List Nat
  | 0 => [47, 120]
  | n + 1 => xbL n ++ [47, 98]
theorem xb_len : ∀ {n : Nat}, (xbL n).length = 2 * n + 2
  | 0 => rfl
  | n + 1 => by simp [xbL, xb_len (n := n)]; omega
def tpL : Nat → List Nat
  | 0 => []
  | n + 1 => tpL n ++ [47, 116]
theorem tp_len : ∀ {n : Nat}, (tpL n).length = 2 * n
  | 0 => rfl
  | n + 1 => by simp [tpL, tp_len (n := n)]; omega
def upPT (f : Nat → Cl) (P : Md → Bool) : Nat → Nat → Md → Bool
  | 0, _, M => P M
  | n + 1, i, M => ask M (f i) (st 0) fun _ M => upPT f P n (i + 1) M
def deepF (b t : Nat) (M : Md) : Bool := bif Nat.blt 8 (t + b) then (ask M (rnC [47, 120] (tpL (t - 1) ++ [47, 121])) (st 8) fun _ M => ask M (qC 1 (xbL b)) (st 0) fun _ _ => true)
  else (ask M (rnC [47, 120] (tpL (t - 1) ++ [47, 121])) (st 0) fun _ M => ask M (qC 1 [47, 120]) (st 1) fun _ M => ask M (qC 3 (tpL (t - 1) ++ [47, 121])) (st 0) fun _ _ => true)
def deepV (M : Md) (b t : Nat) : Bool := ask M (mkC 6 [47, 120]) (st 0) fun _ M => upPT (fun i => mkC 6 (xbL (i + 1))) (upPT (fun i => mkC 6 (tpL (i + 1))) (deepF b t) (t - 1) 0) b 0 M
theorem deepens_c (z0 z1 : Int) {b : Nat} (eb : andI z0 3 = (b : Int)) (hb : b ≤ 3) {c : Nat} (ec : andI z1 7 = (c : Int)) (hc : c ≤ 7) {M : Md} {s : St} (hW : WL s M []) (h : deepV M b (1 + c) = true) :
    (sem Tryz.prog).call 47 [.fn 62 [.ptr 13 0], .raw (.int .i64 z0), .raw (.int .i64 z1)] s (fun v _ => isTrue v) (fun _ _ => false) = true := by
  have H := ok4
  have wt : IntKind.i64.wrap (1 + (c : Int)) = ((1 + c : Nat) : Int) := by
    rw [show 1 + (c : Int) = ((1 + c : Nat) : Int) from by simp]
    exact wrap_nat (by omega)
  unfold deepV at h
  obtain ⟨a1, M1, e1, p1, h⟩ := ask_inv h
  have p1 := st_of p1
  refine w_call H 91 fn_47 rfl rfl ?_
  repeat (first | with_reducible (refine w_one H ?_; constructor) | simp only [rB, rP, rQ, boolA, intA, resultA, resA, reduceIte, reduceCtorEq, Nat.reduceAdd, Nat.reduceLT, Nat.reduceEqDiff, UInt8.reduceToNat, pe4, pf4, b_eqi, b_nei, b_lt, b_le, b_gt, b_ge, fn_an0, fn_an1, fn_an4, fn_an5, bc_01, bc_012, bc_015, bc_0145, bc_0147, bc_016, bc_0167, bc_017, bc_03, bc_035, bc_0347, beq_self_eq_true, bne_self_eq_false, Int.reduceBEq, Int.reduceBNe, Int.reduceLT, Int.reduceLE, Int.reduceGT, decide_true, decide_false, eqB_self, la_cons, la_nil, b_plus, eb, ec, wt] | (with_reducible refine lmake_c ok3 hW (by assumption) (by assumption) ?_; intro s hW hl) | (with_reducible refine lstatus_c ok3 hW (by assumption) (by assumption) ?_; intro s hW hl) | (with_reducible refine lwrite_c ok3 hW (by assumption) (by assumption) ?_; intro s hW hl) | (with_reducible refine lread_c ok3 hW (by assumption) (by assumption) ?_; intro s hW hl))
  refine w_loop_ind H (fun n t s => ∃ (i : Nat) (M : Md), n + i = b ∧ tg t 0 = .fn 62 [.ptr 13 0] ∧ tg t 7 = .raw (.int .i64 (b : Int)) ∧ tg t 8 = .raw (.int .i64 ((1 + c : Nat) : Int)) ∧ tg t 9 = .str (xbL i) ∧ tg t 10 = .str [] ∧ tg t 11 = .raw (.bool true) ∧ tg t 12 = .raw (.int .i64 (i : Int)) ∧ WL s M [] ∧ upPT (fun i => mkC 6 (xbL (i + 1))) (upPT (fun i => mkC 6 (tpL (i + 1))) (deepF b (1 + c)) (1 + c - 1) 0) n i M = true) (n := b)
    ⟨0, M1, rfl, by simp only [rB, rP, rQ, boolA, intA, resultA, resA, reduceIte, reduceCtorEq, Nat.reduceAdd, Nat.reduceLT, Nat.reduceEqDiff, UInt8.reduceToNat], by simp only [rB, rP, rQ, boolA, intA, resultA, resA, reduceIte, reduceCtorEq, Nat.reduceAdd, Nat.reduceLT, Nat.reduceEqDiff, UInt8.reduceToNat], by simp only [rB, rP, rQ, boolA, intA, resultA, resA, reduceIte, reduceCtorEq, Nat.reduceAdd, Nat.reduceLT, Nat.reduceEqDiff, UInt8.reduceToNat], by simp only [rB, rP, rQ, boolA, intA, resultA, resA, reduceIte, reduceCtorEq, Nat.reduceAdd, Nat.reduceLT, Nat.reduceEqDiff, UInt8.reduceToNat]; rfl, by simp only [rB, rP, rQ, boolA, intA, resultA, resA, reduceIte, reduceCtorEq, Nat.reduceAdd, Nat.reduceLT, Nat.reduceEqDiff, UInt8.reduceToNat], by simp only [rB, rP, rQ, boolA, intA, resultA, resA, reduceIte, reduceCtorEq, Nat.reduceAdd, Nat.reduceLT, Nat.reduceEqDiff, UInt8.reduceToNat], by simp only [rB, rP, rQ, boolA, intA, resultA, resA, reduceIte, reduceCtorEq, Nat.reduceAdd, Nat.reduceLT, Nat.reduceEqDiff, UInt8.reduceToNat]; rfl, hW, h⟩ ?_
  rintro n t s' ih ⟨i, M', hn, t0, t7, t8, t9, t10, t11, t12, hW, h⟩
  cases n with
  | succ n =>
    have g0 : decide ((i : Int) < (b : Int)) = true := by rw [decide_eq_true_eq]; omega
    have ew : IntKind.i64.wrap ((i : Int) + 1) = ((i + 1 : Nat) : Int) := by
      rw [show (i : Int) + 1 = ((i + 1 : Nat) : Int) from by simp]
      exact wrap_nat (by omega)
    have ha : binFast .add (.str (xbL i)) (.str [47, 98]) = some (.str (xbL (i + 1))) := b_add (by rw [xb_len]; simp; omega)
    obtain ⟨b1, Mb, f1, pb, h⟩ := ask_inv h
    have pb := st_of pb
    repeat (first | with_reducible (refine w_one H ?_; constructor) | simp only [rB, rP, rQ, boolA, intA, resultA, resA, reduceIte, reduceCtorEq, Nat.reduceAdd, Nat.reduceLT, Nat.reduceEqDiff, UInt8.reduceToNat, pe4, pf4, b_eqi, b_nei, b_lt, b_le, b_gt, b_ge, fn_an0, fn_an1, fn_an4, fn_an5, bc_01, bc_012, bc_015, bc_0145, bc_0147, bc_016, bc_0167, bc_017, bc_03, bc_035, bc_0347, beq_self_eq_true, bne_self_eq_false, Int.reduceBEq, Int.reduceBNe, Int.reduceLT, Int.reduceLE, Int.reduceGT, decide_true, decide_false, eqB_self, la_cons, la_nil, b_plus, eb, ec, wt, t0, t7, t8, t9, t10, t11, t12, g0, ew, ha] | (with_reducible refine lmake_c ok3 hW (by assumption) (by assumption) ?_; intro s hW hl) | (with_reducible refine lstatus_c ok3 hW (by assumption) (by assumption) ?_; intro s hW hl) | (with_reducible refine lwrite_c ok3 hW (by assumption) (by assumption) ?_; intro s hW hl) | (with_reducible refine lread_c ok3 hW (by assumption) (by assumption) ?_; intro s hW hl))
    exact ih n _ _ (by omega) ⟨i + 1, Mb, by omega, by simp only [rB, rP, rQ, boolA, intA, resultA, resA, reduceIte, reduceCtorEq, Nat.reduceAdd, Nat.reduceLT, Nat.reduceEqDiff, UInt8.reduceToNat, t0], by simp only [rB, rP, rQ, boolA, intA, resultA, resA, reduceIte, reduceCtorEq, Nat.reduceAdd, Nat.reduceLT, Nat.reduceEqDiff, UInt8.reduceToNat, t7], by simp only [rB, rP, rQ, boolA, intA, resultA, resA, reduceIte, reduceCtorEq, Nat.reduceAdd, Nat.reduceLT, Nat.reduceEqDiff, UInt8.reduceToNat, t8], by simp only [rB, rP, rQ, boolA, intA, resultA, resA, reduceIte, reduceCtorEq, Nat.reduceAdd, Nat.reduceLT, Nat.reduceEqDiff, UInt8.reduceToNat], by simp only [rB, rP, rQ, boolA, intA, resultA, resA, reduceIte, reduceCtorEq, Nat.reduceAdd, Nat.reduceLT, Nat.reduceEqDiff, UInt8.reduceToNat, t10], by simp only [rB, rP, rQ, boolA, intA, resultA, resA, reduceIte, reduceCtorEq, Nat.reduceAdd, Nat.reduceLT, Nat.reduceEqDiff, UInt8.reduceToNat], by simp only [rB, rP, rQ, boolA, intA, resultA, resA, reduceIte, reduceCtorEq, Nat.reduceAdd, Nat.reduceLT, Nat.reduceEqDiff, UInt8.reduceToNat], hW, h⟩
  | zero =>
  have hib : i = b := by omega
  rw [hib] at t9 t12
  clear ih
  unfold upPT at h
  have g0 : decide ((b : Int) < (b : Int)) = false := by rw [decide_eq_false_iff_not]; omega
  repeat (first | with_reducible (refine w_one H ?_; constructor) | simp only [rB, rP, rQ, boolA, intA, resultA, resA, reduceIte, reduceCtorEq, Nat.reduceAdd, Nat.reduceLT, Nat.reduceEqDiff, UInt8.reduceToNat, pe4, pf4, b_eqi, b_nei, b_lt, b_le, b_gt, b_ge, fn_an0, fn_an1, fn_an4, fn_an5, bc_01, bc_012, bc_015, bc_0145, bc_0147, bc_016, bc_0167, bc_017, bc_03, bc_035, bc_0347, beq_self_eq_true, bne_self_eq_false, Int.reduceBEq, Int.reduceBNe, Int.reduceLT, Int.reduceLE, Int.reduceGT, decide_true, decide_false, eqB_self, la_cons, la_nil, b_plus, eb, ec, wt, t0, t7, t8, t9, t10, t11, t12, g0])
  refine w_loop_ind H (fun n t s => ∃ (i : Nat) (M : Md), n + i = c ∧ tg t 0 = .fn 62 [.ptr 13 0] ∧ tg t 7 = .raw (.int .i64 (b : Int)) ∧ tg t 8 = .raw (.int .i64 ((1 + c : Nat) : Int)) ∧ tg t 9 = .str (xbL b) ∧ tg t 10 = .str (tpL i) ∧ tg t 11 = .raw (.bool true) ∧ tg t 13 = .raw (.int .i64 ((i + 1 : Nat) : Int)) ∧ WL s M [] ∧ upPT (fun i => mkC 6 (tpL (i + 1))) (deepF b (1 + c)) n i M = true) (n := c)
    ⟨0, M', rfl, by simp only [rB, rP, rQ, boolA, intA, resultA, resA, reduceIte, reduceCtorEq, Nat.reduceAdd, Nat.reduceLT, Nat.reduceEqDiff, UInt8.reduceToNat, t0], by simp only [rB, rP, rQ, boolA, intA, resultA, resA, reduceIte, reduceCtorEq, Nat.reduceAdd, Nat.reduceLT, Nat.reduceEqDiff, UInt8.reduceToNat, t7], by simp only [rB, rP, rQ, boolA, intA, resultA, resA, reduceIte, reduceCtorEq, Nat.reduceAdd, Nat.reduceLT, Nat.reduceEqDiff, UInt8.reduceToNat, t8], by simp only [rB, rP, rQ, boolA, intA, resultA, resA, reduceIte, reduceCtorEq, Nat.reduceAdd, Nat.reduceLT, Nat.reduceEqDiff, UInt8.reduceToNat, t9], by simp only [rB, rP, rQ, boolA, intA, resultA, resA, reduceIte, reduceCtorEq, Nat.reduceAdd, Nat.reduceLT, Nat.reduceEqDiff, UInt8.reduceToNat, t10]; rfl, by simp only [rB, rP, rQ, boolA, intA, resultA, resA, reduceIte, reduceCtorEq, Nat.reduceAdd, Nat.reduceLT, Nat.reduceEqDiff, UInt8.reduceToNat, t11], by simp only [rB, rP, rQ, boolA, intA, resultA, resA, reduceIte, reduceCtorEq, Nat.reduceAdd, Nat.reduceLT, Nat.reduceEqDiff, UInt8.reduceToNat]; rfl, hW, by rw [show 1 + c - 1 = c from by omega] at h; exact h⟩ ?_
  clear t0 t7 t8 t9 t10 t11 t12 hn hib h hW
  rintro n t s' ih ⟨i, M', hn, t0, t7, t8, t9, t10, t11, t13, hW, h⟩
  cases n with
  | succ n =>
    have g0 : decide (((i + 1 : Nat) : Int) < ((1 + c : Nat) : Int)) = true := by rw [decide_eq_true_eq]; omega
    have ew : IntKind.i64.wrap (((i + 1 : Nat) : Int) + 1) = ((i + 1 + 1 : Nat) : Int) := by
      rw [show ((i + 1 : Nat) : Int) + 1 = ((i + 1 + 1 : Nat) : Int) from by simp]
      exact wrap_nat (by omega)
    have ha : binFast .add (.str (tpL i)) (.str [47, 116]) = some (.str (tpL (i + 1))) := b_add (by rw [tp_len]; simp; omega)
    obtain ⟨b1, Mb, f1, pb, h⟩ := ask_inv h
    have pb := st_of pb
    repeat (first | with_reducible (refine w_one H ?_; constructor) | simp only [rB, rP, rQ, boolA, intA, resultA, resA, reduceIte, reduceCtorEq, Nat.reduceAdd, Nat.reduceLT, Nat.reduceEqDiff, UInt8.reduceToNat, pe4, pf4, b_eqi, b_nei, b_lt, b_le, b_gt, b_ge, fn_an0, fn_an1, fn_an4, fn_an5, bc_01, bc_012, bc_015, bc_0145, bc_0147, bc_016, bc_0167, bc_017, bc_03, bc_035, bc_0347, beq_self_eq_true, bne_self_eq_false, Int.reduceBEq, Int.reduceBNe, Int.reduceLT, Int.reduceLE, Int.reduceGT, decide_true, decide_false, eqB_self, la_cons, la_nil, b_plus, eb, ec, wt, t0, t7, t8, t9, t10, t11, t13, g0, ew, ha] | (with_reducible refine lmake_c ok3 hW (by assumption) (by assumption) ?_; intro s hW hl) | (with_reducible refine lstatus_c ok3 hW (by assumption) (by assumption) ?_; intro s hW hl) | (with_reducible refine lwrite_c ok3 hW (by assumption) (by assumption) ?_; intro s hW hl) | (with_reducible refine lread_c ok3 hW (by assumption) (by assumption) ?_; intro s hW hl))
    exact ih n _ _ (by omega) ⟨i + 1, Mb, by omega, by simp only [rB, rP, rQ, boolA, intA, resultA, resA, reduceIte, reduceCtorEq, Nat.reduceAdd, Nat.reduceLT, Nat.reduceEqDiff, UInt8.reduceToNat, t0], by simp only [rB, rP, rQ, boolA, intA, resultA, resA, reduceIte, reduceCtorEq, Nat.reduceAdd, Nat.reduceLT, Nat.reduceEqDiff, UInt8.reduceToNat, t7], by simp only [rB, rP, rQ, boolA, intA, resultA, resA, reduceIte, reduceCtorEq, Nat.reduceAdd, Nat.reduceLT, Nat.reduceEqDiff, UInt8.reduceToNat, t8], by simp only [rB, rP, rQ, boolA, intA, resultA, resA, reduceIte, reduceCtorEq, Nat.reduceAdd, Nat.reduceLT, Nat.reduceEqDiff, UInt8.reduceToNat, t9], by simp only [rB, rP, rQ, boolA, intA, resultA, resA, reduceIte, reduceCtorEq, Nat.reduceAdd, Nat.reduceLT, Nat.reduceEqDiff, UInt8.reduceToNat], by simp only [rB, rP, rQ, boolA, intA, resultA, resA, reduceIte, reduceCtorEq, Nat.reduceAdd, Nat.reduceLT, Nat.reduceEqDiff, UInt8.reduceToNat], by simp only [rB, rP, rQ, boolA, intA, resultA, resA, reduceIte, reduceCtorEq, Nat.reduceAdd, Nat.reduceLT, Nat.reduceEqDiff, UInt8.reduceToNat], hW, h⟩
  | zero =>
  have hic : i = c := by omega
  rw [hic] at t10 t13
  clear ih
  unfold upPT deepF at h
  rw [show 1 + c - 1 = c from by omega] at h
  have g0 : decide (((c + 1 : Nat) : Int) < ((1 + c : Nat) : Int)) = false := by rw [decide_eq_false_iff_not]; omega
  have ha : binFast .add (.str (tpL c)) (.str [47, 121]) = some (.str (tpL c ++ [47, 121])) := b_add (by rw [tp_len]; simp; omega)
  have ws : IntKind.i64.wrap (((1 + c : Nat) : Int) + (b : Int)) = ((1 + c + b : Nat) : Int) := by
    rw [show ((1 + c : Nat) : Int) + (b : Int) = ((1 + c + b : Nat) : Int) from by simp]
    exact wrap_nat (by omega)
  by_cases h8 : 8 < 1 + c + b
  · have g8 : decide (((1 + c + b : Nat) : Int) > 8) = true := by rw [decide_eq_true_eq]; omega
    rw [Nat.blt_eq.mpr h8, cond_true] at h
    obtain ⟨a2, M2, f2, p2, h⟩ := ask_inv h
    obtain ⟨a3, M3, f3, p3, h⟩ := ask_inv h
    have p2 := st_of p2
    have p3 := st_of p3
    repeat (first | with_reducible (refine w_one H ?_; constructor) | simp only [rB, rP, rQ, boolA, intA, resultA, resA, reduceIte, reduceCtorEq, Nat.reduceAdd, Nat.reduceLT, Nat.reduceEqDiff, UInt8.reduceToNat, pe4, pf4, b_eqi, b_nei, b_lt, b_le, b_gt, b_ge, fn_an0, fn_an1, fn_an4, fn_an5, bc_01, bc_012, bc_015, bc_0145, bc_0147, bc_016, bc_0167, bc_017, bc_03, bc_035, bc_0347, beq_self_eq_true, bne_self_eq_false, Int.reduceBEq, Int.reduceBNe, Int.reduceLT, Int.reduceLE, Int.reduceGT, decide_true, decide_false, eqB_self, la_cons, la_nil, b_plus, eb, ec, wt, t0, t7, t8, t9, t10, t11, t13, g0, ha])
    refine lface_c hW f2 ?_
    intro s V hW hl hV
    have hW1 := hW.put (.cells (anL 0 0 0 0 [] nilS) 43 0) (.cells (anL 8 a2.num a2.kind a2.mode a2.data V) 43 0)
    repeat (first | with_reducible (refine w_one H ?_; constructor) | simp only [rB, rP, rQ, boolA, intA, resultA, resA, reduceIte, reduceCtorEq, Nat.reduceAdd, Nat.reduceLT, Nat.reduceEqDiff, UInt8.reduceToNat, pe4, pf4, b_eqi, b_nei, b_lt, b_le, b_gt, b_ge, fn_an0, fn_an1, fn_an4, fn_an5, bc_01, bc_012, bc_015, bc_0145, bc_0147, bc_016, bc_0167, bc_017, bc_03, bc_035, bc_0347, beq_self_eq_true, bne_self_eq_false, Int.reduceBEq, Int.reduceBNe, Int.reduceLT, Int.reduceLE, Int.reduceGT, decide_true, decide_false, eqB_self, la_cons, la_nil, b_plus, eb, ec, wt, all_an, st_an hV.cells1.2, stA_an, an_g0, an_g1, an_g2, an_g3, an_g4, an_g5, fa_an0, fa_an1, fa_an2, fa_an3, fa_an4, fa_an5, ldO_an0, ldO_an1, ldO_an2, ldO_an3, ldO_an4, ldO_an5, ld_3, ld_9, ld_41, t0, t7, t8, t9, t10, t11, t13, g8, ws, p2])
    refine lstatus_c ok3 hW1 f3 p3 ?_
    intro s hW hl
    repeat (first | with_reducible (refine w_one H ?_; constructor) | simp only [rB, rP, rQ, boolA, intA, resultA, resA, reduceIte, reduceCtorEq, Nat.reduceAdd, Nat.reduceLT, Nat.reduceEqDiff, UInt8.reduceToNat, pe4, pf4, b_eqi, b_nei, b_lt, b_le, b_gt, b_ge, fn_an0, fn_an1, fn_an4, fn_an5, bc_01, bc_012, bc_015, bc_0145, bc_0147, bc_016, bc_0167, bc_017, bc_03, bc_035, bc_0347, beq_self_eq_true, bne_self_eq_false, Int.reduceBEq, Int.reduceBNe, Int.reduceLT, Int.reduceLE, Int.reduceGT, decide_true, decide_false, eqB_self, la_cons, la_nil, b_plus, eb, ec, wt, Tryz.results47])
    rfl
  · have g8 : decide (((1 + c + b : Nat) : Int) > 8) = false := by rw [decide_eq_false_iff_not]; omega
    have h8' : Nat.blt 8 (1 + c + b) = false := by
      cases hb : Nat.blt 8 (1 + c + b) with
      | false => rfl
      | true => exact absurd (Nat.blt_eq.mp hb) h8
    rw [h8', cond_false] at h
    obtain ⟨a2, M2, f2, p2, h⟩ := ask_inv h
    obtain ⟨a3, M3, f3, p3, h⟩ := ask_inv h
    obtain ⟨a4, M4, f4, p4, h⟩ := ask_inv h
    have p2 := st_of p2
    have p3 := st_of p3
    have p4 := st_of p4
    repeat (first | with_reducible (refine w_one H ?_; constructor) | simp only [rB, rP, rQ, boolA, intA, resultA, resA, reduceIte, reduceCtorEq, Nat.reduceAdd, Nat.reduceLT, Nat.reduceEqDiff, UInt8.reduceToNat, pe4, pf4, b_eqi, b_nei, b_lt, b_le, b_gt, b_ge, fn_an0, fn_an1, fn_an4, fn_an5, bc_01, bc_012, bc_015, bc_0145, bc_0147, bc_016, bc_0167, bc_017, bc_03, bc_035, bc_0347, beq_self_eq_true, bne_self_eq_false, Int.reduceBEq, Int.reduceBNe, Int.reduceLT, Int.reduceLE, Int.reduceGT, decide_true, decide_false, eqB_self, la_cons, la_nil, b_plus, eb, ec, wt, t0, t7, t8, t9, t10, t11, t13, g0, ha])
    refine lface_c hW f2 ?_
    intro s V hW hl hV
    have hW1 := hW.put (.cells (anL 0 0 0 0 [] nilS) 43 0) (.cells (anL 0 a2.num a2.kind a2.mode a2.data V) 43 0)
    repeat (first | with_reducible (refine w_one H ?_; constructor) | simp only [rB, rP, rQ, boolA, intA, resultA, resA, reduceIte, reduceCtorEq, Nat.reduceAdd, Nat.reduceLT, Nat.reduceEqDiff, UInt8.reduceToNat, pe4, pf4, b_eqi, b_nei, b_lt, b_le, b_gt, b_ge, fn_an0, fn_an1, fn_an4, fn_an5, bc_01, bc_012, bc_015, bc_0145, bc_0147, bc_016, bc_0167, bc_017, bc_03, bc_035, bc_0347, beq_self_eq_true, bne_self_eq_false, Int.reduceBEq, Int.reduceBNe, Int.reduceLT, Int.reduceLE, Int.reduceGT, decide_true, decide_false, eqB_self, la_cons, la_nil, b_plus, eb, ec, wt, all_an, st_an hV.cells1.2, stA_an, an_g0, an_g1, an_g2, an_g3, an_g4, an_g5, fa_an0, fa_an1, fa_an2, fa_an3, fa_an4, fa_an5, ldO_an0, ldO_an1, ldO_an2, ldO_an3, ldO_an4, ldO_an5, ld_3, ld_9, ld_41, t0, t7, t8, t9, t10, t11, t13, g8, ws, p2])
    refine lstatus_c ok3 hW1 f3 p3 ?_
    intro s hW hl
    repeat (first | with_reducible (refine w_one H ?_; constructor) | simp only [rB, rP, rQ, boolA, intA, resultA, resA, reduceIte, reduceCtorEq, Nat.reduceAdd, Nat.reduceLT, Nat.reduceEqDiff, UInt8.reduceToNat, pe4, pf4, b_eqi, b_nei, b_lt, b_le, b_gt, b_ge, fn_an0, fn_an1, fn_an4, fn_an5, bc_01, bc_012, bc_015, bc_0145, bc_0147, bc_016, bc_0167, bc_017, bc_03, bc_035, bc_0347, beq_self_eq_true, bne_self_eq_false, Int.reduceBEq, Int.reduceBNe, Int.reduceLT, Int.reduceLE, Int.reduceGT, decide_true, decide_false, eqB_self, la_cons, la_nil, b_plus, eb, ec, wt, t0, t10, ha, Tryz.results47] | (with_reducible refine lmake_c ok3 hW (by assumption) (by assumption) ?_; intro s hW hl) | (with_reducible refine lstatus_c ok3 hW (by assumption) (by assumption) ?_; intro s hW hl) | (with_reducible refine lwrite_c ok3 hW (by assumption) (by assumption) ?_; intro s hW hl) | (with_reducible refine lread_c ok3 hW (by assumption) (by assumption) ?_; intro s hW hl))
    rfl
theorem deepRun : allN 4 (fun b => allN 8 (fun c => deepV M0 b (1 + c))) = true := by kernel_rfl
end Go.AX
namespace Go.AX
open Go.Proofs Go.RowKit
set_option maxRecDepth 1000000
set_option linter.unusedSimpArgs false
set_option linter.unusedVariables false
theorem deepensAll (a0 a1 : Int) {s : St} (hW : WL s M0 []) : (sem Tryz.prog).call 47 [.fn 62 [.ptr 13 0], .raw (.int .i64 a0), .raw (.int .i64 a1)] s (fun v _ => isTrue v) (fun _ _ => false) = true := by
  obtain ⟨b, hb, eb⟩ := and_lt (x := a0) (m := 3) (by decide)
  obtain ⟨c, hc, ec⟩ := and_lt (x := a1) (m := 7) (by decide)
  exact deepens_c a0 a1 eb hb ec hc hW (allN_at (allN_at deepRun (i := b) (by omega)) (i := c) (by omega))
theorem deepensWalk (a0 a1 : Int) (w : Go.World) : Calls Tryz.prog 20 #[.int .i64 a0, .int .i64 a1] w fun e w' => e = .returned (.bool true) ∧ Below w.heap.size w w' := by
  refine sem_walk (args := [.raw (.int .i64 a0), .raw (.int .i64 a1)]) (Args := [.int .i64 a0, .int .i64 a1]) (VRels.cons (by simp [VRel]) (VRels.cons (by simp [VRel]) VRels.nil)) ?_ w
  have H := ok3
  show (sem Tryz.prog).call 20 [.raw (.int .i64 a0), .raw (.int .i64 a1)] st0 _ _ = true
  refine w_call H 12 fn_20 rfl rfl ?_
  repeat (first | with_reducible (refine w_one H ?_; constructor) | simp only [rB, rP, rQ, boolA, intA, resultA, resA, reduceIte, reduceCtorEq, Nat.reduceAdd, Nat.reduceLT, Nat.reduceEqDiff, UInt8.reduceToNat, pe3, pf3, c_awake, Tryz.results20] | (with_reducible refine faceW_c ?_; intro s hW) | (with_reducible refine call_true (deepensAll a0 a1 hW) (fun s' => ?_)))
  rfl
end Go.AX
