import Derived.Test.YthkkdhjekjoalaaGreatDoorD2
set_option linter.unusedVariables false
set_option linter.unusedSimpArgs false
set_option linter.defProp false
namespace Go.AX
open Go.Proofs Go.RowKit
set_option maxRecDepth 1000000
set_option maxHeartbeats 40000000
set_option linter.unusedSimpArgs false
set_option linter.unusedVariables false

def loopsA (at_ : List Nat) (M : Md) : Bool := ask M ((⟨7, [97], [], 0, 0, 0, 0, [98]⟩ : Cl)) (st 0) fun _ M =>
    ask M ((⟨7, [98], [], 0, 0, 0, 0, [97]⟩ : Cl)) (st 0) fun _ M =>
    ask M ((⟨2, at_, [], 0, 0, 5, 0, []⟩ : Cl)) (st 7) fun _ M =>
    ask M (qC 2 [97]) (st 7) fun _ M =>
    true
def loopsB (at_ : List Nat) (M : Md) : Bool := ask M ((⟨7, [97], [], 0, 0, 0, 0, [98]⟩ : Cl)) (st 0) fun _ M =>
    ask M ((⟨7, [98], [], 0, 0, 0, 0, [97]⟩ : Cl)) (st 0) fun _ M =>
    ask M ((⟨2, at_, [], 0, 0, 5, 0, []⟩ : Cl)) (dt [120]) fun _ M =>
    ask M (qC 2 [97]) (st 7) fun _ M =>
    ask M (qC 1 [97]) (st 0) fun _ M =>
    true
def loopsT (P : List Nat → Md → Bool) : Nat → Nat → List Nat → Md → Bool
  | 0, _, at_, M => P at_ M
  | n + 1, i, at_, M => ask M (⟨7, 108 :: decL i, [], 0, 0, 0, 0, at_⟩ : Cl) (st 0) fun _ M => loopsT P n (i + 1) (108 :: decL i) M
def loopsE (k : Nat) (at_ : List Nat) (M : Md) : Bool := bif Nat.blt 8 k then loopsA at_ M else loopsB at_ M
def loopsV (M : Md) (k : Nat) : Bool := ask M (mkC 5 [101, 110, 100]) (st 0) fun _ M =>
    ask M (wrC [101, 110, 100] 0 [120]) (st 0) fun _ M =>
    loopsT (loopsE k) k 0 [101, 110, 100] M
theorem loops_c (z : Int) {r : Nat} (e : andI z 15 = (r : Int)) (hr : r ≤ 15) {k : Nat} (hk : 1 + r = k) {M : Md} {s : St} (hW : WL s M []) (h : loopsV M k = true) :
    (sem Tryz.prog).call 36 [.fn 62 [.ptr 13 0], .raw (.int .i64 z)] s (fun v _ => isTrue v) (fun _ _ => false) = true := by
  have H := ok4
  have wk : IntKind.i64.wrap (1 + (r : Int)) = (k : Int) := by
    rw [show 1 + (r : Int) = (k : Int) from by omega]
    exact wrap_nat (by omega)
  unfold loopsV at h
  obtain ⟨a1, M1, e1, p1, h⟩ := ask_inv h
  have p1 := st_of p1
  obtain ⟨a2, M2, e2, p2, h⟩ := ask_inv h
  have p2 := st_of p2
  refine w_call H 89 fn_36 rfl rfl ?_
  repeat (first | with_reducible (refine w_one H ?_; constructor) | simp only [rB, rP, rQ, boolA, intA, resultA, resA, reduceIte, reduceCtorEq, Nat.reduceAdd, Nat.reduceLT, Nat.reduceEqDiff, UInt8.reduceToNat, pe4, pf4, b_eqi, b_nei, b_lt, b_le, b_gt, b_ge, fn_an0, fn_an1, fn_an4, fn_an5, bc_01, bc_012, bc_015, bc_0145, bc_0147, bc_016, bc_0167, bc_017, bc_03, bc_035, bc_0347, beq_self_eq_true, bne_self_eq_false, Int.reduceBEq, Int.reduceBNe, Int.reduceLT, Int.reduceLE, Int.reduceGT, decide_true, decide_false, eqB_self, la_cons, la_nil, b_plus, e, wk] | (with_reducible refine lmake_c ok3 hW (by assumption) (by assumption) ?_; intro s hW hl) | (with_reducible refine lstatus_c ok3 hW (by assumption) (by assumption) ?_; intro s hW hl) | (with_reducible refine lwrite_c ok3 hW (by assumption) (by assumption) ?_; intro s hW hl) | (with_reducible refine lread_c ok3 hW (by assumption) (by assumption) ?_; intro s hW hl))
  refine w_loop_ind H (fun n t s => ∃ (i : Nat) (at_ : List Nat) (M : Md), n + i = k ∧ tg t 0 = .fn 62 [.ptr 13 0] ∧ tg t 5 = .raw (.int .i64 (k : Int)) ∧ tg t 6 = .raw (.bool true) ∧ tg t 7 = .str at_ ∧ tg t 8 = .raw (.int .i64 (i : Int)) ∧ WL s M [] ∧ loopsT (loopsE k) n i at_ M = true) (n := k)
    ⟨0, _, _, rfl, by simp only [rB, rP, rQ, boolA, intA, resultA, resA, reduceIte, reduceCtorEq, Nat.reduceAdd, Nat.reduceLT, Nat.reduceEqDiff, UInt8.reduceToNat], by simp only [rB, rP, rQ, boolA, intA, resultA, resA, reduceIte, reduceCtorEq, Nat.reduceAdd, Nat.reduceLT, Nat.reduceEqDiff, UInt8.reduceToNat], by simp only [rB, rP, rQ, boolA, intA, resultA, resA, reduceIte, reduceCtorEq, Nat.reduceAdd, Nat.reduceLT, Nat.reduceEqDiff, UInt8.reduceToNat], by simp only [rB, rP, rQ, boolA, intA, resultA, resA, reduceIte, reduceCtorEq, Nat.reduceAdd, Nat.reduceLT, Nat.reduceEqDiff, UInt8.reduceToNat], by simp only [rB, rP, rQ, boolA, intA, resultA, resA, reduceIte, reduceCtorEq, Nat.reduceAdd, Nat.reduceLT, Nat.reduceEqDiff, UInt8.reduceToNat]; rfl, hW, h⟩ ?_
  rintro n t s' ih ⟨i, at_, M', hn, t0, t5, t6, t7, t8, hW, h⟩
  cases n with
  | succ n =>
    have g0 : decide ((i : Int) < (k : Int)) = true := by rw [decide_eq_true_eq]; omega
    have ew : IntKind.i64.wrap ((i : Int) + 1) = ((i + 1 : Nat) : Int) := by
      rw [show (i : Int) + 1 = ((i + 1 : Nat) : Int) from by simp]
      exact wrap_nat (by omega)
    have hb : Nat.blt i 256 = true := Nat.blt_eq.mpr (by omega)
    have ha : binFast .add (.str [108]) (.str (decL i)) = some (.str (108 :: decL i)) := b_add (by have := decL_len (n := i); simp; omega)
    obtain ⟨b, Mb, eb, pb, h⟩ := ask_inv h
    have pb := st_of pb
    repeat (first | with_reducible (refine w_one H ?_; constructor) | simp only [rB, rP, rQ, boolA, intA, resultA, resA, reduceIte, reduceCtorEq, Nat.reduceAdd, Nat.reduceLT, Nat.reduceEqDiff, UInt8.reduceToNat, pe4, pf4, b_eqi, b_nei, b_lt, b_le, b_gt, b_ge, fn_an0, fn_an1, fn_an4, fn_an5, bc_01, bc_012, bc_015, bc_0145, bc_0147, bc_016, bc_0167, bc_017, bc_03, bc_035, bc_0347, beq_self_eq_true, bne_self_eq_false, Int.reduceBEq, Int.reduceBNe, Int.reduceLT, Int.reduceLE, Int.reduceGT, decide_true, decide_false, eqB_self, la_cons, la_nil, b_plus, e, wk, t0, t5, t6, t7, t8, g0, ew, c_dec hb, ha, pb] | (with_reducible refine lface_c hW (by assumption) ?_; intro s V hW hl hV))
    exact ih n _ _ (by omega) ⟨i + 1, _, Mb, by omega, by simp only [rB, rP, rQ, boolA, intA, resultA, resA, reduceIte, reduceCtorEq, Nat.reduceAdd, Nat.reduceLT, Nat.reduceEqDiff, UInt8.reduceToNat, t0], by simp only [rB, rP, rQ, boolA, intA, resultA, resA, reduceIte, reduceCtorEq, Nat.reduceAdd, Nat.reduceLT, Nat.reduceEqDiff, UInt8.reduceToNat, t5], by simp only [rB, rP, rQ, boolA, intA, resultA, resA, reduceIte, reduceCtorEq, Nat.reduceAdd, Nat.reduceLT, Nat.reduceEqDiff, UInt8.reduceToNat], by simp only [rB, rP, rQ, boolA, intA, resultA, resA, reduceIte, reduceCtorEq, Nat.reduceAdd, Nat.reduceLT, Nat.reduceEqDiff, UInt8.reduceToNat], by simp only [rB, rP, rQ, boolA, intA, resultA, resA, reduceIte, reduceCtorEq, Nat.reduceAdd, Nat.reduceLT, Nat.reduceEqDiff, UInt8.reduceToNat], hW, h⟩
  | zero =>
    have g0 : decide ((i : Int) < (k : Int)) = false := by rw [decide_eq_false_iff_not]; omega
    unfold loopsT loopsE at h
    by_cases h8 : 8 < k
    · have g8 : decide ((k : Int) > 8) = true := by rw [decide_eq_true_eq]; omega
      rw [Nat.blt_eq.mpr h8, cond_true] at h
      unfold loopsA at h
      obtain ⟨a1, M1, e1, p1, h⟩ := ask_inv h
      have p1 := st_of p1
      obtain ⟨a2, M2, e2, p2, h⟩ := ask_inv h
      have p2 := st_of p2
      obtain ⟨a3, M3, e3, p3, h⟩ := ask_inv h
      have p3 := st_of p3
      obtain ⟨a4, M4, e4, p4, h⟩ := ask_inv h
      have p4 := st_of p4
      repeat (first | with_reducible (refine w_one H ?_; constructor) | simp only [rB, rP, rQ, boolA, intA, resultA, resA, reduceIte, reduceCtorEq, Nat.reduceAdd, Nat.reduceLT, Nat.reduceEqDiff, UInt8.reduceToNat, pe4, pf4, b_eqi, b_nei, b_lt, b_le, b_gt, b_ge, fn_an0, fn_an1, fn_an4, fn_an5, bc_01, bc_012, bc_015, bc_0145, bc_0147, bc_016, bc_0167, bc_017, bc_03, bc_035, bc_0347, beq_self_eq_true, bne_self_eq_false, Int.reduceBEq, Int.reduceBNe, Int.reduceLT, Int.reduceLE, Int.reduceGT, decide_true, decide_false, eqB_self, la_cons, la_nil, b_plus, e, wk, t0, t5, t6, t7, t8, g0, p1, p2] | (with_reducible refine lface_c hW (by assumption) ?_; intro s V hW hl hV))
      have hW1 := hW.put (.cells (anL 0 0 0 0 [] nilS) 43 0) (.cells (anL 7 a3.num a3.kind a3.mode a3.data V) 43 0)
      repeat (first | with_reducible (refine w_one H ?_; constructor) | simp only [rB, rP, rQ, boolA, intA, resultA, resA, reduceIte, reduceCtorEq, Nat.reduceAdd, Nat.reduceLT, Nat.reduceEqDiff, UInt8.reduceToNat, pe4, pf4, b_eqi, b_nei, b_lt, b_le, b_gt, b_ge, fn_an0, fn_an1, fn_an4, fn_an5, bc_01, bc_012, bc_015, bc_0145, bc_0147, bc_016, bc_0167, bc_017, bc_03, bc_035, bc_0347, beq_self_eq_true, bne_self_eq_false, Int.reduceBEq, Int.reduceBNe, Int.reduceLT, Int.reduceLE, Int.reduceGT, decide_true, decide_false, eqB_self, la_cons, la_nil, b_plus, e, wk, all_an, st_an hV.cells1.2, stA_an, an_g0, an_g1, an_g2, an_g3, an_g4, an_g5, fa_an0, fa_an1, fa_an2, fa_an3, fa_an4, fa_an5, ldO_an0, ldO_an1, ldO_an2, ldO_an3, ldO_an4, ldO_an5, ld_3, ld_9, ld_41, t0, t5, t6, t7, t8, g8, p3])
      refine lstatus_c ok3 hW1 e4 p4 ?_
      intro s hW hl
      repeat (first | with_reducible (refine w_one H ?_; constructor) | simp only [rB, rP, rQ, boolA, intA, resultA, resA, reduceIte, reduceCtorEq, Nat.reduceAdd, Nat.reduceLT, Nat.reduceEqDiff, UInt8.reduceToNat, pe4, pf4, b_eqi, b_nei, b_lt, b_le, b_gt, b_ge, fn_an0, fn_an1, fn_an4, fn_an5, bc_01, bc_012, bc_015, bc_0145, bc_0147, bc_016, bc_0167, bc_017, bc_03, bc_035, bc_0347, beq_self_eq_true, bne_self_eq_false, Int.reduceBEq, Int.reduceBNe, Int.reduceLT, Int.reduceLE, Int.reduceGT, decide_true, decide_false, eqB_self, la_cons, la_nil, b_plus, e, wk, t0, t5, t6, t7, t8, Tryz.results36])
      rfl
    · have g8 : decide ((k : Int) > 8) = false := by rw [decide_eq_false_iff_not]; omega
      have h8' : Nat.blt 8 k = false := by
        cases hb : Nat.blt 8 k with
        | false => rfl
        | true => exact absurd (Nat.blt_eq.mp hb) h8
      rw [h8', cond_false] at h
      unfold loopsB at h
      obtain ⟨a1, M1, e1, p1, h⟩ := ask_inv h
      have p1 := st_of p1
      obtain ⟨a2, M2, e2, p2, h⟩ := ask_inv h
      have p2 := st_of p2
      obtain ⟨a3, M3, e3, p3, h⟩ := ask_inv h
      have p3 := dt_of p3
      obtain ⟨a4, M4, e4, p4, h⟩ := ask_inv h
      have p4 := st_of p4
      obtain ⟨a5, M5, e5, p5, h⟩ := ask_inv h
      have p5 := st_of p5
      repeat (first | with_reducible (refine w_one H ?_; constructor) | simp only [rB, rP, rQ, boolA, intA, resultA, resA, reduceIte, reduceCtorEq, Nat.reduceAdd, Nat.reduceLT, Nat.reduceEqDiff, UInt8.reduceToNat, pe4, pf4, b_eqi, b_nei, b_lt, b_le, b_gt, b_ge, fn_an0, fn_an1, fn_an4, fn_an5, bc_01, bc_012, bc_015, bc_0145, bc_0147, bc_016, bc_0167, bc_017, bc_03, bc_035, bc_0347, beq_self_eq_true, bne_self_eq_false, Int.reduceBEq, Int.reduceBNe, Int.reduceLT, Int.reduceLE, Int.reduceGT, decide_true, decide_false, eqB_self, la_cons, la_nil, b_plus, e, wk, t0, t5, t6, t7, t8, g0, p1, p2] | (with_reducible refine lface_c hW (by assumption) ?_; intro s V hW hl hV))
      have hW1 := hW.put (.cells (anL 0 0 0 0 [] nilS) 43 0) (.cells (anL a3.status a3.num a3.kind a3.mode [120] V) 43 0)
      repeat (first | with_reducible (refine w_one H ?_; constructor) | simp only [rB, rP, rQ, boolA, intA, resultA, resA, reduceIte, reduceCtorEq, Nat.reduceAdd, Nat.reduceLT, Nat.reduceEqDiff, UInt8.reduceToNat, pe4, pf4, b_eqi, b_nei, b_lt, b_le, b_gt, b_ge, fn_an0, fn_an1, fn_an4, fn_an5, bc_01, bc_012, bc_015, bc_0145, bc_0147, bc_016, bc_0167, bc_017, bc_03, bc_035, bc_0347, beq_self_eq_true, bne_self_eq_false, Int.reduceBEq, Int.reduceBNe, Int.reduceLT, Int.reduceLE, Int.reduceGT, decide_true, decide_false, eqB_self, la_cons, la_nil, b_plus, e, wk, all_an, st_an hV.cells1.2, stA_an, an_g0, an_g1, an_g2, an_g3, an_g4, an_g5, fa_an0, fa_an1, fa_an2, fa_an3, fa_an4, fa_an5, ldO_an0, ldO_an1, ldO_an2, ldO_an3, ldO_an4, ldO_an5, ld_3, ld_9, ld_41, t0, t5, t6, t7, t8, g8, p3])
      refine lstatus_c ok3 hW1 e4 p4 ?_
      intro s hW hl
      repeat (first | with_reducible (refine w_one H ?_; constructor) | simp only [rB, rP, rQ, boolA, intA, resultA, resA, reduceIte, reduceCtorEq, Nat.reduceAdd, Nat.reduceLT, Nat.reduceEqDiff, UInt8.reduceToNat, pe4, pf4, b_eqi, b_nei, b_lt, b_le, b_gt, b_ge, fn_an0, fn_an1, fn_an4, fn_an5, bc_01, bc_012, bc_015, bc_0145, bc_0147, bc_016, bc_0167, bc_017, bc_03, bc_035, bc_0347, beq_self_eq_true, bne_self_eq_false, Int.reduceBEq, Int.reduceBNe, Int.reduceLT, Int.reduceLE, Int.reduceGT, decide_true, decide_false, eqB_self, la_cons, la_nil, b_plus, e, wk, t0, t5, t6, t7, t8, Tryz.results36] | (with_reducible refine lmake_c ok3 hW (by assumption) (by assumption) ?_; intro s hW hl) | (with_reducible refine lstatus_c ok3 hW (by assumption) (by assumption) ?_; intro s hW hl) | (with_reducible refine lwrite_c ok3 hW (by assumption) (by assumption) ?_; intro s hW hl) | (with_reducible refine lread_c ok3 hW (by assumption) (by assumption) ?_; intro s hW hl))
      rfl
theorem loopsRun : allN 16 (fun r => loopsV M0 (1 + r)) = true := by kernel_rfl
end Go.AX
namespace Go.AX
open Go.Proofs Go.RowKit
set_option maxRecDepth 1000000
set_option linter.unusedSimpArgs false
set_option linter.unusedVariables false
theorem loopsAll (a0 : Int) {s : St} (hW : WL s M0 []) : (sem Tryz.prog).call 36 [.fn 62 [.ptr 13 0], .raw (.int .i64 a0)] s (fun v _ => isTrue v) (fun _ _ => false) = true := by
  obtain ⟨r, hr, e⟩ := and_lt (x := a0) (m := 15) (by decide)
  exact loops_c a0 e hr rfl hW (allN_at loopsRun (i := r) (by omega))
theorem loopsWalk (a0 : Int) (w : Go.World) : Calls Tryz.prog 8 #[.int .i64 a0] w fun e w' => e = .returned (.bool true) ∧ Below w.heap.size w w' := by
  refine sem_walk (args := [.raw (.int .i64 a0)]) (Args := [.int .i64 a0]) (VRels.cons (by simp [VRel]) VRels.nil) ?_ w
  have H := ok3
  show (sem Tryz.prog).call 8 [.raw (.int .i64 a0)] st0 _ _ = true
  refine w_call H 9 fn_8 rfl rfl ?_
  repeat (first | with_reducible (refine w_one H ?_; constructor) | simp only [rB, rP, rQ, boolA, intA, resultA, resA, reduceIte, reduceCtorEq, Nat.reduceAdd, Nat.reduceLT, Nat.reduceEqDiff, UInt8.reduceToNat, pe3, pf3, c_awake, Tryz.results8] | (with_reducible refine faceW_c ?_; intro s hW) | (with_reducible refine call_true (loopsAll a0 hW) (fun s' => ?_)))
  rfl
end Go.AX
