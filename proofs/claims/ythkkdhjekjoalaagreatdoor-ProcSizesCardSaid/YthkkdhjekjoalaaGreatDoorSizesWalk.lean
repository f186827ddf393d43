import Derived.Test.YthkkdhjekjoalaaGreatDoorD2
set_option linter.unusedVariables false
set_option linter.unusedSimpArgs false
set_option linter.defProp false
namespace Go.AX
open Go.Proofs Go.RowKit
set_option maxRecDepth 1000000
set_option maxHeartbeats 40000000
set_option linter.unusedSimpArgs false
set_option linter.unusedVariables false

def wlL (i n : Nat) : List Nat := (List.range i).map (48 + ·) ++ List.replicate (n - i) 0
theorem wl_0 {n : Nat} : wlL 0 n = List.replicate n 0 := by simp [wlL]
theorem wl_len {i n : Nat} (h : i ≤ n) : (wlL i n).length = n := by simp [wlL]; omega
theorem wl_lt {i n x : Nat} (hi : i ≤ 10) (h : x ∈ wlL i n) : x < 256 := by
  simp only [wlL, List.mem_append, List.mem_map, List.mem_range, List.mem_replicate] at h
  rcases h with ⟨y, hy, rfl⟩ | ⟨_, rfl⟩ <;> omega
theorem wl_put {i n : Nat} (h : i < n) : (wlL i n).take i ++ [48 + i] ++ (wlL i n).drop (i + 1) = wlL (i + 1) n := by
  unfold wlL
  rw [List.take_append_of_le_length (by simp), List.take_of_length_le (by simp)]
  have : n - i = (n - (i + 1)) + 1 := by omega
  rw [this, List.replicate_succ, List.drop_append, List.drop_eq_nil_of_le (by simp)]
  simp [List.range_succ]
def sizesV (M : Md) (u n : Nat) : Bool := ask M (mkC 5 [99]) (st 0) fun _ M =>
    ask M (wrC [99] 0 [48, 49, 50, 51, 52, 53, 54, 55, 56, 57]) (st 0) fun _ M =>
    ask M ((⟨9, [99], [], 0, 0, (u : Int), 0, []⟩ : Cl)) (st 0) fun _ M =>
    ask M ((⟨9, [99], [], 0, 0, (n : Int), 0, []⟩ : Cl)) (st 0) fun _ M =>
    ask M ((⟨9, [99], [], 0, 0, 1025, 0, []⟩ : Cl)) (st 9) fun _ M =>
    ask M ((⟨9, [99], [], 0, 0, (-1 - (u : Int)), 0, []⟩ : Cl)) (st 5) fun _ M =>
    ask M (rdC [99]) (dt (wlL (min u 10) n)) fun _ M =>
    true
theorem sizes_c (z0 z1 : Int) {u v : Nat} (eu : (IntKind.u64.wrap z0).tmod 20 = (u : Int)) (hu : u < 20) (ev : (IntKind.u64.wrap z1).tmod 20 = (v : Int)) (hv : v < 20) {n : Nat} (hn : max u v = n) {M : Md} {s : St} (hW : WL s M []) (h : sizesV M u n = true) :
    (sem Tryz.prog).call 34 [.fn 62 [.ptr 13 0], .raw (.int .i64 z0), .raw (.int .i64 z1)] s (fun v _ => isTrue v) (fun _ _ => false) = true := by
  have H := ok4
  have m3 : (20 : Int) ≠ 0 := by decide
  have wu : IntKind.i64.wrap (u : Int) = (u : Int) := wrap_nat (by omega)
  have wv : IntKind.i64.wrap (v : Int) = (v : Int) := wrap_nat (by omega)
  have wm : IntKind.i64.wrap (-1 - (u : Int)) = -1 - (u : Int) := Go.IntWalk.i64_in _ (by omega)
  have mx : (if (v : Int) > (u : Int) then (v : Int) else (u : Int)) = (n : Int) := by split <;> omega
  have mn : (if (10 : Int) < (u : Int) then (10 : Int) else (u : Int)) = ((min u 10 : Nat) : Int) := by split <;> omega
  have hn20 : n < 20 := by omega
  have hmn : min u 10 ≤ n := by omega
  unfold sizesV at h
  obtain ⟨a1, M1, e1, p1, h⟩ := ask_inv h
  have p1 := st_of p1
  obtain ⟨a2, M2, e2, p2, h⟩ := ask_inv h
  have p2 := st_of p2
  obtain ⟨a3, M3, e3, p3, h⟩ := ask_inv h
  have p3 := st_of p3
  obtain ⟨a4, M4, e4, p4, h⟩ := ask_inv h
  have p4 := st_of p4
  obtain ⟨a5, M5, e5, p5, h⟩ := ask_inv h
  have p5 := st_of p5
  obtain ⟨a6, M6, e6, p6, h⟩ := ask_inv h
  have p6 := st_of p6
  obtain ⟨a7, M7, e7, p7, h⟩ := ask_inv h
  have p7 := dt_of p7
  refine w_call H 94 fn_34 rfl rfl ?_
  repeat (first | with_reducible (refine w_one H ?_; constructor) | simp only [rB, rP, rQ, boolA, intA, resultA, resA, reduceIte, reduceCtorEq, Nat.reduceAdd, Nat.reduceLT, Nat.reduceEqDiff, UInt8.reduceToNat, pe4, pf4, b_eqi, b_nei, b_lt, b_le, b_gt, b_ge, fn_an0, fn_an1, fn_an4, fn_an5, bc_01, bc_012, bc_015, bc_0145, bc_0147, bc_016, bc_0167, bc_017, bc_03, bc_035, bc_0347, beq_self_eq_true, bne_self_eq_false, Int.reduceBEq, Int.reduceBNe, Int.reduceLT, Int.reduceLE, Int.reduceGT, decide_true, decide_false, eqB_self, la_cons, la_nil, b_plus, b_minus, len_str, o_cvt, toU_int, b_rem, eqS_rem, rm_eq m3, u64_int, remA_int, eu, ev, i64_int, o_cvi, toI_int, wu, wv, mx, mn, wm] | (with_reducible refine lmake_c ok3 hW (by assumption) (by assumption) ?_; intro s hW hl) | (with_reducible refine lstatus_c ok3 hW (by assumption) (by assumption) ?_; intro s hW hl) | (with_reducible refine lwrite_c ok3 hW (by assumption) (by assumption) ?_; intro s hW hl) | (with_reducible refine lread_c ok3 hW (by assumption) (by assumption) ?_; intro s hW hl))
  refine lface_c hW e3 ?_
  intro s3 V3 hW hl3 hV
  have hC := hW.base
  repeat (first | with_reducible (refine w_one H ?_; constructor) | simp only [rB, rP, rQ, boolA, intA, resultA, resA, reduceIte, reduceCtorEq, Nat.reduceAdd, Nat.reduceLT, Nat.reduceEqDiff, UInt8.reduceToNat, pe4, pf4, b_eqi, b_nei, b_lt, b_le, b_gt, b_ge, fn_an0, fn_an1, fn_an4, fn_an5, bc_01, bc_012, bc_015, bc_0145, bc_0147, bc_016, bc_0167, bc_017, bc_03, bc_035, bc_0347, beq_self_eq_true, bne_self_eq_false, Int.reduceBEq, Int.reduceBNe, Int.reduceLT, Int.reduceLE, Int.reduceGT, decide_true, decide_false, eqB_self, la_cons, la_nil, b_plus, b_minus, len_str, o_cvt, toU_int, b_rem, eqS_rem, rm_eq m3, u64_int, remA_int, eu, ev, i64_int, o_cvi, toI_int, wu, wv, mx, mn, wm, all_an, st_an hV.cells1.2, stA_an, p3])
  replace hW := hW.put (.cells (anL 0 0 0 0 [] nilS) 43 0) (.cells (anL 0 a3.num a3.kind a3.mode a3.data V3) 43 0)
  refine lface_c hW e4 ?_
  intro s4 V4 hW hl4 hV
  have mk := mk_sl (s := { h := (s4.alloc (.cells (anL 0 0 0 0 [] nilS) 43 0)).h.set s4.nx (.cells (anL 0 a4.num a4.kind a4.mode a4.data V4) 43 0), nx := s4.nx + 1 }) (n := n) (by omega)
  repeat (first | with_reducible (refine w_one H ?_; constructor) | simp only [rB, rP, rQ, boolA, intA, resultA, resA, reduceIte, reduceCtorEq, Nat.reduceAdd, Nat.reduceLT, Nat.reduceEqDiff, UInt8.reduceToNat, pe4, pf4, b_eqi, b_nei, b_lt, b_le, b_gt, b_ge, fn_an0, fn_an1, fn_an4, fn_an5, bc_01, bc_012, bc_015, bc_0145, bc_0147, bc_016, bc_0167, bc_017, bc_03, bc_035, bc_0347, beq_self_eq_true, bne_self_eq_false, Int.reduceBEq, Int.reduceBNe, Int.reduceLT, Int.reduceLE, Int.reduceGT, decide_true, decide_false, eqB_self, la_cons, la_nil, b_plus, b_minus, len_str, o_cvt, toU_int, b_rem, eqS_rem, rm_eq m3, u64_int, remA_int, eu, ev, i64_int, o_cvi, toI_int, wu, wv, mx, mn, wm, all_an, st_an hV.cells1.2, stA_an, p4, mk])
  replace hW := hW.put (.cells (anL 0 0 0 0 [] nilS) 43 0) (.cells (anL 0 a4.num a4.kind a4.mode a4.data V4) 43 0)
  replace hW := hW.alloc (.cells (repL [.raw (.int .u8 0)] n) 5 0)
  rw [repL_b, ← wl_0] at hW
  refine w_loop_ind H (fun m t s => ∃ i, m + i = min u 10 ∧ tg t 0 = .fn 62 [.ptr 13 0] ∧ tg t 7 = .raw (.int .i64 (u : Int)) ∧ tg t 9 = .raw (.bool true) ∧ tg t 10 = .ptr s3.nx 0 ∧ tg t 11 = .ptr s4.nx 0 ∧ tg t 12 = .slice (s4.nx + 1) 0 n 0 n true ∧ tg t 13 = .raw (.int .i64 (i : Int)) ∧ WL s M4 [(s4.nx + 1, .cells (cellsOfStr (wlL i n)) 5 0), (s4.nx, (.cells (anL 0 a4.num a4.kind a4.mode a4.data V4) 43 0)), (s3.nx, (.cells (anL 0 a3.num a3.kind a3.mode a3.data V3) 43 0))]) (n := min u 10)
    ⟨0, rfl, by simp only [rB, rP, rQ, boolA, intA, resultA, resA, reduceIte, reduceCtorEq, Nat.reduceAdd, Nat.reduceLT, Nat.reduceEqDiff, UInt8.reduceToNat], by simp only [rB, rP, rQ, boolA, intA, resultA, resA, reduceIte, reduceCtorEq, Nat.reduceAdd, Nat.reduceLT, Nat.reduceEqDiff, UInt8.reduceToNat], by simp only [rB, rP, rQ, boolA, intA, resultA, resA, reduceIte, reduceCtorEq, Nat.reduceAdd, Nat.reduceLT, Nat.reduceEqDiff, UInt8.reduceToNat], by simp only [rB, rP, rQ, boolA, intA, resultA, resA, reduceIte, reduceCtorEq, Nat.reduceAdd, Nat.reduceLT, Nat.reduceEqDiff, UInt8.reduceToNat], by simp only [rB, rP, rQ, boolA, intA, resultA, resA, reduceIte, reduceCtorEq, Nat.reduceAdd, Nat.reduceLT, Nat.reduceEqDiff, UInt8.reduceToNat], by simp only [rB, rP, rQ, boolA, intA, resultA, resA, reduceIte, reduceCtorEq, Nat.reduceAdd, Nat.reduceLT, Nat.reduceEqDiff, UInt8.reduceToNat], by simp only [rB, rP, rQ, boolA, intA, resultA, resA, reduceIte, reduceCtorEq, Nat.reduceAdd, Nat.reduceLT, Nat.reduceEqDiff, UInt8.reduceToNat]; rfl, by rw [repL_b, ← wl_0]; exact hW⟩ ?_
  rintro m t s' ih ⟨i, hm, t0, t7, t9, t10, t11, t12, t13, hW⟩
  have l3 : s3.nx < s4.nx := by
    have := hl4
    simp only at this
    omega
  cases m with
  | succ m =>
    have hin : i < n := by omega
    have g0 : decide ((i : Int) < ((min u 10 : Nat) : Int)) = true := by rw [decide_eq_true_eq]; omega
    have ew : IntKind.i64.wrap ((i : Int) + 1) = ((i + 1 : Nat) : Int) := by
      rw [show (i : Int) + 1 = ((i + 1 : Nat) : Int) from by simp]
      exact wrap_nat (by omega)
    have e8 : IntKind.i64.wrap (48 + (i : Int)) = ((48 + i : Nat) : Int) := by
      rw [show 48 + (i : Int) = ((48 + i : Nat) : Int) from by simp]
      exact wrap_nat (by omega)
    have eb := wrap_b (n := 48 + i) (by omega)
    have ix := ix_b (q := s4.nx + 1) hin
    have gw := hW.get0
    have pb := put_b (b := wlL i n) (i := i) (x := 48 + i) (by rw [wl_len (by omega)]; omega) (wl_put hin)
    repeat (first | with_reducible (refine w_one H ?_; constructor) | simp only [rB, rP, rQ, boolA, intA, resultA, resA, reduceIte, reduceCtorEq, Nat.reduceAdd, Nat.reduceLT, Nat.reduceEqDiff, UInt8.reduceToNat, pe4, pf4, b_eqi, b_nei, b_lt, b_le, b_gt, b_ge, fn_an0, fn_an1, fn_an4, fn_an5, bc_01, bc_012, bc_015, bc_0145, bc_0147, bc_016, bc_0167, bc_017, bc_03, bc_035, bc_0347, beq_self_eq_true, bne_self_eq_false, Int.reduceBEq, Int.reduceBNe, Int.reduceLT, Int.reduceLE, Int.reduceGT, decide_true, decide_false, eqB_self, la_cons, la_nil, b_plus, b_minus, len_str, o_cvt, toU_int, b_rem, eqS_rem, rm_eq m3, u64_int, remA_int, eu, ev, i64_int, o_cvi, toI_int, wu, wv, mx, mn, wm, t0, t7, t9, t10, t11, t12, t13, g0, ew, e8, eb, ix, gw, pb, o_cvb, toB_int, st_5])
    refine ih m _ _ (by omega) ⟨i + 1, by omega, by simp only [rB, rP, rQ, boolA, intA, resultA, resA, reduceIte, reduceCtorEq, Nat.reduceAdd, Nat.reduceLT, Nat.reduceEqDiff, UInt8.reduceToNat, t0], by simp only [rB, rP, rQ, boolA, intA, resultA, resA, reduceIte, reduceCtorEq, Nat.reduceAdd, Nat.reduceLT, Nat.reduceEqDiff, UInt8.reduceToNat, t7], by simp only [rB, rP, rQ, boolA, intA, resultA, resA, reduceIte, reduceCtorEq, Nat.reduceAdd, Nat.reduceLT, Nat.reduceEqDiff, UInt8.reduceToNat, t9], by simp only [rB, rP, rQ, boolA, intA, resultA, resA, reduceIte, reduceCtorEq, Nat.reduceAdd, Nat.reduceLT, Nat.reduceEqDiff, UInt8.reduceToNat, t10], by simp only [rB, rP, rQ, boolA, intA, resultA, resA, reduceIte, reduceCtorEq, Nat.reduceAdd, Nat.reduceLT, Nat.reduceEqDiff, UInt8.reduceToNat, t11], by simp only [rB, rP, rQ, boolA, intA, resultA, resA, reduceIte, reduceCtorEq, Nat.reduceAdd, Nat.reduceLT, Nat.reduceEqDiff, UInt8.reduceToNat, t12], by simp only [rB, rP, rQ, boolA, intA, resultA, resA, reduceIte, reduceCtorEq, Nat.reduceAdd, Nat.reduceLT, Nat.reduceEqDiff, UInt8.reduceToNat], hW.set (fun q hq => ?_) ?_ _⟩
    · simp only [List.mem_cons, List.not_mem_nil, or_false] at hq
      rcases hq with rfl | rfl
      · simp
      · simp only; omega
    · have h1 := hl4
      have h3 := hC
      simp only at h1
      omega
  | zero =>
    have hi : i = min u 10 := by omega
    subst hi
    have g0 : decide (((min u 10 : Nat) : Int) < ((min u 10 : Nat) : Int)) = false := by rw [decide_eq_false_iff_not]; omega
    repeat (first | with_reducible (refine w_one H ?_; constructor) | simp only [rB, rP, rQ, boolA, intA, resultA, resA, reduceIte, reduceCtorEq, Nat.reduceAdd, Nat.reduceLT, Nat.reduceEqDiff, UInt8.reduceToNat, pe4, pf4, b_eqi, b_nei, b_lt, b_le, b_gt, b_ge, fn_an0, fn_an1, fn_an4, fn_an5, bc_01, bc_012, bc_015, bc_0145, bc_0147, bc_016, bc_0167, bc_017, bc_03, bc_035, bc_0347, beq_self_eq_true, bne_self_eq_false, Int.reduceBEq, Int.reduceBNe, Int.reduceLT, Int.reduceLE, Int.reduceGT, decide_true, decide_false, eqB_self, la_cons, la_nil, b_plus, b_minus, len_str, o_cvt, toU_int, b_rem, eqS_rem, rm_eq m3, u64_int, remA_int, eu, ev, i64_int, o_cvi, toI_int, wu, wv, mx, mn, wm, t0, t7, t9, t10, t11, t12, t13, g0])
    refine lface_c hW e5 ?_
    intro s5 V5 hW hl5 hV
    repeat (first | with_reducible (refine w_one H ?_; constructor) | simp only [rB, rP, rQ, boolA, intA, resultA, resA, reduceIte, reduceCtorEq, Nat.reduceAdd, Nat.reduceLT, Nat.reduceEqDiff, UInt8.reduceToNat, pe4, pf4, b_eqi, b_nei, b_lt, b_le, b_gt, b_ge, fn_an0, fn_an1, fn_an4, fn_an5, bc_01, bc_012, bc_015, bc_0145, bc_0147, bc_016, bc_0167, bc_017, bc_03, bc_035, bc_0347, beq_self_eq_true, bne_self_eq_false, Int.reduceBEq, Int.reduceBNe, Int.reduceLT, Int.reduceLE, Int.reduceGT, decide_true, decide_false, eqB_self, la_cons, la_nil, b_plus, b_minus, len_str, o_cvt, toU_int, b_rem, eqS_rem, rm_eq m3, u64_int, remA_int, eu, ev, i64_int, o_cvi, toI_int, wu, wv, mx, mn, wm, all_an, st_an hV.cells1.2, stA_an, t0, t7, t9, t10, t11, t12, t13, p5])
    replace hW := hW.put (.cells (anL 0 0 0 0 [] nilS) 43 0) (.cells (anL 9 a5.num a5.kind a5.mode a5.data V5) 43 0)
    refine lface_c hW e6 ?_
    intro s6 V6 hW hl6 hV
    have g5 := hW.get0
    have gw := hW.get1
    have g4 := hW.get2
    have g3 := hW.get3
    have n5 := hW.ne0
    have nw := hW.ne1
    have n4 := hW.ne2
    have n3 := hW.ne3
    have tx := fun (s' : St) (h : s'.h.get (s4.nx + 1) = some (.cells (cellsOfStr (wlL (min u 10) n)) 5 0)) => tx_b (fun x hx => wl_lt (Nat.min_le_right u 10) hx) (wl_len hmn) h
    repeat (first | with_reducible (refine w_one H ?_; constructor) | simp only [rB, rP, rQ, boolA, intA, resultA, resA, reduceIte, reduceCtorEq, Nat.reduceAdd, Nat.reduceLT, Nat.reduceEqDiff, UInt8.reduceToNat, pe4, pf4, b_eqi, b_nei, b_lt, b_le, b_gt, b_ge, fn_an0, fn_an1, fn_an4, fn_an5, bc_01, bc_012, bc_015, bc_0145, bc_0147, bc_016, bc_0167, bc_017, bc_03, bc_035, bc_0347, beq_self_eq_true, bne_self_eq_false, Int.reduceBEq, Int.reduceBNe, Int.reduceLT, Int.reduceLE, Int.reduceGT, decide_true, decide_false, eqB_self, la_cons, la_nil, b_plus, b_minus, len_str, o_cvt, toU_int, b_rem, eqS_rem, rm_eq m3, u64_int, remA_int, eu, ev, i64_int, o_cvi, toI_int, wu, wv, mx, mn, wm, all_an, st_an hV.cells1.2, stA_an, an_g0, an_g1, an_g2, an_g3, an_g4, an_g5, fa_an0, fa_an1, fa_an2, fa_an3, fa_an4, fa_an5, ldO_an0, ldO_an1, ldO_an2, ldO_an3, ldO_an4, ldO_an5, ld_3, ld_9, ld_41, t0, t7, t9, t10, t11, t12, t13, p6, g5, gw, g4, g3, n5, nw, n4, n3, tx, txO_some, sp_txo] | (with_reducible refine w_plan H (i := 12) (.take 0 (.take 1 (.take 2 (.take 3 (.take 4 (.take 5 (.take 6 (.take 7 (.take 8 (.take 9 (.take 10 (.take 11 (.take 12 (.take 14 (.take 15 (.alt 13 [0, 1, 2, 3, 4, 5, 6, 7, 8, 9, 10, 11, 12] (.take 16 (.take 17 (.take 18 (.take 19 (.take 20 (.take 21 (.take 22 (.take 23 (.take 24 (.take 25 (.take 26 (.take 27 (.take 28 (.done)))))))))))))) (.yes))))))))))))))))) rfl (by kernel_rfl) ?_))
    refine lread_c ok3 (hW.put (.cells (anL 0 0 0 0 [] nilS) 43 0) (.cells (anL 5 a6.num a6.kind a6.mode a6.data V6) 43 0)) e7 p7 ?_
    intro s7 hW hl7
    have q6 := hW.get0
    have q5 := hW.get1
    have qw := hW.get2
    repeat (first | with_reducible (refine w_one H ?_; constructor) | simp only [rB, rP, rQ, boolA, intA, resultA, resA, reduceIte, reduceCtorEq, Nat.reduceAdd, Nat.reduceLT, Nat.reduceEqDiff, UInt8.reduceToNat, pe4, pf4, b_eqi, b_nei, b_lt, b_le, b_gt, b_ge, fn_an0, fn_an1, fn_an4, fn_an5, bc_01, bc_012, bc_015, bc_0145, bc_0147, bc_016, bc_0167, bc_017, bc_03, bc_035, bc_0347, beq_self_eq_true, bne_self_eq_false, Int.reduceBEq, Int.reduceBNe, Int.reduceLT, Int.reduceLE, Int.reduceGT, decide_true, decide_false, eqB_self, la_cons, la_nil, b_plus, b_minus, len_str, o_cvt, toU_int, b_rem, eqS_rem, rm_eq m3, u64_int, remA_int, eu, ev, i64_int, o_cvi, toI_int, wu, wv, mx, mn, wm, an_g0, an_g1, an_g2, an_g3, an_g4, an_g5, fa_an0, fa_an1, fa_an2, fa_an3, fa_an4, fa_an5, ldO_an0, ldO_an1, ldO_an2, ldO_an3, ldO_an4, ldO_an5, ld_3, ld_9, ld_41, t0, t7, t9, t10, t11, t12, t13, g5, gw, g4, g3, n5, nw, n4, n3, q6, q5, qw, beqAs_b, Tryz.results34])
    rfl
theorem sizesRun : allN 20 (fun u => allN 20 (fun v => sizesV M0 u (max u v))) = true := by kernel_rfl
end Go.AX
namespace Go.AX
open Go.Proofs Go.RowKit
set_option maxRecDepth 1000000
set_option linter.unusedSimpArgs false
set_option linter.unusedVariables false
theorem sizesAll (a0 a1 : Int) {s : St} (hW : WL s M0 []) : (sem Tryz.prog).call 34 [.fn 62 [.ptr 13 0], .raw (.int .i64 a0), .raw (.int .i64 a1)] s (fun v _ => isTrue v) (fun _ _ => false) = true := by
  obtain ⟨u, hu, eu⟩ := rem_lt (z := a0) (m := 20) (by decide)
  obtain ⟨v, hv, ev⟩ := rem_lt (z := a1) (m := 20) (by decide)
  exact sizes_c a0 a1 eu hu ev hv rfl hW (allN_at (allN_at sizesRun (i := u) hu) (i := v) hv)
theorem sizesWalk (a0 a1 : Int) (w : Go.World) : Calls Tryz.prog 6 #[.int .i64 a0, .int .i64 a1] w fun e w' => e = .returned (.bool true) ∧ Below w.heap.size w w' := by
  refine sem_walk (args := [.raw (.int .i64 a0), .raw (.int .i64 a1)]) (Args := [.int .i64 a0, .int .i64 a1]) (VRels.cons (by simp [VRel]) (VRels.cons (by simp [VRel]) VRels.nil)) ?_ w
  have H := ok3
  show (sem Tryz.prog).call 6 [.raw (.int .i64 a0), .raw (.int .i64 a1)] st0 _ _ = true
  refine w_call H 12 fn_6 rfl rfl ?_
  repeat (first | with_reducible (refine w_one H ?_; constructor) | simp only [rB, rP, rQ, boolA, intA, resultA, resA, reduceIte, reduceCtorEq, Nat.reduceAdd, Nat.reduceLT, Nat.reduceEqDiff, UInt8.reduceToNat, pe3, pf3, c_awake, Tryz.results6] | (with_reducible refine faceW_c ?_; intro s hW) | (with_reducible refine call_true (sizesAll a0 a1 hW) (fun s' => ?_)))
  rfl
end Go.AX
