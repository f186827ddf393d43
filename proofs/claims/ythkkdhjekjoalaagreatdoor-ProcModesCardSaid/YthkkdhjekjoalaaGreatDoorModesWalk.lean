import Derived.Test.YthkkdhjekjoalaaGreatDoorD2
set_option linter.unusedVariables false
set_option linter.unusedSimpArgs false
set_option linter.defProp false
namespace Go.AX
open Go.Proofs Go.RowKit
set_option maxRecDepth 1000000
set_option maxHeartbeats 40000000
set_option linter.unusedSimpArgs false
set_option linter.unusedVariables false

def modesV (M : Md) (m : Int) : Bool := ask M (mkC 5 [102]) (st 0) fun _ M =>
    ask M (mkC 6 [100]) (st 0) fun _ M =>
    ask M ((⟨10, [102], [], 0, 0, 0, m, []⟩ : Cl)) (st 0) fun _ M =>
    ask M (qC 1 [102]) (mo m) fun _ M =>
    ask M ((⟨10, [102], [], 0, 0, 0, 512 + m, []⟩ : Cl)) (st 5) fun _ M =>
    ask M ((⟨10, [100], [], 0, 0, 0, m, []⟩ : Cl)) (st 0) fun _ M =>
    ask M (qC 1 [100]) (mo m) fun _ M =>
    ask M ((⟨10, [100], [], 0, 0, 0, 512 + m, []⟩ : Cl)) (st 5) fun _ M =>
    ask M ((⟨10, [47], [], 0, 0, 0, m, []⟩ : Cl)) (st 0) fun _ M =>
    ask M (qC 1 [47]) (mo m) fun _ M =>
    ask M ((⟨10, [47], [], 0, 0, 0, 512 + m, []⟩ : Cl)) (st 5) fun _ M =>
    ask M ((⟨5, [103], [], 0, 0, 0, -1 - m, []⟩ : Cl)) (st 5) fun _ M =>
    true
theorem ml_3 {s : St} {q : Nat} : lenOpA TE s [41] [.slice q 0 3 0 3 true] = some (.raw (.int .i64 3)) := by kernel_rfl
theorem mi_0 {q : Nat} : indexAddrA TE 41 (.slice q 0 3 0 3 true) (.raw (.int .i64 0)) = some (.ptr q 0) := by kernel_rfl
theorem mi_1 {q : Nat} : indexAddrA TE 41 (.slice q 0 3 0 3 true) (.raw (.int .i64 1)) = some (.ptr q 1) := by kernel_rfl
theorem mi_2 {q : Nat} : indexAddrA TE 41 (.slice q 0 3 0 3 true) (.raw (.int .i64 2)) = some (.ptr q 2) := by kernel_rfl
theorem modes_c (z : Int) {r : Nat} (e : andI z 511 = (r : Int)) (hr : r ≤ 511) {M : Md} {s : St} (hW : WL s M []) (h : modesV M (r : Int) = true) :
    (sem Tryz.prog).call 40 [.fn 62 [.ptr 13 0], .raw (.int .i64 z)] s (fun v _ => isTrue v) (fun _ _ => false) = true := by
  have H := ok4
  unfold modesV at h
  obtain ⟨a1, M1, e1, p1, h⟩ := ask_inv h
  have p1 := st_of p1
  obtain ⟨a2, M2, e2, p2, h⟩ := ask_inv h
  have p2 := st_of p2
  obtain ⟨a3, M3, e3, p3, h⟩ := ask_inv h
  have p3 := st_of p3
  obtain ⟨a4, M4, e4, p4, h⟩ := ask_inv h
  have p4 := mo_of p4
  obtain ⟨a5, M5, e5, p5, h⟩ := ask_inv h
  have p5 := st_of p5
  obtain ⟨a6, M6, e6, p6, h⟩ := ask_inv h
  have p6 := st_of p6
  obtain ⟨a7, M7, e7, p7, h⟩ := ask_inv h
  have p7 := mo_of p7
  obtain ⟨a8, M8, e8, p8, h⟩ := ask_inv h
  have p8 := st_of p8
  obtain ⟨a9, M9, e9, p9, h⟩ := ask_inv h
  have p9 := st_of p9
  obtain ⟨a10, M10, e10, p10, h⟩ := ask_inv h
  have p10 := mo_of p10
  obtain ⟨a11, M11, e11, p11, h⟩ := ask_inv h
  have p11 := st_of p11
  obtain ⟨a12, M12, e12, p12, h⟩ := ask_inv h
  have p12 := st_of p12
  have w0 : IntKind.i64.wrap ((0 : Int) + 1) = 1 := rfl
  have w1 : IntKind.i64.wrap ((1 : Int) + 1) = 2 := rfl
  have w2 : IntKind.i64.wrap ((2 : Int) + 1) = 3 := rfl
  have w3 : IntKind.i64.wrap (512 + (r : Int)) = 512 + (r : Int) := Go.IntWalk.i64_in _ (by omega)
  have w4 : IntKind.i64.wrap (-1 - (r : Int)) = -1 - (r : Int) := Go.IntWalk.i64_in _ (by omega)
  have len3 : ∀ (s : St) (q : Nat), lenOpA TE s [41] [.slice q 0 3 0 3 true] = some (.raw (.int .i64 3)) := fun s q => ml_3
  have ix0 : ∀ q : Nat, indexAddrA TE 41 (.slice q 0 3 0 3 true) (.raw (.int .i64 0)) = some (.ptr q 0) := fun q => mi_0
  have ix1 : ∀ q : Nat, indexAddrA TE 41 (.slice q 0 3 0 3 true) (.raw (.int .i64 1)) = some (.ptr q 1) := fun q => mi_1
  have ix2 : ∀ q : Nat, indexAddrA TE 41 (.slice q 0 3 0 3 true) (.raw (.int .i64 2)) = some (.ptr q 2) := fun q => mi_2
  refine w_call H 69 fn_40 rfl rfl ?_
  repeat (first | with_reducible (refine w_one H ?_; constructor) | simp only [rB, rP, rQ, boolA, intA, resultA, resA, reduceIte, reduceCtorEq, Nat.reduceAdd, Nat.reduceLT, Nat.reduceEqDiff, UInt8.reduceToNat, pe4, pf4, b_eqi, b_nei, b_lt, b_le, b_gt, b_ge, fn_an0, fn_an1, fn_an4, fn_an5, bc_01, bc_012, bc_015, bc_0145, bc_0147, bc_016, bc_0167, bc_017, bc_03, bc_035, bc_0347, beq_self_eq_true, bne_self_eq_false, Int.reduceBEq, Int.reduceBNe, Int.reduceLT, Int.reduceLE, Int.reduceGT, decide_true, decide_false, eqB_self, la_cons, la_nil, e, b_plus, b_minus, w0, w1, w2, w3, w4, len3, ix0, ix1, ix2, bs_3] | (with_reducible refine lmake_c ok3 hW (by assumption) (by assumption) ?_; intro s hW hl) | (with_reducible refine lstatus_c ok3 hW (by assumption) (by assumption) ?_; intro s hW hl) | (with_reducible refine lwrite_c ok3 hW (by assumption) (by assumption) ?_; intro s hW hl) | (with_reducible refine lread_c ok3 hW (by assumption) (by assumption) ?_; intro s hW hl))
  replace hW := hW.alloc (.cells [.str [102], .str [100], .str [47]] 9 0)
  have gs := hW.get0
  refine w_loop H ?_
  repeat (first | with_reducible (refine w_one H ?_; constructor) | simp only [rB, rP, rQ, boolA, intA, resultA, resA, reduceIte, reduceCtorEq, Nat.reduceAdd, Nat.reduceLT, Nat.reduceEqDiff, UInt8.reduceToNat, pe4, pf4, b_eqi, b_nei, b_lt, b_le, b_gt, b_ge, fn_an0, fn_an1, fn_an4, fn_an5, bc_01, bc_012, bc_015, bc_0145, bc_0147, bc_016, bc_0167, bc_017, bc_03, bc_035, bc_0347, beq_self_eq_true, bne_self_eq_false, Int.reduceBEq, Int.reduceBNe, Int.reduceLT, Int.reduceLE, Int.reduceGT, decide_true, decide_false, eqB_self, la_cons, la_nil, e, b_plus, b_minus, w0, w1, w2, w3, w4, len3, ix0, ix1, ix2, gs, ld_9])
  refine lface_c hW e3 ?_
  intro s V hW hl hV
  repeat (first | with_reducible (refine w_one H ?_; constructor) | simp only [rB, rP, rQ, boolA, intA, resultA, resA, reduceIte, reduceCtorEq, Nat.reduceAdd, Nat.reduceLT, Nat.reduceEqDiff, UInt8.reduceToNat, pe4, pf4, b_eqi, b_nei, b_lt, b_le, b_gt, b_ge, fn_an0, fn_an1, fn_an4, fn_an5, bc_01, bc_012, bc_015, bc_0145, bc_0147, bc_016, bc_0167, bc_017, bc_03, bc_035, bc_0347, beq_self_eq_true, bne_self_eq_false, Int.reduceBEq, Int.reduceBNe, Int.reduceLT, Int.reduceLE, Int.reduceGT, decide_true, decide_false, eqB_self, la_cons, la_nil, e, b_plus, b_minus, w0, w1, w2, w3, w4, len3, ix0, ix1, ix2, all_an, st_an hV.cells1.2, stA_an])
  replace hW := hW.put (.cells (anL 0 0 0 0 [] nilS) 43 0) (.cells (anL a3.status a3.num a3.kind a3.mode a3.data V) 43 0)
  refine lface_c hW e4 ?_
  intro s V hW hl hV
  repeat (first | with_reducible (refine w_one H ?_; constructor) | simp only [rB, rP, rQ, boolA, intA, resultA, resA, reduceIte, reduceCtorEq, Nat.reduceAdd, Nat.reduceLT, Nat.reduceEqDiff, UInt8.reduceToNat, pe4, pf4, b_eqi, b_nei, b_lt, b_le, b_gt, b_ge, fn_an0, fn_an1, fn_an4, fn_an5, bc_01, bc_012, bc_015, bc_0145, bc_0147, bc_016, bc_0167, bc_017, bc_03, bc_035, bc_0347, beq_self_eq_true, bne_self_eq_false, Int.reduceBEq, Int.reduceBNe, Int.reduceLT, Int.reduceLE, Int.reduceGT, decide_true, decide_false, eqB_self, la_cons, la_nil, e, b_plus, b_minus, w0, w1, w2, w3, w4, len3, ix0, ix1, ix2, all_an, st_an hV.cells1.2, stA_an])
  replace hW := hW.put (.cells (anL 0 0 0 0 [] nilS) 43 0) (.cells (anL a4.status a4.num a4.kind a4.mode a4.data V) 43 0)
  refine lface_c hW e5 ?_
  intro s V hW hl hV
  have hW1 := hW.put (.cells (anL 0 0 0 0 [] nilS) 43 0) (.cells (anL a5.status a5.num a5.kind a5.mode a5.data V) 43 0)
  have g1 := hW.ne0
  have g2 := hW.ne1
  have g3 := hW.get0
  have g4 := hW.get1
  repeat (first | with_reducible (refine w_one H ?_; constructor) | simp only [rB, rP, rQ, boolA, intA, resultA, resA, reduceIte, reduceCtorEq, Nat.reduceAdd, Nat.reduceLT, Nat.reduceEqDiff, UInt8.reduceToNat, pe4, pf4, b_eqi, b_nei, b_lt, b_le, b_gt, b_ge, fn_an0, fn_an1, fn_an4, fn_an5, bc_01, bc_012, bc_015, bc_0145, bc_0147, bc_016, bc_0167, bc_017, bc_03, bc_035, bc_0347, beq_self_eq_true, bne_self_eq_false, Int.reduceBEq, Int.reduceBNe, Int.reduceLT, Int.reduceLE, Int.reduceGT, decide_true, decide_false, eqB_self, la_cons, la_nil, e, b_plus, b_minus, w0, w1, w2, w3, w4, len3, ix0, ix1, ix2, all_an, st_an hV.cells1.2, stA_an, an_g0, an_g1, an_g2, an_g3, an_g4, an_g5, fa_an0, fa_an1, fa_an2, fa_an3, fa_an4, fa_an5, ldO_an0, ldO_an1, ldO_an2, ldO_an3, ldO_an4, ldO_an5, ld_3, ld_9, ld_41, g1, g2, g3, g4, p3, p4, p5])
  have gs := hW.get2
  have nS := hW.ne2
  replace hW := hW1.sub (fun q hq => List.mem_cons_of_mem _ (List.mem_cons_of_mem _ (List.mem_cons_of_mem _ hq)))
  clear hW1 g1 g2 g3 g4
  rw [p5] at hW
  refine w_loop H ?_
  repeat (first | with_reducible (refine w_one H ?_; constructor) | simp only [rB, rP, rQ, boolA, intA, resultA, resA, reduceIte, reduceCtorEq, Nat.reduceAdd, Nat.reduceLT, Nat.reduceEqDiff, UInt8.reduceToNat, pe4, pf4, b_eqi, b_nei, b_lt, b_le, b_gt, b_ge, fn_an0, fn_an1, fn_an4, fn_an5, bc_01, bc_012, bc_015, bc_0145, bc_0147, bc_016, bc_0167, bc_017, bc_03, bc_035, bc_0347, beq_self_eq_true, bne_self_eq_false, Int.reduceBEq, Int.reduceBNe, Int.reduceLT, Int.reduceLE, Int.reduceGT, decide_true, decide_false, eqB_self, la_cons, la_nil, e, b_plus, b_minus, w0, w1, w2, w3, w4, len3, ix0, ix1, ix2, gs, nS, ld_9])
  refine lface_c hW e6 ?_
  intro s V hW hl hV
  repeat (first | with_reducible (refine w_one H ?_; constructor) | simp only [rB, rP, rQ, boolA, intA, resultA, resA, reduceIte, reduceCtorEq, Nat.reduceAdd, Nat.reduceLT, Nat.reduceEqDiff, UInt8.reduceToNat, pe4, pf4, b_eqi, b_nei, b_lt, b_le, b_gt, b_ge, fn_an0, fn_an1, fn_an4, fn_an5, bc_01, bc_012, bc_015, bc_0145, bc_0147, bc_016, bc_0167, bc_017, bc_03, bc_035, bc_0347, beq_self_eq_true, bne_self_eq_false, Int.reduceBEq, Int.reduceBNe, Int.reduceLT, Int.reduceLE, Int.reduceGT, decide_true, decide_false, eqB_self, la_cons, la_nil, e, b_plus, b_minus, w0, w1, w2, w3, w4, len3, ix0, ix1, ix2, all_an, st_an hV.cells1.2, stA_an])
  replace hW := hW.put (.cells (anL 0 0 0 0 [] nilS) 43 0) (.cells (anL a6.status a6.num a6.kind a6.mode a6.data V) 43 0)
  refine lface_c hW e7 ?_
  intro s V hW hl hV
  repeat (first | with_reducible (refine w_one H ?_; constructor) | simp only [rB, rP, rQ, boolA, intA, resultA, resA, reduceIte, reduceCtorEq, Nat.reduceAdd, Nat.reduceLT, Nat.reduceEqDiff, UInt8.reduceToNat, pe4, pf4, b_eqi, b_nei, b_lt, b_le, b_gt, b_ge, fn_an0, fn_an1, fn_an4, fn_an5, bc_01, bc_012, bc_015, bc_0145, bc_0147, bc_016, bc_0167, bc_017, bc_03, bc_035, bc_0347, beq_self_eq_true, bne_self_eq_false, Int.reduceBEq, Int.reduceBNe, Int.reduceLT, Int.reduceLE, Int.reduceGT, decide_true, decide_false, eqB_self, la_cons, la_nil, e, b_plus, b_minus, w0, w1, w2, w3, w4, len3, ix0, ix1, ix2, all_an, st_an hV.cells1.2, stA_an])
  replace hW := hW.put (.cells (anL 0 0 0 0 [] nilS) 43 0) (.cells (anL a7.status a7.num a7.kind a7.mode a7.data V) 43 0)
  refine lface_c hW e8 ?_
  intro s V hW hl hV
  have hW1 := hW.put (.cells (anL 0 0 0 0 [] nilS) 43 0) (.cells (anL a8.status a8.num a8.kind a8.mode a8.data V) 43 0)
  have g1 := hW.ne0
  have g2 := hW.ne1
  have g3 := hW.get0
  have g4 := hW.get1
  repeat (first | with_reducible (refine w_one H ?_; constructor) | simp only [rB, rP, rQ, boolA, intA, resultA, resA, reduceIte, reduceCtorEq, Nat.reduceAdd, Nat.reduceLT, Nat.reduceEqDiff, UInt8.reduceToNat, pe4, pf4, b_eqi, b_nei, b_lt, b_le, b_gt, b_ge, fn_an0, fn_an1, fn_an4, fn_an5, bc_01, bc_012, bc_015, bc_0145, bc_0147, bc_016, bc_0167, bc_017, bc_03, bc_035, bc_0347, beq_self_eq_true, bne_self_eq_false, Int.reduceBEq, Int.reduceBNe, Int.reduceLT, Int.reduceLE, Int.reduceGT, decide_true, decide_false, eqB_self, la_cons, la_nil, e, b_plus, b_minus, w0, w1, w2, w3, w4, len3, ix0, ix1, ix2, all_an, st_an hV.cells1.2, stA_an, an_g0, an_g1, an_g2, an_g3, an_g4, an_g5, fa_an0, fa_an1, fa_an2, fa_an3, fa_an4, fa_an5, ldO_an0, ldO_an1, ldO_an2, ldO_an3, ldO_an4, ldO_an5, ld_3, ld_9, ld_41, g1, g2, g3, g4, p6, p7, p8])
  have gs := hW.get2
  have nS := hW.ne2
  replace hW := hW1.sub (fun q hq => List.mem_cons_of_mem _ (List.mem_cons_of_mem _ (List.mem_cons_of_mem _ hq)))
  clear hW1 g1 g2 g3 g4
  rw [p8] at hW
  refine w_loop H ?_
  repeat (first | with_reducible (refine w_one H ?_; constructor) | simp only [rB, rP, rQ, boolA, intA, resultA, resA, reduceIte, reduceCtorEq, Nat.reduceAdd, Nat.reduceLT, Nat.reduceEqDiff, UInt8.reduceToNat, pe4, pf4, b_eqi, b_nei, b_lt, b_le, b_gt, b_ge, fn_an0, fn_an1, fn_an4, fn_an5, bc_01, bc_012, bc_015, bc_0145, bc_0147, bc_016, bc_0167, bc_017, bc_03, bc_035, bc_0347, beq_self_eq_true, bne_self_eq_false, Int.reduceBEq, Int.reduceBNe, Int.reduceLT, Int.reduceLE, Int.reduceGT, decide_true, decide_false, eqB_self, la_cons, la_nil, e, b_plus, b_minus, w0, w1, w2, w3, w4, len3, ix0, ix1, ix2, gs, nS, ld_9])
  refine lface_c hW e9 ?_
  intro s V hW hl hV
  repeat (first | with_reducible (refine w_one H ?_; constructor) | simp only [rB, rP, rQ, boolA, intA, resultA, resA, reduceIte, reduceCtorEq, Nat.reduceAdd, Nat.reduceLT, Nat.reduceEqDiff, UInt8.reduceToNat, pe4, pf4, b_eqi, b_nei, b_lt, b_le, b_gt, b_ge, fn_an0, fn_an1, fn_an4, fn_an5, bc_01, bc_012, bc_015, bc_0145, bc_0147, bc_016, bc_0167, bc_017, bc_03, bc_035, bc_0347, beq_self_eq_true, bne_self_eq_false, Int.reduceBEq, Int.reduceBNe, Int.reduceLT, Int.reduceLE, Int.reduceGT, decide_true, decide_false, eqB_self, la_cons, la_nil, e, b_plus, b_minus, w0, w1, w2, w3, w4, len3, ix0, ix1, ix2, all_an, st_an hV.cells1.2, stA_an])
  replace hW := hW.put (.cells (anL 0 0 0 0 [] nilS) 43 0) (.cells (anL a9.status a9.num a9.kind a9.mode a9.data V) 43 0)
  refine lface_c hW e10 ?_
  intro s V hW hl hV
  repeat (first | with_reducible (refine w_one H ?_; constructor) | simp only [rB, rP, rQ, boolA, intA, resultA, resA, reduceIte, reduceCtorEq, Nat.reduceAdd, Nat.reduceLT, Nat.reduceEqDiff, UInt8.reduceToNat, pe4, pf4, b_eqi, b_nei, b_lt, b_le, b_gt, b_ge, fn_an0, fn_an1, fn_an4, fn_an5, bc_01, bc_012, bc_015, bc_0145, bc_0147, bc_016, bc_0167, bc_017, bc_03, bc_035, bc_0347, beq_self_eq_true, bne_self_eq_false, Int.reduceBEq, Int.reduceBNe, Int.reduceLT, Int.reduceLE, Int.reduceGT, decide_true, decide_false, eqB_self, la_cons, la_nil, e, b_plus, b_minus, w0, w1, w2, w3, w4, len3, ix0, ix1, ix2, all_an, st_an hV.cells1.2, stA_an])
  replace hW := hW.put (.cells (anL 0 0 0 0 [] nilS) 43 0) (.cells (anL a10.status a10.num a10.kind a10.mode a10.data V) 43 0)
  refine lface_c hW e11 ?_
  intro s V hW hl hV
  have hW1 := hW.put (.cells (anL 0 0 0 0 [] nilS) 43 0) (.cells (anL a11.status a11.num a11.kind a11.mode a11.data V) 43 0)
  have g1 := hW.ne0
  have g2 := hW.ne1
  have g3 := hW.get0
  have g4 := hW.get1
  repeat (first | with_reducible (refine w_one H ?_; constructor) | simp only [rB, rP, rQ, boolA, intA, resultA, resA, reduceIte, reduceCtorEq, Nat.reduceAdd, Nat.reduceLT, Nat.reduceEqDiff, UInt8.reduceToNat, pe4, pf4, b_eqi, b_nei, b_lt, b_le, b_gt, b_ge, fn_an0, fn_an1, fn_an4, fn_an5, bc_01, bc_012, bc_015, bc_0145, bc_0147, bc_016, bc_0167, bc_017, bc_03, bc_035, bc_0347, beq_self_eq_true, bne_self_eq_false, Int.reduceBEq, Int.reduceBNe, Int.reduceLT, Int.reduceLE, Int.reduceGT, decide_true, decide_false, eqB_self, la_cons, la_nil, e, b_plus, b_minus, w0, w1, w2, w3, w4, len3, ix0, ix1, ix2, all_an, st_an hV.cells1.2, stA_an, an_g0, an_g1, an_g2, an_g3, an_g4, an_g5, fa_an0, fa_an1, fa_an2, fa_an3, fa_an4, fa_an5, ldO_an0, ldO_an1, ldO_an2, ldO_an3, ldO_an4, ldO_an5, ld_3, ld_9, ld_41, g1, g2, g3, g4, p9, p10, p11])
  have gs := hW.get2
  have nS := hW.ne2
  replace hW := hW1.sub (fun q hq => List.mem_cons_of_mem _ (List.mem_cons_of_mem _ (List.mem_cons_of_mem _ hq)))
  clear hW1 g1 g2 g3 g4
  rw [p11] at hW
  refine w_loop H ?_
  repeat (first | with_reducible (refine w_one H ?_; constructor) | simp only [rB, rP, rQ, boolA, intA, resultA, resA, reduceIte, reduceCtorEq, Nat.reduceAdd, Nat.reduceLT, Nat.reduceEqDiff, UInt8.reduceToNat, pe4, pf4, b_eqi, b_nei, b_lt, b_le, b_gt, b_ge, fn_an0, fn_an1, fn_an4, fn_an5, bc_01, bc_012, bc_015, bc_0145, bc_0147, bc_016, bc_0167, bc_017, bc_03, bc_035, bc_0347, beq_self_eq_true, bne_self_eq_false, Int.reduceBEq, Int.reduceBNe, Int.reduceLT, Int.reduceLE, Int.reduceGT, decide_true, decide_false, eqB_self, la_cons, la_nil, e, b_plus, b_minus, w0, w1, w2, w3, w4, len3, ix0, ix1, ix2])
  refine lface_c hW e12 ?_
  intro s V hW hl hV
  repeat (first | with_reducible (refine w_one H ?_; constructor) | simp only [rB, rP, rQ, boolA, intA, resultA, resA, reduceIte, reduceCtorEq, Nat.reduceAdd, Nat.reduceLT, Nat.reduceEqDiff, UInt8.reduceToNat, pe4, pf4, b_eqi, b_nei, b_lt, b_le, b_gt, b_ge, fn_an0, fn_an1, fn_an4, fn_an5, bc_01, bc_012, bc_015, bc_0145, bc_0147, bc_016, bc_0167, bc_017, bc_03, bc_035, bc_0347, beq_self_eq_true, bne_self_eq_false, Int.reduceBEq, Int.reduceBNe, Int.reduceLT, Int.reduceLE, Int.reduceGT, decide_true, decide_false, eqB_self, la_cons, la_nil, e, b_plus, b_minus, w0, w1, w2, w3, w4, len3, ix0, ix1, ix2, p12, Tryz.results40])
  rfl
theorem modesRun : allN 512 (fun r => modesV M0 (r : Int)) = true := by kernel_rfl
end Go.AX
namespace Go.AX
open Go.Proofs Go.RowKit
set_option maxRecDepth 1000000
set_option linter.unusedSimpArgs false
set_option linter.unusedVariables false
theorem modesAll (a0 : Int) {s : St} (hW : WL s M0 []) : (sem Tryz.prog).call 40 [.fn 62 [.ptr 13 0], .raw (.int .i64 a0)] s (fun v _ => isTrue v) (fun _ _ => false) = true := by
  obtain ⟨r, hr, e⟩ := and_lt (x := a0) (m := 511) (by decide)
  exact modes_c a0 e hr hW (allN_at modesRun (i := r) (by omega))
theorem modesWalk (a0 : Int) (w : Go.World) : Calls Tryz.prog 12 #[.int .i64 a0] w fun e w' => e = .returned (.bool true) ∧ Below w.heap.size w w' := by
  refine sem_walk (args := [.raw (.int .i64 a0)]) (Args := [.int .i64 a0]) (VRels.cons (by simp [VRel]) VRels.nil) ?_ w
  have H := ok3
  show (sem Tryz.prog).call 12 [.raw (.int .i64 a0)] st0 _ _ = true
  refine w_call H 9 fn_12 rfl rfl ?_
  repeat (first | with_reducible (refine w_one H ?_; constructor) | simp only [rB, rP, rQ, boolA, intA, resultA, resA, reduceIte, reduceCtorEq, Nat.reduceAdd, Nat.reduceLT, Nat.reduceEqDiff, UInt8.reduceToNat, pe3, pf3, c_awake, Tryz.results12] | (with_reducible refine faceW_c ?_; intro s hW) | (with_reducible refine call_true (modesAll a0 hW) (fun s' => ?_)))
  rfl
end Go.AX
