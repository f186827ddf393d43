import Derived.Test.YthkkdhjekjoalaaGreatDoorD2
set_option linter.unusedVariables false
set_option linter.unusedSimpArgs false
set_option linter.defProp false
namespace Go.AX
open Go.Proofs Go.RowKit
set_option maxRecDepth 1000000
set_option maxHeartbeats 40000000
set_option linter.unusedSimpArgs false
set_option linter.unusedVariables false

def sameAn (a b : An) : Bool := decide (b.status = a.status) && (decide (b.num = a.num) && (decide (b.kind = a.kind) && (decide (b.mode = a.mode) && eqB b.data a.data)))
def renmE (six : Bool) (p : List Nat) (M : Md) : Bool := ask M (qC 1 [120]) (ns []) fun a M => ask M (rnC [120] p) (st 0) fun _ M => ask M (qC 1 p) (fun b => ns [] b && sameAn a b) fun _ M => ask M (qC 1 [120]) (st 1) fun _ M =>
  bif six then (ask M (qC 1 (p ++ [47, 105, 110])) (st 0) fun _ _ => true) else true
def askIf (b : Bool) (c : Cl) (k : Md → Bool) (M : Md) : Bool := bif b then (ask M c (st 0) fun _ M => k M) else k M
def renmV (six there : Bool) (op : Int) (p : List Nat) (M : Md) : Bool := ask M (mkC 6 [116, 111]) (st 0) fun _ M => ask M (mkC op [120]) (st 0) fun _ M => askIf six (mkC 5 [120, 47, 105, 110]) (askIf there (mkC op p) (renmE six p)) M
theorem ren000_c (z0 : Int) {r : Nat} (er : (IntKind.u64.wrap z0).tmod 3 = (r : Int)) (hr : r < 3) {op : Int} (lo : ∀ t z, ldO (some (.cells [.raw (.int .i64 5), .raw (.int .i64 6), .raw (.int .i64 7)] t z)) r = some (.raw (.int .i64 op))) (k1 : (op == 6) = false) (k2 : (op != 6) = true) {M : Md} {s : St} (hW : WL s M []) (h : renmV false false op [121] M = true) :
    (sem Tryz.prog).call 38 [.fn 62 [.ptr 13 0], .raw (.int .i64 z0), .raw (.bool false), .raw (.bool false)] s (fun v _ => isTrue v) (fun _ _ => false) = true := by
  have H := ok4
  have m3 : (3 : Int) ≠ 0 := by decide
  have ix := fun q => ix_u3 (q := q) hr
  unfold renmV at h
  obtain ⟨a1, M1, e1, p1, h⟩ := ask_inv h
  obtain ⟨a2, M2, e2, p2, h⟩ := ask_inv h
  have p1 := st_of p1
  have p2 := st_of p2
  simp only [askIf, cond_true, cond_false] at h
  unfold renmE at h
  obtain ⟨a5, M5, e5, p5, h⟩ := ask_inv h
  obtain ⟨a6, M6, e6, p6, h⟩ := ask_inv h
  obtain ⟨a7, M7, e7, p7, h⟩ := ask_inv h
  obtain ⟨a8, M8, e8, p8, h⟩ := ask_inv h
  have p5 := ns_of p5
  have p6 := st_of p6
  have p8 := st_of p8
  simp only [sameAn, Bool.and_eq_true, decide_eq_true_eq] at p7
  obtain ⟨p7, q1, q2, q3, q4, q5⟩ := p7
  have p7 := ns_of p7
  rw [eqB_iff, decide_eq_true_eq] at q5
  refine w_call H 86 fn_38 rfl rfl ?_
  repeat (first | with_reducible (refine w_one H ?_; constructor) | simp only [rB, rP, rQ, boolA, intA, resultA, resA, reduceIte, reduceCtorEq, Nat.reduceAdd, Nat.reduceLT, Nat.reduceEqDiff, UInt8.reduceToNat, pe4, pf4, b_eqi, b_nei, b_lt, b_le, b_gt, b_ge, fn_an0, fn_an1, fn_an4, fn_an5, bc_01, bc_012, bc_015, bc_0145, bc_0147, bc_016, bc_0167, bc_017, bc_03, bc_035, bc_0347, beq_self_eq_true, bne_self_eq_false, Int.reduceBEq, Int.reduceBNe, Int.reduceLT, Int.reduceLE, Int.reduceGT, decide_true, decide_false, eqB_self, la_cons, la_nil, o_cvt, toU_int, b_rem, eqS_rem, rm_eq m3, u64_int, remA_int, er, i64_int, ix, lo, bs_ops, k1, k2, ld_3])
  replace hW := hW.alloc (.cells [.raw (.int .i64 5), .raw (.int .i64 6), .raw (.int .i64 7)] 3 0)
  refine lmake_c ok3 hW e1 p1 ?_
  intro s hW hl
  repeat (first | with_reducible (refine w_one H ?_; constructor) | simp only [rB, rP, rQ, boolA, intA, resultA, resA, reduceIte, reduceCtorEq, Nat.reduceAdd, Nat.reduceLT, Nat.reduceEqDiff, UInt8.reduceToNat, pe4, pf4, b_eqi, b_nei, b_lt, b_le, b_gt, b_ge, fn_an0, fn_an1, fn_an4, fn_an5, bc_01, bc_012, bc_015, bc_0145, bc_0147, bc_016, bc_0167, bc_017, bc_03, bc_035, bc_0347, beq_self_eq_true, bne_self_eq_false, Int.reduceBEq, Int.reduceBNe, Int.reduceLT, Int.reduceLE, Int.reduceGT, decide_true, decide_false, eqB_self, la_cons, la_nil, o_cvt, toU_int, b_rem, eqS_rem, rm_eq m3, u64_int, remA_int, er, i64_int, ix, lo, bs_ops, k1, k2] | (with_reducible refine lmake_c ok3 hW (by assumption) (by assumption) ?_; intro s hW hl) | (with_reducible refine lstatus_c ok3 hW (by assumption) (by assumption) ?_; intro s hW hl) | (with_reducible refine lwrite_c ok3 hW (by assumption) (by assumption) ?_; intro s hW hl) | (with_reducible refine lread_c ok3 hW (by assumption) (by assumption) ?_; intro s hW hl))
  refine lface_c hW e5 ?_
  intro s5 V5 hW hl hV
  have l5 := hV.len
  have i5 := hV.ids
  rw [p5] at l5
  repeat (first | with_reducible (refine w_one H ?_; constructor) | simp only [rB, rP, rQ, boolA, intA, resultA, resA, reduceIte, reduceCtorEq, Nat.reduceAdd, Nat.reduceLT, Nat.reduceEqDiff, UInt8.reduceToNat, pe4, pf4, b_eqi, b_nei, b_lt, b_le, b_gt, b_ge, fn_an0, fn_an1, fn_an4, fn_an5, bc_01, bc_012, bc_015, bc_0145, bc_0147, bc_016, bc_0167, bc_017, bc_03, bc_035, bc_0347, beq_self_eq_true, bne_self_eq_false, Int.reduceBEq, Int.reduceBNe, Int.reduceLT, Int.reduceLE, Int.reduceGT, decide_true, decide_false, eqB_self, la_cons, la_nil, o_cvt, toU_int, b_rem, eqS_rem, rm_eq m3, u64_int, remA_int, er, i64_int, ix, lo, bs_ops, k1, k2, all_an, st_an hV.cells1.2, stA_an])
  replace hW := hW.put (.cells (anL 0 0 0 0 [] nilS) 43 0) (.cells (anL a5.status a5.num a5.kind a5.mode a5.data V5) 43 0)
  refine lface_c hW e6 ?_
  intro s6 V6 hW hl hV
  repeat (first | with_reducible (refine w_one H ?_; constructor) | simp only [rB, rP, rQ, boolA, intA, resultA, resA, reduceIte, reduceCtorEq, Nat.reduceAdd, Nat.reduceLT, Nat.reduceEqDiff, UInt8.reduceToNat, pe4, pf4, b_eqi, b_nei, b_lt, b_le, b_gt, b_ge, fn_an0, fn_an1, fn_an4, fn_an5, bc_01, bc_012, bc_015, bc_0145, bc_0147, bc_016, bc_0167, bc_017, bc_03, bc_035, bc_0347, beq_self_eq_true, bne_self_eq_false, Int.reduceBEq, Int.reduceBNe, Int.reduceLT, Int.reduceLE, Int.reduceGT, decide_true, decide_false, eqB_self, la_cons, la_nil, o_cvt, toU_int, b_rem, eqS_rem, rm_eq m3, u64_int, remA_int, er, i64_int, ix, lo, bs_ops, k1, k2, all_an, st_an hV.cells1.2, stA_an, p6])
  replace hW := hW.put (.cells (anL 0 0 0 0 [] nilS) 43 0) (.cells (anL 0 a6.num a6.kind a6.mode a6.data V6) 43 0)
  refine lface_c hW e7 ?_
  intro s7 V7 hW hl hV
  have l7 := hV.len
  have i7 := hV.ids
  rw [p7] at l7
  have hW1 := hW.put (.cells (anL 0 0 0 0 [] nilS) 43 0) (.cells (anL a5.status a5.num a5.kind a5.mode a5.data V7) 43 0)
  have g6 := hW.get0
  have n6 := hW.ne0
  have g5 := hW.get1
  have n5 := hW.ne1
  repeat (first | with_reducible (refine w_one H ?_; constructor) | simp only [rB, rP, rQ, boolA, intA, resultA, resA, reduceIte, reduceCtorEq, Nat.reduceAdd, Nat.reduceLT, Nat.reduceEqDiff, UInt8.reduceToNat, pe4, pf4, b_eqi, b_nei, b_lt, b_le, b_gt, b_ge, fn_an0, fn_an1, fn_an4, fn_an5, bc_01, bc_012, bc_015, bc_0145, bc_0147, bc_016, bc_0167, bc_017, bc_03, bc_035, bc_0347, beq_self_eq_true, bne_self_eq_false, Int.reduceBEq, Int.reduceBNe, Int.reduceLT, Int.reduceLE, Int.reduceGT, decide_true, decide_false, eqB_self, la_cons, la_nil, o_cvt, toU_int, b_rem, eqS_rem, rm_eq m3, u64_int, remA_int, er, i64_int, ix, lo, bs_ops, k1, k2, all_an, st_an hV.cells1.2, stA_an, an_g0, an_g1, an_g2, an_g3, an_g4, an_g5, fa_an0, fa_an1, fa_an2, fa_an3, fa_an4, fa_an5, ldO_an0, ldO_an1, ldO_an2, ldO_an3, ldO_an4, ldO_an5, ld_3, ld_9, ld_41, q1, q2, q3, q4, q5, g5, g6, n5, n6, ld_an, ldG_an])
  refine sameA_c hW1.below l5 i5 l7 i7 (fun s8 hE8 hB8 => ?_)
  replace hW := hW1.ext hE8 hB8
  repeat (first | with_reducible (refine w_one H ?_; constructor) | simp only [rB, rP, rQ, boolA, intA, resultA, resA, reduceIte, reduceCtorEq, Nat.reduceAdd, Nat.reduceLT, Nat.reduceEqDiff, UInt8.reduceToNat, pe4, pf4, b_eqi, b_nei, b_lt, b_le, b_gt, b_ge, fn_an0, fn_an1, fn_an4, fn_an5, bc_01, bc_012, bc_015, bc_0145, bc_0147, bc_016, bc_0167, bc_017, bc_03, bc_035, bc_0347, beq_self_eq_true, bne_self_eq_false, Int.reduceBEq, Int.reduceBNe, Int.reduceLT, Int.reduceLE, Int.reduceGT, decide_true, decide_false, eqB_self, la_cons, la_nil, o_cvt, toU_int, b_rem, eqS_rem, rm_eq m3, u64_int, remA_int, er, i64_int, ix, lo, bs_ops, k1, k2, Tryz.results38] | (with_reducible refine lmake_c ok3 hW (by assumption) (by assumption) ?_; intro s hW hl) | (with_reducible refine lstatus_c ok3 hW (by assumption) (by assumption) ?_; intro s hW hl) | (with_reducible refine lwrite_c ok3 hW (by assumption) (by assumption) ?_; intro s hW hl) | (with_reducible refine lread_c ok3 hW (by assumption) (by assumption) ?_; intro s hW hl))
  rfl
theorem ren001_c (z0 : Int) {r : Nat} (er : (IntKind.u64.wrap z0).tmod 3 = (r : Int)) (hr : r < 3) {op : Int} (lo : ∀ t z, ldO (some (.cells [.raw (.int .i64 5), .raw (.int .i64 6), .raw (.int .i64 7)] t z)) r = some (.raw (.int .i64 op))) (k1 : (op == 6) = false) (k2 : (op != 6) = true) {M : Md} {s : St} (hW : WL s M []) (h : renmV false true op [121] M = true) :
    (sem Tryz.prog).call 38 [.fn 62 [.ptr 13 0], .raw (.int .i64 z0), .raw (.bool false), .raw (.bool true)] s (fun v _ => isTrue v) (fun _ _ => false) = true := by
  have H := ok4
  have m3 : (3 : Int) ≠ 0 := by decide
  have ix := fun q => ix_u3 (q := q) hr
  unfold renmV at h
  obtain ⟨a1, M1, e1, p1, h⟩ := ask_inv h
  obtain ⟨a2, M2, e2, p2, h⟩ := ask_inv h
  have p1 := st_of p1
  have p2 := st_of p2
  simp only [askIf, cond_true, cond_false] at h
  obtain ⟨a4, M4, e4, p4, h⟩ := ask_inv h
  have p4 := st_of p4
  unfold renmE at h
  obtain ⟨a5, M5, e5, p5, h⟩ := ask_inv h
  obtain ⟨a6, M6, e6, p6, h⟩ := ask_inv h
  obtain ⟨a7, M7, e7, p7, h⟩ := ask_inv h
  obtain ⟨a8, M8, e8, p8, h⟩ := ask_inv h
  have p5 := ns_of p5
  have p6 := st_of p6
  have p8 := st_of p8
  simp only [sameAn, Bool.and_eq_true, decide_eq_true_eq] at p7
  obtain ⟨p7, q1, q2, q3, q4, q5⟩ := p7
  have p7 := ns_of p7
  rw [eqB_iff, decide_eq_true_eq] at q5
  refine w_call H 86 fn_38 rfl rfl ?_
  repeat (first | with_reducible (refine w_one H ?_; constructor) | simp only [rB, rP, rQ, boolA, intA, resultA, resA, reduceIte, reduceCtorEq, Nat.reduceAdd, Nat.reduceLT, Nat.reduceEqDiff, UInt8.reduceToNat, pe4, pf4, b_eqi, b_nei, b_lt, b_le, b_gt, b_ge, fn_an0, fn_an1, fn_an4, fn_an5, bc_01, bc_012, bc_015, bc_0145, bc_0147, bc_016, bc_0167, bc_017, bc_03, bc_035, bc_0347, beq_self_eq_true, bne_self_eq_false, Int.reduceBEq, Int.reduceBNe, Int.reduceLT, Int.reduceLE, Int.reduceGT, decide_true, decide_false, eqB_self, la_cons, la_nil, o_cvt, toU_int, b_rem, eqS_rem, rm_eq m3, u64_int, remA_int, er, i64_int, ix, lo, bs_ops, k1, k2, ld_3])
  replace hW := hW.alloc (.cells [.raw (.int .i64 5), .raw (.int .i64 6), .raw (.int .i64 7)] 3 0)
  refine lmake_c ok3 hW e1 p1 ?_
  intro s hW hl
  repeat (first | with_reducible (refine w_one H ?_; constructor) | simp only [rB, rP, rQ, boolA, intA, resultA, resA, reduceIte, reduceCtorEq, Nat.reduceAdd, Nat.reduceLT, Nat.reduceEqDiff, UInt8.reduceToNat, pe4, pf4, b_eqi, b_nei, b_lt, b_le, b_gt, b_ge, fn_an0, fn_an1, fn_an4, fn_an5, bc_01, bc_012, bc_015, bc_0145, bc_0147, bc_016, bc_0167, bc_017, bc_03, bc_035, bc_0347, beq_self_eq_true, bne_self_eq_false, Int.reduceBEq, Int.reduceBNe, Int.reduceLT, Int.reduceLE, Int.reduceGT, decide_true, decide_false, eqB_self, la_cons, la_nil, o_cvt, toU_int, b_rem, eqS_rem, rm_eq m3, u64_int, remA_int, er, i64_int, ix, lo, bs_ops, k1, k2] | (with_reducible refine lmake_c ok3 hW (by assumption) (by assumption) ?_; intro s hW hl) | (with_reducible refine lstatus_c ok3 hW (by assumption) (by assumption) ?_; intro s hW hl) | (with_reducible refine lwrite_c ok3 hW (by assumption) (by assumption) ?_; intro s hW hl) | (with_reducible refine lread_c ok3 hW (by assumption) (by assumption) ?_; intro s hW hl))
  refine lface_c hW e5 ?_
  intro s5 V5 hW hl hV
  have l5 := hV.len
  have i5 := hV.ids
  rw [p5] at l5
  repeat (first | with_reducible (refine w_one H ?_; constructor) | simp only [rB, rP, rQ, boolA, intA, resultA, resA, reduceIte, reduceCtorEq, Nat.reduceAdd, Nat.reduceLT, Nat.reduceEqDiff, UInt8.reduceToNat, pe4, pf4, b_eqi, b_nei, b_lt, b_le, b_gt, b_ge, fn_an0, fn_an1, fn_an4, fn_an5, bc_01, bc_012, bc_015, bc_0145, bc_0147, bc_016, bc_0167, bc_017, bc_03, bc_035, bc_0347, beq_self_eq_true, bne_self_eq_false, Int.reduceBEq, Int.reduceBNe, Int.reduceLT, Int.reduceLE, Int.reduceGT, decide_true, decide_false, eqB_self, la_cons, la_nil, o_cvt, toU_int, b_rem, eqS_rem, rm_eq m3, u64_int, remA_int, er, i64_int, ix, lo, bs_ops, k1, k2, all_an, st_an hV.cells1.2, stA_an])
  replace hW := hW.put (.cells (anL 0 0 0 0 [] nilS) 43 0) (.cells (anL a5.status a5.num a5.kind a5.mode a5.data V5) 43 0)
  refine lface_c hW e6 ?_
  intro s6 V6 hW hl hV
  repeat (first | with_reducible (refine w_one H ?_; constructor) | simp only [rB, rP, rQ, boolA, intA, resultA, resA, reduceIte, reduceCtorEq, Nat.reduceAdd, Nat.reduceLT, Nat.reduceEqDiff, UInt8.reduceToNat, pe4, pf4, b_eqi, b_nei, b_lt, b_le, b_gt, b_ge, fn_an0, fn_an1, fn_an4, fn_an5, bc_01, bc_012, bc_015, bc_0145, bc_0147, bc_016, bc_0167, bc_017, bc_03, bc_035, bc_0347, beq_self_eq_true, bne_self_eq_false, Int.reduceBEq, Int.reduceBNe, Int.reduceLT, Int.reduceLE, Int.reduceGT, decide_true, decide_false, eqB_self, la_cons, la_nil, o_cvt, toU_int, b_rem, eqS_rem, rm_eq m3, u64_int, remA_int, er, i64_int, ix, lo, bs_ops, k1, k2, all_an, st_an hV.cells1.2, stA_an, p6])
  replace hW := hW.put (.cells (anL 0 0 0 0 [] nilS) 43 0) (.cells (anL 0 a6.num a6.kind a6.mode a6.data V6) 43 0)
  refine lface_c hW e7 ?_
  intro s7 V7 hW hl hV
  have l7 := hV.len
  have i7 := hV.ids
  rw [p7] at l7
  have hW1 := hW.put (.cells (anL 0 0 0 0 [] nilS) 43 0) (.cells (anL a5.status a5.num a5.kind a5.mode a5.data V7) 43 0)
  have g6 := hW.get0
  have n6 := hW.ne0
  have g5 := hW.get1
  have n5 := hW.ne1
  repeat (first | with_reducible (refine w_one H ?_; constructor) | simp only [rB, rP, rQ, boolA, intA, resultA, resA, reduceIte, reduceCtorEq, Nat.reduceAdd, Nat.reduceLT, Nat.reduceEqDiff, UInt8.reduceToNat, pe4, pf4, b_eqi, b_nei, b_lt, b_le, b_gt, b_ge, fn_an0, fn_an1, fn_an4, fn_an5, bc_01, bc_012, bc_015, bc_0145, bc_0147, bc_016, bc_0167, bc_017, bc_03, bc_035, bc_0347, beq_self_eq_true, bne_self_eq_false, Int.reduceBEq, Int.reduceBNe, Int.reduceLT, Int.reduceLE, Int.reduceGT, decide_true, decide_false, eqB_self, la_cons, la_nil, o_cvt, toU_int, b_rem, eqS_rem, rm_eq m3, u64_int, remA_int, er, i64_int, ix, lo, bs_ops, k1, k2, all_an, st_an hV.cells1.2, stA_an, an_g0, an_g1, an_g2, an_g3, an_g4, an_g5, fa_an0, fa_an1, fa_an2, fa_an3, fa_an4, fa_an5, ldO_an0, ldO_an1, ldO_an2, ldO_an3, ldO_an4, ldO_an5, ld_3, ld_9, ld_41, q1, q2, q3, q4, q5, g5, g6, n5, n6, ld_an, ldG_an])
  refine sameA_c hW1.below l5 i5 l7 i7 (fun s8 hE8 hB8 => ?_)
  replace hW := hW1.ext hE8 hB8
  repeat (first | with_reducible (refine w_one H ?_; constructor) | simp only [rB, rP, rQ, boolA, intA, resultA, resA, reduceIte, reduceCtorEq, Nat.reduceAdd, Nat.reduceLT, Nat.reduceEqDiff, UInt8.reduceToNat, pe4, pf4, b_eqi, b_nei, b_lt, b_le, b_gt, b_ge, fn_an0, fn_an1, fn_an4, fn_an5, bc_01, bc_012, bc_015, bc_0145, bc_0147, bc_016, bc_0167, bc_017, bc_03, bc_035, bc_0347, beq_self_eq_true, bne_self_eq_false, Int.reduceBEq, Int.reduceBNe, Int.reduceLT, Int.reduceLE, Int.reduceGT, decide_true, decide_false, eqB_self, la_cons, la_nil, o_cvt, toU_int, b_rem, eqS_rem, rm_eq m3, u64_int, remA_int, er, i64_int, ix, lo, bs_ops, k1, k2, Tryz.results38] | (with_reducible refine lmake_c ok3 hW (by assumption) (by assumption) ?_; intro s hW hl) | (with_reducible refine lstatus_c ok3 hW (by assumption) (by assumption) ?_; intro s hW hl) | (with_reducible refine lwrite_c ok3 hW (by assumption) (by assumption) ?_; intro s hW hl) | (with_reducible refine lread_c ok3 hW (by assumption) (by assumption) ?_; intro s hW hl))
  rfl
theorem ren010_c (z0 : Int) {r : Nat} (er : (IntKind.u64.wrap z0).tmod 3 = (r : Int)) (hr : r < 3) {op : Int} (lo : ∀ t z, ldO (some (.cells [.raw (.int .i64 5), .raw (.int .i64 6), .raw (.int .i64 7)] t z)) r = some (.raw (.int .i64 op))) (k1 : (op == 6) = false) (k2 : (op != 6) = true) {M : Md} {s : St} (hW : WL s M []) (h : renmV false false op [116, 111, 47, 121] M = true) :
    (sem Tryz.prog).call 38 [.fn 62 [.ptr 13 0], .raw (.int .i64 z0), .raw (.bool true), .raw (.bool false)] s (fun v _ => isTrue v) (fun _ _ => false) = true := by
  have H := ok4
  have m3 : (3 : Int) ≠ 0 := by decide
  have ix := fun q => ix_u3 (q := q) hr
  unfold renmV at h
  obtain ⟨a1, M1, e1, p1, h⟩ := ask_inv h
  obtain ⟨a2, M2, e2, p2, h⟩ := ask_inv h
  have p1 := st_of p1
  have p2 := st_of p2
  simp only [askIf, cond_true, cond_false] at h
  unfold renmE at h
  obtain ⟨a5, M5, e5, p5, h⟩ := ask_inv h
  obtain ⟨a6, M6, e6, p6, h⟩ := ask_inv h
  obtain ⟨a7, M7, e7, p7, h⟩ := ask_inv h
  obtain ⟨a8, M8, e8, p8, h⟩ := ask_inv h
  have p5 := ns_of p5
  have p6 := st_of p6
  have p8 := st_of p8
  simp only [sameAn, Bool.and_eq_true, decide_eq_true_eq] at p7
  obtain ⟨p7, q1, q2, q3, q4, q5⟩ := p7
  have p7 := ns_of p7
  rw [eqB_iff, decide_eq_true_eq] at q5
  refine w_call H 86 fn_38 rfl rfl ?_
  repeat (first | with_reducible (refine w_one H ?_; constructor) | simp only [rB, rP, rQ, boolA, intA, resultA, resA, reduceIte, reduceCtorEq, Nat.reduceAdd, Nat.reduceLT, Nat.reduceEqDiff, UInt8.reduceToNat, pe4, pf4, b_eqi, b_nei, b_lt, b_le, b_gt, b_ge, fn_an0, fn_an1, fn_an4, fn_an5, bc_01, bc_012, bc_015, bc_0145, bc_0147, bc_016, bc_0167, bc_017, bc_03, bc_035, bc_0347, beq_self_eq_true, bne_self_eq_false, Int.reduceBEq, Int.reduceBNe, Int.reduceLT, Int.reduceLE, Int.reduceGT, decide_true, decide_false, eqB_self, la_cons, la_nil, o_cvt, toU_int, b_rem, eqS_rem, rm_eq m3, u64_int, remA_int, er, i64_int, ix, lo, bs_ops, k1, k2, ld_3])
  replace hW := hW.alloc (.cells [.raw (.int .i64 5), .raw (.int .i64 6), .raw (.int .i64 7)] 3 0)
  refine lmake_c ok3 hW e1 p1 ?_
  intro s hW hl
  repeat (first | with_reducible (refine w_one H ?_; constructor) | simp only [rB, rP, rQ, boolA, intA, resultA, resA, reduceIte, reduceCtorEq, Nat.reduceAdd, Nat.reduceLT, Nat.reduceEqDiff, UInt8.reduceToNat, pe4, pf4, b_eqi, b_nei, b_lt, b_le, b_gt, b_ge, fn_an0, fn_an1, fn_an4, fn_an5, bc_01, bc_012, bc_015, bc_0145, bc_0147, bc_016, bc_0167, bc_017, bc_03, bc_035, bc_0347, beq_self_eq_true, bne_self_eq_false, Int.reduceBEq, Int.reduceBNe, Int.reduceLT, Int.reduceLE, Int.reduceGT, decide_true, decide_false, eqB_self, la_cons, la_nil, o_cvt, toU_int, b_rem, eqS_rem, rm_eq m3, u64_int, remA_int, er, i64_int, ix, lo, bs_ops, k1, k2] | (with_reducible refine lmake_c ok3 hW (by assumption) (by assumption) ?_; intro s hW hl) | (with_reducible refine lstatus_c ok3 hW (by assumption) (by assumption) ?_; intro s hW hl) | (with_reducible refine lwrite_c ok3 hW (by assumption) (by assumption) ?_; intro s hW hl) | (with_reducible refine lread_c ok3 hW (by assumption) (by assumption) ?_; intro s hW hl))
  refine lface_c hW e5 ?_
  intro s5 V5 hW hl hV
  have l5 := hV.len
  have i5 := hV.ids
  rw [p5] at l5
  repeat (first | with_reducible (refine w_one H ?_; constructor) | simp only [rB, rP, rQ, boolA, intA, resultA, resA, reduceIte, reduceCtorEq, Nat.reduceAdd, Nat.reduceLT, Nat.reduceEqDiff, UInt8.reduceToNat, pe4, pf4, b_eqi, b_nei, b_lt, b_le, b_gt, b_ge, fn_an0, fn_an1, fn_an4, fn_an5, bc_01, bc_012, bc_015, bc_0145, bc_0147, bc_016, bc_0167, bc_017, bc_03, bc_035, bc_0347, beq_self_eq_true, bne_self_eq_false, Int.reduceBEq, Int.reduceBNe, Int.reduceLT, Int.reduceLE, Int.reduceGT, decide_true, decide_false, eqB_self, la_cons, la_nil, o_cvt, toU_int, b_rem, eqS_rem, rm_eq m3, u64_int, remA_int, er, i64_int, ix, lo, bs_ops, k1, k2, all_an, st_an hV.cells1.2, stA_an])
  replace hW := hW.put (.cells (anL 0 0 0 0 [] nilS) 43 0) (.cells (anL a5.status a5.num a5.kind a5.mode a5.data V5) 43 0)
  refine lface_c hW e6 ?_
  intro s6 V6 hW hl hV
  repeat (first | with_reducible (refine w_one H ?_; constructor) | simp only [rB, rP, rQ, boolA, intA, resultA, resA, reduceIte, reduceCtorEq, Nat.reduceAdd, Nat.reduceLT, Nat.reduceEqDiff, UInt8.reduceToNat, pe4, pf4, b_eqi, b_nei, b_lt, b_le, b_gt, b_ge, fn_an0, fn_an1, fn_an4, fn_an5, bc_01, bc_012, bc_015, bc_0145, bc_0147, bc_016, bc_0167, bc_017, bc_03, bc_035, bc_0347, beq_self_eq_true, bne_self_eq_false, Int.reduceBEq, Int.reduceBNe, Int.reduceLT, Int.reduceLE, Int.reduceGT, decide_true, decide_false, eqB_self, la_cons, la_nil, o_cvt, toU_int, b_rem, eqS_rem, rm_eq m3, u64_int, remA_int, er, i64_int, ix, lo, bs_ops, k1, k2, all_an, st_an hV.cells1.2, stA_an, p6])
  replace hW := hW.put (.cells (anL 0 0 0 0 [] nilS) 43 0) (.cells (anL 0 a6.num a6.kind a6.mode a6.data V6) 43 0)
  refine lface_c hW e7 ?_
  intro s7 V7 hW hl hV
  have l7 := hV.len
  have i7 := hV.ids
  rw [p7] at l7
  have hW1 := hW.put (.cells (anL 0 0 0 0 [] nilS) 43 0) (.cells (anL a5.status a5.num a5.kind a5.mode a5.data V7) 43 0)
  have g6 := hW.get0
  have n6 := hW.ne0
  have g5 := hW.get1
  have n5 := hW.ne1
  repeat (first | with_reducible (refine w_one H ?_; constructor) | simp only [rB, rP, rQ, boolA, intA, resultA, resA, reduceIte, reduceCtorEq, Nat.reduceAdd, Nat.reduceLT, Nat.reduceEqDiff, UInt8.reduceToNat, pe4, pf4, b_eqi, b_nei, b_lt, b_le, b_gt, b_ge, fn_an0, fn_an1, fn_an4, fn_an5, bc_01, bc_012, bc_015, bc_0145, bc_0147, bc_016, bc_0167, bc_017, bc_03, bc_035, bc_0347, beq_self_eq_true, bne_self_eq_false, Int.reduceBEq, Int.reduceBNe, Int.reduceLT, Int.reduceLE, Int.reduceGT, decide_true, decide_false, eqB_self, la_cons, la_nil, o_cvt, toU_int, b_rem, eqS_rem, rm_eq m3, u64_int, remA_int, er, i64_int, ix, lo, bs_ops, k1, k2, all_an, st_an hV.cells1.2, stA_an, an_g0, an_g1, an_g2, an_g3, an_g4, an_g5, fa_an0, fa_an1, fa_an2, fa_an3, fa_an4, fa_an5, ldO_an0, ldO_an1, ldO_an2, ldO_an3, ldO_an4, ldO_an5, ld_3, ld_9, ld_41, q1, q2, q3, q4, q5, g5, g6, n5, n6, ld_an, ldG_an])
  refine sameA_c hW1.below l5 i5 l7 i7 (fun s8 hE8 hB8 => ?_)
  replace hW := hW1.ext hE8 hB8
  repeat (first | with_reducible (refine w_one H ?_; constructor) | simp only [rB, rP, rQ, boolA, intA, resultA, resA, reduceIte, reduceCtorEq, Nat.reduceAdd, Nat.reduceLT, Nat.reduceEqDiff, UInt8.reduceToNat, pe4, pf4, b_eqi, b_nei, b_lt, b_le, b_gt, b_ge, fn_an0, fn_an1, fn_an4, fn_an5, bc_01, bc_012, bc_015, bc_0145, bc_0147, bc_016, bc_0167, bc_017, bc_03, bc_035, bc_0347, beq_self_eq_true, bne_self_eq_false, Int.reduceBEq, Int.reduceBNe, Int.reduceLT, Int.reduceLE, Int.reduceGT, decide_true, decide_false, eqB_self, la_cons, la_nil, o_cvt, toU_int, b_rem, eqS_rem, rm_eq m3, u64_int, remA_int, er, i64_int, ix, lo, bs_ops, k1, k2, Tryz.results38] | (with_reducible refine lmake_c ok3 hW (by assumption) (by assumption) ?_; intro s hW hl) | (with_reducible refine lstatus_c ok3 hW (by assumption) (by assumption) ?_; intro s hW hl) | (with_reducible refine lwrite_c ok3 hW (by assumption) (by assumption) ?_; intro s hW hl) | (with_reducible refine lread_c ok3 hW (by assumption) (by assumption) ?_; intro s hW hl))
  rfl
theorem ren011_c (z0 : Int) {r : Nat} (er : (IntKind.u64.wrap z0).tmod 3 = (r : Int)) (hr : r < 3) {op : Int} (lo : ∀ t z, ldO (some (.cells [.raw (.int .i64 5), .raw (.int .i64 6), .raw (.int .i64 7)] t z)) r = some (.raw (.int .i64 op))) (k1 : (op == 6) = false) (k2 : (op != 6) = true) {M : Md} {s : St} (hW : WL s M []) (h : renmV false true op [116, 111, 47, 121] M = true) :
    (sem Tryz.prog).call 38 [.fn 62 [.ptr 13 0], .raw (.int .i64 z0), .raw (.bool true), .raw (.bool true)] s (fun v _ => isTrue v) (fun _ _ => false) = true := by
  have H := ok4
  have m3 : (3 : Int) ≠ 0 := by decide
  have ix := fun q => ix_u3 (q := q) hr
  unfold renmV at h
  obtain ⟨a1, M1, e1, p1, h⟩ := ask_inv h
  obtain ⟨a2, M2, e2, p2, h⟩ := ask_inv h
  have p1 := st_of p1
  have p2 := st_of p2
  simp only [askIf, cond_true, cond_false] at h
  obtain ⟨a4, M4, e4, p4, h⟩ := ask_inv h
  have p4 := st_of p4
  unfold renmE at h
  obtain ⟨a5, M5, e5, p5, h⟩ := ask_inv h
  obtain ⟨a6, M6, e6, p6, h⟩ := ask_inv h
  obtain ⟨a7, M7, e7, p7, h⟩ := ask_inv h
  obtain ⟨a8, M8, e8, p8, h⟩ := ask_inv h
  have p5 := ns_of p5
  have p6 := st_of p6
  have p8 := st_of p8
  simp only [sameAn, Bool.and_eq_true, decide_eq_true_eq] at p7
  obtain ⟨p7, q1, q2, q3, q4, q5⟩ := p7
  have p7 := ns_of p7
  rw [eqB_iff, decide_eq_true_eq] at q5
  refine w_call H 86 fn_38 rfl rfl ?_
  repeat (first | with_reducible (refine w_one H ?_; constructor) | simp only [rB, rP, rQ, boolA, intA, resultA, resA, reduceIte, reduceCtorEq, Nat.reduceAdd, Nat.reduceLT, Nat.reduceEqDiff, UInt8.reduceToNat, pe4, pf4, b_eqi, b_nei, b_lt, b_le, b_gt, b_ge, fn_an0, fn_an1, fn_an4, fn_an5, bc_01, bc_012, bc_015, bc_0145, bc_0147, bc_016, bc_0167, bc_017, bc_03, bc_035, bc_0347, beq_self_eq_true, bne_self_eq_false, Int.reduceBEq, Int.reduceBNe, Int.reduceLT, Int.reduceLE, Int.reduceGT, decide_true, decide_false, eqB_self, la_cons, la_nil, o_cvt, toU_int, b_rem, eqS_rem, rm_eq m3, u64_int, remA_int, er, i64_int, ix, lo, bs_ops, k1, k2, ld_3])
  replace hW := hW.alloc (.cells [.raw (.int .i64 5), .raw (.int .i64 6), .raw (.int .i64 7)] 3 0)
  refine lmake_c ok3 hW e1 p1 ?_
  intro s hW hl
  repeat (first | with_reducible (refine w_one H ?_; constructor) | simp only [rB, rP, rQ, boolA, intA, resultA, resA, reduceIte, reduceCtorEq, Nat.reduceAdd, Nat.reduceLT, Nat.reduceEqDiff, UInt8.reduceToNat, pe4, pf4, b_eqi, b_nei, b_lt, b_le, b_gt, b_ge, fn_an0, fn_an1, fn_an4, fn_an5, bc_01, bc_012, bc_015, bc_0145, bc_0147, bc_016, bc_0167, bc_017, bc_03, bc_035, bc_0347, beq_self_eq_true, bne_self_eq_false, Int.reduceBEq, Int.reduceBNe, Int.reduceLT, Int.reduceLE, Int.reduceGT, decide_true, decide_false, eqB_self, la_cons, la_nil, o_cvt, toU_int, b_rem, eqS_rem, rm_eq m3, u64_int, remA_int, er, i64_int, ix, lo, bs_ops, k1, k2] | (with_reducible refine lmake_c ok3 hW (by assumption) (by assumption) ?_; intro s hW hl) | (with_reducible refine lstatus_c ok3 hW (by assumption) (by assumption) ?_; intro s hW hl) | (with_reducible refine lwrite_c ok3 hW (by assumption) (by assumption) ?_; intro s hW hl) | (with_reducible refine lread_c ok3 hW (by assumption) (by assumption) ?_; intro s hW hl))
  refine lface_c hW e5 ?_
  intro s5 V5 hW hl hV
  have l5 := hV.len
  have i5 := hV.ids
  rw [p5] at l5
  repeat (first | with_reducible (refine w_one H ?_; constructor) | simp only [rB, rP, rQ, boolA, intA, resultA, resA, reduceIte, reduceCtorEq, Nat.reduceAdd, Nat.reduceLT, Nat.reduceEqDiff, UInt8.reduceToNat, pe4, pf4, b_eqi, b_nei, b_lt, b_le, b_gt, b_ge, fn_an0, fn_an1, fn_an4, fn_an5, bc_01, bc_012, bc_015, bc_0145, bc_0147, bc_016, bc_0167, bc_017, bc_03, bc_035, bc_0347, beq_self_eq_true, bne_self_eq_false, Int.reduceBEq, Int.reduceBNe, Int.reduceLT, Int.reduceLE, Int.reduceGT, decide_true, decide_false, eqB_self, la_cons, la_nil, o_cvt, toU_int, b_rem, eqS_rem, rm_eq m3, u64_int, remA_int, er, i64_int, ix, lo, bs_ops, k1, k2, all_an, st_an hV.cells1.2, stA_an])
  replace hW := hW.put (.cells (anL 0 0 0 0 [] nilS) 43 0) (.cells (anL a5.status a5.num a5.kind a5.mode a5.data V5) 43 0)
  refine lface_c hW e6 ?_
  intro s6 V6 hW hl hV
  repeat (first | with_reducible (refine w_one H ?_; constructor) | simp only [rB, rP, rQ, boolA, intA, resultA, resA, reduceIte, reduceCtorEq, Nat.reduceAdd, Nat.reduceLT, Nat.reduceEqDiff, UInt8.reduceToNat, pe4, pf4, b_eqi, b_nei, b_lt, b_le, b_gt, b_ge, fn_an0, fn_an1, fn_an4, fn_an5, bc_01, bc_012, bc_015, bc_0145, bc_0147, bc_016, bc_0167, bc_017, bc_03, bc_035, bc_0347, beq_self_eq_true, bne_self_eq_false, Int.reduceBEq, Int.reduceBNe, Int.reduceLT, Int.reduceLE, Int.reduceGT, decide_true, decide_false, eqB_self, la_cons, la_nil, o_cvt, toU_int, b_rem, eqS_rem, rm_eq m3, u64_int, remA_int, er, i64_int, ix, lo, bs_ops, k1, k2, all_an, st_an hV.cells1.2, stA_an, p6])
  replace hW := hW.put (.cells (anL 0 0 0 0 [] nilS) 43 0) (.cells (anL 0 a6.num a6.kind a6.mode a6.data V6) 43 0)
  refine lface_c hW e7 ?_
  intro s7 V7 hW hl hV
  have l7 := hV.len
  have i7 := hV.ids
  rw [p7] at l7
  have hW1 := hW.put (.cells (anL 0 0 0 0 [] nilS) 43 0) (.cells (anL a5.status a5.num a5.kind a5.mode a5.data V7) 43 0)
  have g6 := hW.get0
  have n6 := hW.ne0
  have g5 := hW.get1
  have n5 := hW.ne1
  repeat (first | with_reducible (refine w_one H ?_; constructor) | simp only [rB, rP, rQ, boolA, intA, resultA, resA, reduceIte, reduceCtorEq, Nat.reduceAdd, Nat.reduceLT, Nat.reduceEqDiff, UInt8.reduceToNat, pe4, pf4, b_eqi, b_nei, b_lt, b_le, b_gt, b_ge, fn_an0, fn_an1, fn_an4, fn_an5, bc_01, bc_012, bc_015, bc_0145, bc_0147, bc_016, bc_0167, bc_017, bc_03, bc_035, bc_0347, beq_self_eq_true, bne_self_eq_false, Int.reduceBEq, Int.reduceBNe, Int.reduceLT, Int.reduceLE, Int.reduceGT, decide_true, decide_false, eqB_self, la_cons, la_nil, o_cvt, toU_int, b_rem, eqS_rem, rm_eq m3, u64_int, remA_int, er, i64_int, ix, lo, bs_ops, k1, k2, all_an, st_an hV.cells1.2, stA_an, an_g0, an_g1, an_g2, an_g3, an_g4, an_g5, fa_an0, fa_an1, fa_an2, fa_an3, fa_an4, fa_an5, ldO_an0, ldO_an1, ldO_an2, ldO_an3, ldO_an4, ldO_an5, ld_3, ld_9, ld_41, q1, q2, q3, q4, q5, g5, g6, n5, n6, ld_an, ldG_an])
  refine sameA_c hW1.below l5 i5 l7 i7 (fun s8 hE8 hB8 => ?_)
  replace hW := hW1.ext hE8 hB8
  repeat (first | with_reducible (refine w_one H ?_; constructor) | simp only [rB, rP, rQ, boolA, intA, resultA, resA, reduceIte, reduceCtorEq, Nat.reduceAdd, Nat.reduceLT, Nat.reduceEqDiff, UInt8.reduceToNat, pe4, pf4, b_eqi, b_nei, b_lt, b_le, b_gt, b_ge, fn_an0, fn_an1, fn_an4, fn_an5, bc_01, bc_012, bc_015, bc_0145, bc_0147, bc_016, bc_0167, bc_017, bc_03, bc_035, bc_0347, beq_self_eq_true, bne_self_eq_false, Int.reduceBEq, Int.reduceBNe, Int.reduceLT, Int.reduceLE, Int.reduceGT, decide_true, decide_false, eqB_self, la_cons, la_nil, o_cvt, toU_int, b_rem, eqS_rem, rm_eq m3, u64_int, remA_int, er, i64_int, ix, lo, bs_ops, k1, k2, Tryz.results38] | (with_reducible refine lmake_c ok3 hW (by assumption) (by assumption) ?_; intro s hW hl) | (with_reducible refine lstatus_c ok3 hW (by assumption) (by assumption) ?_; intro s hW hl) | (with_reducible refine lwrite_c ok3 hW (by assumption) (by assumption) ?_; intro s hW hl) | (with_reducible refine lread_c ok3 hW (by assumption) (by assumption) ?_; intro s hW hl))
  rfl
theorem ren100_c (z0 : Int) {r : Nat} (er : (IntKind.u64.wrap z0).tmod 3 = (r : Int)) (hr : r < 3) {op : Int} (lo : ∀ t z, ldO (some (.cells [.raw (.int .i64 5), .raw (.int .i64 6), .raw (.int .i64 7)] t z)) r = some (.raw (.int .i64 op))) (k1 : (op == 6) = true) (k2 : (op != 6) = false) {M : Md} {s : St} (hW : WL s M []) (h : renmV true false op [121] M = true) :
    (sem Tryz.prog).call 38 [.fn 62 [.ptr 13 0], .raw (.int .i64 z0), .raw (.bool false), .raw (.bool false)] s (fun v _ => isTrue v) (fun _ _ => false) = true := by
  have H := ok4
  have m3 : (3 : Int) ≠ 0 := by decide
  have ix := fun q => ix_u3 (q := q) hr
  unfold renmV at h
  obtain ⟨a1, M1, e1, p1, h⟩ := ask_inv h
  obtain ⟨a2, M2, e2, p2, h⟩ := ask_inv h
  have p1 := st_of p1
  have p2 := st_of p2
  simp only [askIf, cond_true, cond_false] at h
  obtain ⟨a3, M3, e3, p3, h⟩ := ask_inv h
  have p3 := st_of p3
  unfold renmE at h
  obtain ⟨a5, M5, e5, p5, h⟩ := ask_inv h
  obtain ⟨a6, M6, e6, p6, h⟩ := ask_inv h
  obtain ⟨a7, M7, e7, p7, h⟩ := ask_inv h
  obtain ⟨a8, M8, e8, p8, h⟩ := ask_inv h
  have p5 := ns_of p5
  have p6 := st_of p6
  have p8 := st_of p8
  simp only [sameAn, Bool.and_eq_true, decide_eq_true_eq] at p7
  obtain ⟨p7, q1, q2, q3, q4, q5⟩ := p7
  have p7 := ns_of p7
  rw [eqB_iff, decide_eq_true_eq] at q5
  simp only [cond_true, List.cons_append, List.nil_append] at h
  obtain ⟨a9, M9, e9, p9, h⟩ := ask_inv h
  have p9 := st_of p9
  have fa : binFast .add (.str [121]) (.str [47, 105, 110]) = some (.str [121, 47, 105, 110]) := b_add (by simp)
  refine w_call H 86 fn_38 rfl rfl ?_
  repeat (first | with_reducible (refine w_one H ?_; constructor) | simp only [rB, rP, rQ, boolA, intA, resultA, resA, reduceIte, reduceCtorEq, Nat.reduceAdd, Nat.reduceLT, Nat.reduceEqDiff, UInt8.reduceToNat, pe4, pf4, b_eqi, b_nei, b_lt, b_le, b_gt, b_ge, fn_an0, fn_an1, fn_an4, fn_an5, bc_01, bc_012, bc_015, bc_0145, bc_0147, bc_016, bc_0167, bc_017, bc_03, bc_035, bc_0347, beq_self_eq_true, bne_self_eq_false, Int.reduceBEq, Int.reduceBNe, Int.reduceLT, Int.reduceLE, Int.reduceGT, decide_true, decide_false, eqB_self, la_cons, la_nil, o_cvt, toU_int, b_rem, eqS_rem, rm_eq m3, u64_int, remA_int, er, i64_int, ix, lo, bs_ops, k1, k2, ld_3])
  replace hW := hW.alloc (.cells [.raw (.int .i64 5), .raw (.int .i64 6), .raw (.int .i64 7)] 3 0)
  refine lmake_c ok3 hW e1 p1 ?_
  intro s hW hl
  repeat (first | with_reducible (refine w_one H ?_; constructor) | simp only [rB, rP, rQ, boolA, intA, resultA, resA, reduceIte, reduceCtorEq, Nat.reduceAdd, Nat.reduceLT, Nat.reduceEqDiff, UInt8.reduceToNat, pe4, pf4, b_eqi, b_nei, b_lt, b_le, b_gt, b_ge, fn_an0, fn_an1, fn_an4, fn_an5, bc_01, bc_012, bc_015, bc_0145, bc_0147, bc_016, bc_0167, bc_017, bc_03, bc_035, bc_0347, beq_self_eq_true, bne_self_eq_false, Int.reduceBEq, Int.reduceBNe, Int.reduceLT, Int.reduceLE, Int.reduceGT, decide_true, decide_false, eqB_self, la_cons, la_nil, o_cvt, toU_int, b_rem, eqS_rem, rm_eq m3, u64_int, remA_int, er, i64_int, ix, lo, bs_ops, k1, k2] | (with_reducible refine lmake_c ok3 hW (by assumption) (by assumption) ?_; intro s hW hl) | (with_reducible refine lstatus_c ok3 hW (by assumption) (by assumption) ?_; intro s hW hl) | (with_reducible refine lwrite_c ok3 hW (by assumption) (by assumption) ?_; intro s hW hl) | (with_reducible refine lread_c ok3 hW (by assumption) (by assumption) ?_; intro s hW hl))
  refine lface_c hW e5 ?_
  intro s5 V5 hW hl hV
  have l5 := hV.len
  have i5 := hV.ids
  rw [p5] at l5
  repeat (first | with_reducible (refine w_one H ?_; constructor) | simp only [rB, rP, rQ, boolA, intA, resultA, resA, reduceIte, reduceCtorEq, Nat.reduceAdd, Nat.reduceLT, Nat.reduceEqDiff, UInt8.reduceToNat, pe4, pf4, b_eqi, b_nei, b_lt, b_le, b_gt, b_ge, fn_an0, fn_an1, fn_an4, fn_an5, bc_01, bc_012, bc_015, bc_0145, bc_0147, bc_016, bc_0167, bc_017, bc_03, bc_035, bc_0347, beq_self_eq_true, bne_self_eq_false, Int.reduceBEq, Int.reduceBNe, Int.reduceLT, Int.reduceLE, Int.reduceGT, decide_true, decide_false, eqB_self, la_cons, la_nil, o_cvt, toU_int, b_rem, eqS_rem, rm_eq m3, u64_int, remA_int, er, i64_int, ix, lo, bs_ops, k1, k2, all_an, st_an hV.cells1.2, stA_an])
  replace hW := hW.put (.cells (anL 0 0 0 0 [] nilS) 43 0) (.cells (anL a5.status a5.num a5.kind a5.mode a5.data V5) 43 0)
  refine lface_c hW e6 ?_
  intro s6 V6 hW hl hV
  repeat (first | with_reducible (refine w_one H ?_; constructor) | simp only [rB, rP, rQ, boolA, intA, resultA, resA, reduceIte, reduceCtorEq, Nat.reduceAdd, Nat.reduceLT, Nat.reduceEqDiff, UInt8.reduceToNat, pe4, pf4, b_eqi, b_nei, b_lt, b_le, b_gt, b_ge, fn_an0, fn_an1, fn_an4, fn_an5, bc_01, bc_012, bc_015, bc_0145, bc_0147, bc_016, bc_0167, bc_017, bc_03, bc_035, bc_0347, beq_self_eq_true, bne_self_eq_false, Int.reduceBEq, Int.reduceBNe, Int.reduceLT, Int.reduceLE, Int.reduceGT, decide_true, decide_false, eqB_self, la_cons, la_nil, o_cvt, toU_int, b_rem, eqS_rem, rm_eq m3, u64_int, remA_int, er, i64_int, ix, lo, bs_ops, k1, k2, all_an, st_an hV.cells1.2, stA_an, p6])
  replace hW := hW.put (.cells (anL 0 0 0 0 [] nilS) 43 0) (.cells (anL 0 a6.num a6.kind a6.mode a6.data V6) 43 0)
  refine lface_c hW e7 ?_
  intro s7 V7 hW hl hV
  have l7 := hV.len
  have i7 := hV.ids
  rw [p7] at l7
  have hW1 := hW.put (.cells (anL 0 0 0 0 [] nilS) 43 0) (.cells (anL a5.status a5.num a5.kind a5.mode a5.data V7) 43 0)
  have g6 := hW.get0
  have n6 := hW.ne0
  have g5 := hW.get1
  have n5 := hW.ne1
  repeat (first | with_reducible (refine w_one H ?_; constructor) | simp only [rB, rP, rQ, boolA, intA, resultA, resA, reduceIte, reduceCtorEq, Nat.reduceAdd, Nat.reduceLT, Nat.reduceEqDiff, UInt8.reduceToNat, pe4, pf4, b_eqi, b_nei, b_lt, b_le, b_gt, b_ge, fn_an0, fn_an1, fn_an4, fn_an5, bc_01, bc_012, bc_015, bc_0145, bc_0147, bc_016, bc_0167, bc_017, bc_03, bc_035, bc_0347, beq_self_eq_true, bne_self_eq_false, Int.reduceBEq, Int.reduceBNe, Int.reduceLT, Int.reduceLE, Int.reduceGT, decide_true, decide_false, eqB_self, la_cons, la_nil, o_cvt, toU_int, b_rem, eqS_rem, rm_eq m3, u64_int, remA_int, er, i64_int, ix, lo, bs_ops, k1, k2, all_an, st_an hV.cells1.2, stA_an, an_g0, an_g1, an_g2, an_g3, an_g4, an_g5, fa_an0, fa_an1, fa_an2, fa_an3, fa_an4, fa_an5, ldO_an0, ldO_an1, ldO_an2, ldO_an3, ldO_an4, ldO_an5, ld_3, ld_9, ld_41, q1, q2, q3, q4, q5, g5, g6, n5, n6, ld_an, ldG_an])
  refine sameA_c hW1.below l5 i5 l7 i7 (fun s8 hE8 hB8 => ?_)
  replace hW := hW1.ext hE8 hB8
  repeat (first | with_reducible (refine w_one H ?_; constructor) | simp only [rB, rP, rQ, boolA, intA, resultA, resA, reduceIte, reduceCtorEq, Nat.reduceAdd, Nat.reduceLT, Nat.reduceEqDiff, UInt8.reduceToNat, pe4, pf4, b_eqi, b_nei, b_lt, b_le, b_gt, b_ge, fn_an0, fn_an1, fn_an4, fn_an5, bc_01, bc_012, bc_015, bc_0145, bc_0147, bc_016, bc_0167, bc_017, bc_03, bc_035, bc_0347, beq_self_eq_true, bne_self_eq_false, Int.reduceBEq, Int.reduceBNe, Int.reduceLT, Int.reduceLE, Int.reduceGT, decide_true, decide_false, eqB_self, la_cons, la_nil, o_cvt, toU_int, b_rem, eqS_rem, rm_eq m3, u64_int, remA_int, er, i64_int, ix, lo, bs_ops, k1, k2, fa, Tryz.results38] | (with_reducible refine lmake_c ok3 hW (by assumption) (by assumption) ?_; intro s hW hl) | (with_reducible refine lstatus_c ok3 hW (by assumption) (by assumption) ?_; intro s hW hl) | (with_reducible refine lwrite_c ok3 hW (by assumption) (by assumption) ?_; intro s hW hl) | (with_reducible refine lread_c ok3 hW (by assumption) (by assumption) ?_; intro s hW hl))
  rfl
theorem ren101_c (z0 : Int) {r : Nat} (er : (IntKind.u64.wrap z0).tmod 3 = (r : Int)) (hr : r < 3) {op : Int} (lo : ∀ t z, ldO (some (.cells [.raw (.int .i64 5), .raw (.int .i64 6), .raw (.int .i64 7)] t z)) r = some (.raw (.int .i64 op))) (k1 : (op == 6) = true) (k2 : (op != 6) = false) {M : Md} {s : St} (hW : WL s M []) (h : renmV true true op [121] M = true) :
    (sem Tryz.prog).call 38 [.fn 62 [.ptr 13 0], .raw (.int .i64 z0), .raw (.bool false), .raw (.bool true)] s (fun v _ => isTrue v) (fun _ _ => false) = true := by
  have H := ok4
  have m3 : (3 : Int) ≠ 0 := by decide
  have ix := fun q => ix_u3 (q := q) hr
  unfold renmV at h
  obtain ⟨a1, M1, e1, p1, h⟩ := ask_inv h
  obtain ⟨a2, M2, e2, p2, h⟩ := ask_inv h
  have p1 := st_of p1
  have p2 := st_of p2
  simp only [askIf, cond_true, cond_false] at h
  obtain ⟨a3, M3, e3, p3, h⟩ := ask_inv h
  have p3 := st_of p3
  obtain ⟨a4, M4, e4, p4, h⟩ := ask_inv h
  have p4 := st_of p4
  unfold renmE at h
  obtain ⟨a5, M5, e5, p5, h⟩ := ask_inv h
  obtain ⟨a6, M6, e6, p6, h⟩ := ask_inv h
  obtain ⟨a7, M7, e7, p7, h⟩ := ask_inv h
  obtain ⟨a8, M8, e8, p8, h⟩ := ask_inv h
  have p5 := ns_of p5
  have p6 := st_of p6
  have p8 := st_of p8
  simp only [sameAn, Bool.and_eq_true, decide_eq_true_eq] at p7
  obtain ⟨p7, q1, q2, q3, q4, q5⟩ := p7
  have p7 := ns_of p7
  rw [eqB_iff, decide_eq_true_eq] at q5
  simp only [cond_true, List.cons_append, List.nil_append] at h
  obtain ⟨a9, M9, e9, p9, h⟩ := ask_inv h
  have p9 := st_of p9
  have fa : binFast .add (.str [121]) (.str [47, 105, 110]) = some (.str [121, 47, 105, 110]) := b_add (by simp)
  refine w_call H 86 fn_38 rfl rfl ?_
  repeat (first | with_reducible (refine w_one H ?_; constructor) | simp only [rB, rP, rQ, boolA, intA, resultA, resA, reduceIte, reduceCtorEq, Nat.reduceAdd, Nat.reduceLT, Nat.reduceEqDiff, UInt8.reduceToNat, pe4, pf4, b_eqi, b_nei, b_lt, b_le, b_gt, b_ge, fn_an0, fn_an1, fn_an4, fn_an5, bc_01, bc_012, bc_015, bc_0145, bc_0147, bc_016, bc_0167, bc_017, bc_03, bc_035, bc_0347, beq_self_eq_true, bne_self_eq_false, Int.reduceBEq, Int.reduceBNe, Int.reduceLT, Int.reduceLE, Int.reduceGT, decide_true, decide_false, eqB_self, la_cons, la_nil, o_cvt, toU_int, b_rem, eqS_rem, rm_eq m3, u64_int, remA_int, er, i64_int, ix, lo, bs_ops, k1, k2, ld_3])
  replace hW := hW.alloc (.cells [.raw (.int .i64 5), .raw (.int .i64 6), .raw (.int .i64 7)] 3 0)
  refine lmake_c ok3 hW e1 p1 ?_
  intro s hW hl
  repeat (first | with_reducible (refine w_one H ?_; constructor) | simp only [rB, rP, rQ, boolA, intA, resultA, resA, reduceIte, reduceCtorEq, Nat.reduceAdd, Nat.reduceLT, Nat.reduceEqDiff, UInt8.reduceToNat, pe4, pf4, b_eqi, b_nei, b_lt, b_le, b_gt, b_ge, fn_an0, fn_an1, fn_an4, fn_an5, bc_01, bc_012, bc_015, bc_0145, bc_0147, bc_016, bc_0167, bc_017, bc_03, bc_035, bc_0347, beq_self_eq_true, bne_self_eq_false, Int.reduceBEq, Int.reduceBNe, Int.reduceLT, Int.reduceLE, Int.reduceGT, decide_true, decide_false, eqB_self, la_cons, la_nil, o_cvt, toU_int, b_rem, eqS_rem, rm_eq m3, u64_int, remA_int, er, i64_int, ix, lo, bs_ops, k1, k2] | (with_reducible refine lmake_c ok3 hW (by assumption) (by assumption) ?_; intro s hW hl) | (with_reducible refine lstatus_c ok3 hW (by assumption) (by assumption) ?_; intro s hW hl) | (with_reducible refine lwrite_c ok3 hW (by assumption) (by assumption) ?_; intro s hW hl) | (with_reducible refine lread_c ok3 hW (by assumption) (by assumption) ?_; intro s hW hl))
  refine lface_c hW e5 ?_
  intro s5 V5 hW hl hV
  have l5 := hV.len
  have i5 := hV.ids
  rw [p5] at l5
  repeat (first | with_reducible (refine w_one H ?_; constructor) | simp only [rB, rP, rQ, boolA, intA, resultA, resA, reduceIte, reduceCtorEq, Nat.reduceAdd, Nat.reduceLT, Nat.reduceEqDiff, UInt8.reduceToNat, pe4, pf4, b_eqi, b_nei, b_lt, b_le, b_gt, b_ge, fn_an0, fn_an1, fn_an4, fn_an5, bc_01, bc_012, bc_015, bc_0145, bc_0147, bc_016, bc_0167, bc_017, bc_03, bc_035, bc_0347, beq_self_eq_true, bne_self_eq_false, Int.reduceBEq, Int.reduceBNe, Int.reduceLT, Int.reduceLE, Int.reduceGT, decide_true, decide_false, eqB_self, la_cons, la_nil, o_cvt, toU_int, b_rem, eqS_rem, rm_eq m3, u64_int, remA_int, er, i64_int, ix, lo, bs_ops, k1, k2, all_an, st_an hV.cells1.2, stA_an])
  replace hW := hW.put (.cells (anL 0 0 0 0 [] nilS) 43 0) (.cells (anL a5.status a5.num a5.kind a5.mode a5.data V5) 43 0)
  refine lface_c hW e6 ?_
  intro s6 V6 hW hl hV
  repeat (first | with_reducible (refine w_one H ?_; constructor) | simp only [rB, rP, rQ, boolA, intA, resultA, resA, reduceIte, reduceCtorEq, Nat.reduceAdd, Nat.reduceLT, Nat.reduceEqDiff, UInt8.reduceToNat, pe4, pf4, b_eqi, b_nei, b_lt, b_le, b_gt, b_ge, fn_an0, fn_an1, fn_an4, fn_an5, bc_01, bc_012, bc_015, bc_0145, bc_0147, bc_016, bc_0167, bc_017, bc_03, bc_035, bc_0347, beq_self_eq_true, bne_self_eq_false, Int.reduceBEq, Int.reduceBNe, Int.reduceLT, Int.reduceLE, Int.reduceGT, decide_true, decide_false, eqB_self, la_cons, la_nil, o_cvt, toU_int, b_rem, eqS_rem, rm_eq m3, u64_int, remA_int, er, i64_int, ix, lo, bs_ops, k1, k2, all_an, st_an hV.cells1.2, stA_an, p6])
  replace hW := hW.put (.cells (anL 0 0 0 0 [] nilS) 43 0) (.cells (anL 0 a6.num a6.kind a6.mode a6.data V6) 43 0)
  refine lface_c hW e7 ?_
  intro s7 V7 hW hl hV
  have l7 := hV.len
  have i7 := hV.ids
  rw [p7] at l7
  have hW1 := hW.put (.cells (anL 0 0 0 0 [] nilS) 43 0) (.cells (anL a5.status a5.num a5.kind a5.mode a5.data V7) 43 0)
  have g6 := hW.get0
  have n6 := hW.ne0
  have g5 := hW.get1
  have n5 := hW.ne1
  repeat (first | with_reducible (refine w_one H ?_; constructor) | simp only [rB, rP, rQ, boolA, intA, resultA, resA, reduceIte, reduceCtorEq, Nat.reduceAdd, Nat.reduceLT, Nat.reduceEqDiff, UInt8.reduceToNat, pe4, pf4, b_eqi, b_nei, b_lt, b_le, b_gt, b_ge, fn_an0, fn_an1, fn_an4, fn_an5, bc_01, bc_012, bc_015, bc_0145, bc_0147, bc_016, bc_0167, bc_017, bc_03, bc_035, bc_0347, beq_self_eq_true, bne_self_eq_false, Int.reduceBEq, Int.reduceBNe, Int.reduceLT, Int.reduceLE, Int.reduceGT, decide_true, decide_false, eqB_self, la_cons, la_nil, o_cvt, toU_int, b_rem, eqS_rem, rm_eq m3, u64_int, remA_int, er, i64_int, ix, lo, bs_ops, k1, k2, all_an, st_an hV.cells1.2, stA_an, an_g0, an_g1, an_g2, an_g3, an_g4, an_g5, fa_an0, fa_an1, fa_an2, fa_an3, fa_an4, fa_an5, ldO_an0, ldO_an1, ldO_an2, ldO_an3, ldO_an4, ldO_an5, ld_3, ld_9, ld_41, q1, q2, q3, q4, q5, g5, g6, n5, n6, ld_an, ldG_an])
  refine sameA_c hW1.below l5 i5 l7 i7 (fun s8 hE8 hB8 => ?_)
  replace hW := hW1.ext hE8 hB8
  repeat (first | with_reducible (refine w_one H ?_; constructor) | simp only [rB, rP, rQ, boolA, intA, resultA, resA, reduceIte, reduceCtorEq, Nat.reduceAdd, Nat.reduceLT, Nat.reduceEqDiff, UInt8.reduceToNat, pe4, pf4, b_eqi, b_nei, b_lt, b_le, b_gt, b_ge, fn_an0, fn_an1, fn_an4, fn_an5, bc_01, bc_012, bc_015, bc_0145, bc_0147, bc_016, bc_0167, bc_017, bc_03, bc_035, bc_0347, beq_self_eq_true, bne_self_eq_false, Int.reduceBEq, Int.reduceBNe, Int.reduceLT, Int.reduceLE, Int.reduceGT, decide_true, decide_false, eqB_self, la_cons, la_nil, o_cvt, toU_int, b_rem, eqS_rem, rm_eq m3, u64_int, remA_int, er, i64_int, ix, lo, bs_ops, k1, k2, fa, Tryz.results38] | (with_reducible refine lmake_c ok3 hW (by assumption) (by assumption) ?_; intro s hW hl) | (with_reducible refine lstatus_c ok3 hW (by assumption) (by assumption) ?_; intro s hW hl) | (with_reducible refine lwrite_c ok3 hW (by assumption) (by assumption) ?_; intro s hW hl) | (with_reducible refine lread_c ok3 hW (by assumption) (by assumption) ?_; intro s hW hl))
  rfl
theorem ren110_c (z0 : Int) {r : Nat} (er : (IntKind.u64.wrap z0).tmod 3 = (r : Int)) (hr : r < 3) {op : Int} (lo : ∀ t z, ldO (some (.cells [.raw (.int .i64 5), .raw (.int .i64 6), .raw (.int .i64 7)] t z)) r = some (.raw (.int .i64 op))) (k1 : (op == 6) = true) (k2 : (op != 6) = false) {M : Md} {s : St} (hW : WL s M []) (h : renmV true false op [116, 111, 47, 121] M = true) :
    (sem Tryz.prog).call 38 [.fn 62 [.ptr 13 0], .raw (.int .i64 z0), .raw (.bool true), .raw (.bool false)] s (fun v _ => isTrue v) (fun _ _ => false) = true := by
  have H := ok4
  have m3 : (3 : Int) ≠ 0 := by decide
  have ix := fun q => ix_u3 (q := q) hr
  unfold renmV at h
  obtain ⟨a1, M1, e1, p1, h⟩ := ask_inv h
  obtain ⟨a2, M2, e2, p2, h⟩ := ask_inv h
  have p1 := st_of p1
  have p2 := st_of p2
  simp only [askIf, cond_true, cond_false] at h
  obtain ⟨a3, M3, e3, p3, h⟩ := ask_inv h
  have p3 := st_of p3
  unfold renmE at h
  obtain ⟨a5, M5, e5, p5, h⟩ := ask_inv h
  obtain ⟨a6, M6, e6, p6, h⟩ := ask_inv h
  obtain ⟨a7, M7, e7, p7, h⟩ := ask_inv h
  obtain ⟨a8, M8, e8, p8, h⟩ := ask_inv h
  have p5 := ns_of p5
  have p6 := st_of p6
  have p8 := st_of p8
  simp only [sameAn, Bool.and_eq_true, decide_eq_true_eq] at p7
  obtain ⟨p7, q1, q2, q3, q4, q5⟩ := p7
  have p7 := ns_of p7
  rw [eqB_iff, decide_eq_true_eq] at q5
  simp only [cond_true, List.cons_append, List.nil_append] at h
  obtain ⟨a9, M9, e9, p9, h⟩ := ask_inv h
  have p9 := st_of p9
  have fa : binFast .add (.str [116, 111, 47, 121]) (.str [47, 105, 110]) = some (.str [116, 111, 47, 121, 47, 105, 110]) := b_add (by simp)
  refine w_call H 86 fn_38 rfl rfl ?_
  repeat (first | with_reducible (refine w_one H ?_; constructor) | simp only [rB, rP, rQ, boolA, intA, resultA, resA, reduceIte, reduceCtorEq, Nat.reduceAdd, Nat.reduceLT, Nat.reduceEqDiff, UInt8.reduceToNat, pe4, pf4, b_eqi, b_nei, b_lt, b_le, b_gt, b_ge, fn_an0, fn_an1, fn_an4, fn_an5, bc_01, bc_012, bc_015, bc_0145, bc_0147, bc_016, bc_0167, bc_017, bc_03, bc_035, bc_0347, beq_self_eq_true, bne_self_eq_false, Int.reduceBEq, Int.reduceBNe, Int.reduceLT, Int.reduceLE, Int.reduceGT, decide_true, decide_false, eqB_self, la_cons, la_nil, o_cvt, toU_int, b_rem, eqS_rem, rm_eq m3, u64_int, remA_int, er, i64_int, ix, lo, bs_ops, k1, k2, ld_3])
  replace hW := hW.alloc (.cells [.raw (.int .i64 5), .raw (.int .i64 6), .raw (.int .i64 7)] 3 0)
  refine lmake_c ok3 hW e1 p1 ?_
  intro s hW hl
  repeat (first | with_reducible (refine w_one H ?_; constructor) | simp only [rB, rP, rQ, boolA, intA, resultA, resA, reduceIte, reduceCtorEq, Nat.reduceAdd, Nat.reduceLT, Nat.reduceEqDiff, UInt8.reduceToNat, pe4, pf4, b_eqi, b_nei, b_lt, b_le, b_gt, b_ge, fn_an0, fn_an1, fn_an4, fn_an5, bc_01, bc_012, bc_015, bc_0145, bc_0147, bc_016, bc_0167, bc_017, bc_03, bc_035, bc_0347, beq_self_eq_true, bne_self_eq_false, Int.reduceBEq, Int.reduceBNe, Int.reduceLT, Int.reduceLE, Int.reduceGT, decide_true, decide_false, eqB_self, la_cons, la_nil, o_cvt, toU_int, b_rem, eqS_rem, rm_eq m3, u64_int, remA_int, er, i64_int, ix, lo, bs_ops, k1, k2] | (with_reducible refine lmake_c ok3 hW (by assumption) (by assumption) ?_; intro s hW hl) | (with_reducible refine lstatus_c ok3 hW (by assumption) (by assumption) ?_; intro s hW hl) | (with_reducible refine lwrite_c ok3 hW (by assumption) (by assumption) ?_; intro s hW hl) | (with_reducible refine lread_c ok3 hW (by assumption) (by assumption) ?_; intro s hW hl))
  refine lface_c hW e5 ?_
  intro s5 V5 hW hl hV
  have l5 := hV.len
  have i5 := hV.ids
  rw [p5] at l5
  repeat (first | with_reducible (refine w_one H ?_; constructor) | simp only [rB, rP, rQ, boolA, intA, resultA, resA, reduceIte, reduceCtorEq, Nat.reduceAdd, Nat.reduceLT, Nat.reduceEqDiff, UInt8.reduceToNat, pe4, pf4, b_eqi, b_nei, b_lt, b_le, b_gt, b_ge, fn_an0, fn_an1, fn_an4, fn_an5, bc_01, bc_012, bc_015, bc_0145, bc_0147, bc_016, bc_0167, bc_017, bc_03, bc_035, bc_0347, beq_self_eq_true, bne_self_eq_false, Int.reduceBEq, Int.reduceBNe, Int.reduceLT, Int.reduceLE, Int.reduceGT, decide_true, decide_false, eqB_self, la_cons, la_nil, o_cvt, toU_int, b_rem, eqS_rem, rm_eq m3, u64_int, remA_int, er, i64_int, ix, lo, bs_ops, k1, k2, all_an, st_an hV.cells1.2, stA_an])
  replace hW := hW.put (.cells (anL 0 0 0 0 [] nilS) 43 0) (.cells (anL a5.status a5.num a5.kind a5.mode a5.data V5) 43 0)
  refine lface_c hW e6 ?_
  intro s6 V6 hW hl hV
  repeat (first | with_reducible (refine w_one H ?_; constructor) | simp only [rB, rP, rQ, boolA, intA, resultA, resA, reduceIte, reduceCtorEq, Nat.reduceAdd, Nat.reduceLT, Nat.reduceEqDiff, UInt8.reduceToNat, pe4, pf4, b_eqi, b_nei, b_lt, b_le, b_gt, b_ge, fn_an0, fn_an1, fn_an4, fn_an5, bc_01, bc_012, bc_015, bc_0145, bc_0147, bc_016, bc_0167, bc_017, bc_03, bc_035, bc_0347, beq_self_eq_true, bne_self_eq_false, Int.reduceBEq, Int.reduceBNe, Int.reduceLT, Int.reduceLE, Int.reduceGT, decide_true, decide_false, eqB_self, la_cons, la_nil, o_cvt, toU_int, b_rem, eqS_rem, rm_eq m3, u64_int, remA_int, er, i64_int, ix, lo, bs_ops, k1, k2, all_an, st_an hV.cells1.2, stA_an, p6])
  replace hW := hW.put (.cells (anL 0 0 0 0 [] nilS) 43 0) (.cells (anL 0 a6.num a6.kind a6.mode a6.data V6) 43 0)
  refine lface_c hW e7 ?_
  intro s7 V7 hW hl hV
  have l7 := hV.len
  have i7 := hV.ids
  rw [p7] at l7
  have hW1 := hW.put (.cells (anL 0 0 0 0 [] nilS) 43 0) (.cells (anL a5.status a5.num a5.kind a5.mode a5.data V7) 43 0)
  have g6 := hW.get0
  have n6 := hW.ne0
  have g5 := hW.get1
  have n5 := hW.ne1
  repeat (first | with_reducible (refine w_one H ?_; constructor) | simp only [rB, rP, rQ, boolA, intA, resultA, resA, reduceIte, reduceCtorEq, Nat.reduceAdd, Nat.reduceLT, Nat.reduceEqDiff, UInt8.reduceToNat, pe4, pf4, b_eqi, b_nei, b_lt, b_le, b_gt, b_ge, fn_an0, fn_an1, fn_an4, fn_an5, bc_01, bc_012, bc_015, bc_0145, bc_0147, bc_016, bc_0167, bc_017, bc_03, bc_035, bc_0347, beq_self_eq_true, bne_self_eq_false, Int.reduceBEq, Int.reduceBNe, Int.reduceLT, Int.reduceLE, Int.reduceGT, decide_true, decide_false, eqB_self, la_cons, la_nil, o_cvt, toU_int, b_rem, eqS_rem, rm_eq m3, u64_int, remA_int, er, i64_int, ix, lo, bs_ops, k1, k2, all_an, st_an hV.cells1.2, stA_an, an_g0, an_g1, an_g2, an_g3, an_g4, an_g5, fa_an0, fa_an1, fa_an2, fa_an3, fa_an4, fa_an5, ldO_an0, ldO_an1, ldO_an2, ldO_an3, ldO_an4, ldO_an5, ld_3, ld_9, ld_41, q1, q2, q3, q4, q5, g5, g6, n5, n6, ld_an, ldG_an])
  refine sameA_c hW1.below l5 i5 l7 i7 (fun s8 hE8 hB8 => ?_)
  replace hW := hW1.ext hE8 hB8
  repeat (first | with_reducible (refine w_one H ?_; constructor) | simp only [rB, rP, rQ, boolA, intA, resultA, resA, reduceIte, reduceCtorEq, Nat.reduceAdd, Nat.reduceLT, Nat.reduceEqDiff, UInt8.reduceToNat, pe4, pf4, b_eqi, b_nei, b_lt, b_le, b_gt, b_ge, fn_an0, fn_an1, fn_an4, fn_an5, bc_01, bc_012, bc_015, bc_0145, bc_0147, bc_016, bc_0167, bc_017, bc_03, bc_035, bc_0347, beq_self_eq_true, bne_self_eq_false, Int.reduceBEq, Int.reduceBNe, Int.reduceLT, Int.reduceLE, Int.reduceGT, decide_true, decide_false, eqB_self, la_cons, la_nil, o_cvt, toU_int, b_rem, eqS_rem, rm_eq m3, u64_int, remA_int, er, i64_int, ix, lo, bs_ops, k1, k2, fa, Tryz.results38] | (with_reducible refine lmake_c ok3 hW (by assumption) (by assumption) ?_; intro s hW hl) | (with_reducible refine lstatus_c ok3 hW (by assumption) (by assumption) ?_; intro s hW hl) | (with_reducible refine lwrite_c ok3 hW (by assumption) (by assumption) ?_; intro s hW hl) | (with_reducible refine lread_c ok3 hW (by assumption) (by assumption) ?_; intro s hW hl))
  rfl
theorem ren111_c (z0 : Int) {r : Nat} (er : (IntKind.u64.wrap z0).tmod 3 = (r : Int)) (hr : r < 3) {op : Int} (lo : ∀ t z, ldO (some (.cells [.raw (.int .i64 5), .raw (.int .i64 6), .raw (.int .i64 7)] t z)) r = some (.raw (.int .i64 op))) (k1 : (op == 6) = true) (k2 : (op != 6) = false) {M : Md} {s : St} (hW : WL s M []) (h : renmV true true op [116, 111, 47, 121] M = true) :
    (sem Tryz.prog).call 38 [.fn 62 [.ptr 13 0], .raw (.int .i64 z0), .raw (.bool true), .raw (.bool true)] s (fun v _ => isTrue v) (fun _ _ => false) = true := by
  have H := ok4
  have m3 : (3 : Int) ≠ 0 := by decide
  have ix := fun q => ix_u3 (q := q) hr
  unfold renmV at h
  obtain ⟨a1, M1, e1, p1, h⟩ := ask_inv h
  obtain ⟨a2, M2, e2, p2, h⟩ := ask_inv h
  have p1 := st_of p1
  have p2 := st_of p2
  simp only [askIf, cond_true, cond_false] at h
  obtain ⟨a3, M3, e3, p3, h⟩ := ask_inv h
  have p3 := st_of p3
  obtain ⟨a4, M4, e4, p4, h⟩ := ask_inv h
  have p4 := st_of p4
  unfold renmE at h
  obtain ⟨a5, M5, e5, p5, h⟩ := ask_inv h
  obtain ⟨a6, M6, e6, p6, h⟩ := ask_inv h
  obtain ⟨a7, M7, e7, p7, h⟩ := ask_inv h
  obtain ⟨a8, M8, e8, p8, h⟩ := ask_inv h
  have p5 := ns_of p5
  have p6 := st_of p6
  have p8 := st_of p8
  simp only [sameAn, Bool.and_eq_true, decide_eq_true_eq] at p7
  obtain ⟨p7, q1, q2, q3, q4, q5⟩ := p7
  have p7 := ns_of p7
  rw [eqB_iff, decide_eq_true_eq] at q5
  simp only [cond_true, List.cons_append, List.nil_append] at h
  obtain ⟨a9, M9, e9, p9, h⟩ := ask_inv h
  have p9 := st_of p9
  have fa : binFast .add (.str [116, 111, 47, 121]) (.str [47, 105, 110]) = some (.str [116, 111, 47, 121, 47, 105, 110]) := b_add (by simp)
  refine w_call H 86 fn_38 rfl rfl ?_
  repeat (first | with_reducible (refine w_one H ?_; constructor) | simp only [rB, rP, rQ, boolA, intA, resultA, resA, reduceIte, reduceCtorEq, Nat.reduceAdd, Nat.reduceLT, Nat.reduceEqDiff, UInt8.reduceToNat, pe4, pf4, b_eqi, b_nei, b_lt, b_le, b_gt, b_ge, fn_an0, fn_an1, fn_an4, fn_an5, bc_01, bc_012, bc_015, bc_0145, bc_0147, bc_016, bc_0167, bc_017, bc_03, bc_035, bc_0347, beq_self_eq_true, bne_self_eq_false, Int.reduceBEq, Int.reduceBNe, Int.reduceLT, Int.reduceLE, Int.reduceGT, decide_true, decide_false, eqB_self, la_cons, la_nil, o_cvt, toU_int, b_rem, eqS_rem, rm_eq m3, u64_int, remA_int, er, i64_int, ix, lo, bs_ops, k1, k2, ld_3])
  replace hW := hW.alloc (.cells [.raw (.int .i64 5), .raw (.int .i64 6), .raw (.int .i64 7)] 3 0)
  refine lmake_c ok3 hW e1 p1 ?_
  intro s hW hl
  repeat (first | with_reducible (refine w_one H ?_; constructor) | simp only [rB, rP, rQ, boolA, intA, resultA, resA, reduceIte, reduceCtorEq, Nat.reduceAdd, Nat.reduceLT, Nat.reduceEqDiff, UInt8.reduceToNat, pe4, pf4, b_eqi, b_nei, b_lt, b_le, b_gt, b_ge, fn_an0, fn_an1, fn_an4, fn_an5, bc_01, bc_012, bc_015, bc_0145, bc_0147, bc_016, bc_0167, bc_017, bc_03, bc_035, bc_0347, beq_self_eq_true, bne_self_eq_false, Int.reduceBEq, Int.reduceBNe, Int.reduceLT, Int.reduceLE, Int.reduceGT, decide_true, decide_false, eqB_self, la_cons, la_nil, o_cvt, toU_int, b_rem, eqS_rem, rm_eq m3, u64_int, remA_int, er, i64_int, ix, lo, bs_ops, k1, k2] | (with_reducible refine lmake_c ok3 hW (by assumption) (by assumption) ?_; intro s hW hl) | (with_reducible refine lstatus_c ok3 hW (by assumption) (by assumption) ?_; intro s hW hl) | (with_reducible refine lwrite_c ok3 hW (by assumption) (by assumption) ?_; intro s hW hl) | (with_reducible refine lread_c ok3 hW (by assumption) (by assumption) ?_; intro s hW hl))
  refine lface_c hW e5 ?_
  intro s5 V5 hW hl hV
  have l5 := hV.len
  have i5 := hV.ids
  rw [p5] at l5
  repeat (first | with_reducible (refine w_one H ?_; constructor) | simp only [rB, rP, rQ, boolA, intA, resultA, resA, reduceIte, reduceCtorEq, Nat.reduceAdd, Nat.reduceLT, Nat.reduceEqDiff, UInt8.reduceToNat, pe4, pf4, b_eqi, b_nei, b_lt, b_le, b_gt, b_ge, fn_an0, fn_an1, fn_an4, fn_an5, bc_01, bc_012, bc_015, bc_0145, bc_0147, bc_016, bc_0167, bc_017, bc_03, bc_035, bc_0347, beq_self_eq_true, bne_self_eq_false, Int.reduceBEq, Int.reduceBNe, Int.reduceLT, Int.reduceLE, Int.reduceGT, decide_true, decide_false, eqB_self, la_cons, la_nil, o_cvt, toU_int, b_rem, eqS_rem, rm_eq m3, u64_int, remA_int, er, i64_int, ix, lo, bs_ops, k1, k2, all_an, st_an hV.cells1.2, stA_an])
  replace hW := hW.put (.cells (anL 0 0 0 0 [] nilS) 43 0) (.cells (anL a5.status a5.num a5.kind a5.mode a5.data V5) 43 0)
  refine lface_c hW e6 ?_
  intro s6 V6 hW hl hV
  repeat (first | with_reducible (refine w_one H ?_; constructor) | simp only [rB, rP, rQ, boolA, intA, resultA, resA, reduceIte, reduceCtorEq, Nat.reduceAdd, Nat.reduceLT, Nat.reduceEqDiff, UInt8.reduceToNat, pe4, pf4, b_eqi, b_nei, b_lt, b_le, b_gt, b_ge, fn_an0, fn_an1, fn_an4, fn_an5, bc_01, bc_012, bc_015, bc_0145, bc_0147, bc_016, bc_0167, bc_017, bc_03, bc_035, bc_0347, beq_self_eq_true, bne_self_eq_false, Int.reduceBEq, Int.reduceBNe, Int.reduceLT, Int.reduceLE, Int.reduceGT, decide_true, decide_false, eqB_self, la_cons, la_nil, o_cvt, toU_int, b_rem, eqS_rem, rm_eq m3, u64_int, remA_int, er, i64_int, ix, lo, bs_ops, k1, k2, all_an, st_an hV.cells1.2, stA_an, p6])
  replace hW := hW.put (.cells (anL 0 0 0 0 [] nilS) 43 0) (.cells (anL 0 a6.num a6.kind a6.mode a6.data V6) 43 0)
  refine lface_c hW e7 ?_
  intro s7 V7 hW hl hV
  have l7 := hV.len
  have i7 := hV.ids
  rw [p7] at l7
  have hW1 := hW.put (.cells (anL 0 0 0 0 [] nilS) 43 0) (.cells (anL a5.status a5.num a5.kind a5.mode a5.data V7) 43 0)
  have g6 := hW.get0
  have n6 := hW.ne0
  have g5 := hW.get1
  have n5 := hW.ne1
  repeat (first | with_reducible (refine w_one H ?_; constructor) | simp only [rB, rP, rQ, boolA, intA, resultA, resA, reduceIte, reduceCtorEq, Nat.reduceAdd, Nat.reduceLT, Nat.reduceEqDiff, UInt8.reduceToNat, pe4, pf4, b_eqi, b_nei, b_lt, b_le, b_gt, b_ge, fn_an0, fn_an1, fn_an4, fn_an5, bc_01, bc_012, bc_015, bc_0145, bc_0147, bc_016, bc_0167, bc_017, bc_03, bc_035, bc_0347, beq_self_eq_true, bne_self_eq_false, Int.reduceBEq, Int.reduceBNe, Int.reduceLT, Int.reduceLE, Int.reduceGT, decide_true, decide_false, eqB_self, la_cons, la_nil, o_cvt, toU_int, b_rem, eqS_rem, rm_eq m3, u64_int, remA_int, er, i64_int, ix, lo, bs_ops, k1, k2, all_an, st_an hV.cells1.2, stA_an, an_g0, an_g1, an_g2, an_g3, an_g4, an_g5, fa_an0, fa_an1, fa_an2, fa_an3, fa_an4, fa_an5, ldO_an0, ldO_an1, ldO_an2, ldO_an3, ldO_an4, ldO_an5, ld_3, ld_9, ld_41, q1, q2, q3, q4, q5, g5, g6, n5, n6, ld_an, ldG_an])
  refine sameA_c hW1.below l5 i5 l7 i7 (fun s8 hE8 hB8 => ?_)
  replace hW := hW1.ext hE8 hB8
  repeat (first | with_reducible (refine w_one H ?_; constructor) | simp only [rB, rP, rQ, boolA, intA, resultA, resA, reduceIte, reduceCtorEq, Nat.reduceAdd, Nat.reduceLT, Nat.reduceEqDiff, UInt8.reduceToNat, pe4, pf4, b_eqi, b_nei, b_lt, b_le, b_gt, b_ge, fn_an0, fn_an1, fn_an4, fn_an5, bc_01, bc_012, bc_015, bc_0145, bc_0147, bc_016, bc_0167, bc_017, bc_03, bc_035, bc_0347, beq_self_eq_true, bne_self_eq_false, Int.reduceBEq, Int.reduceBNe, Int.reduceLT, Int.reduceLE, Int.reduceGT, decide_true, decide_false, eqB_self, la_cons, la_nil, o_cvt, toU_int, b_rem, eqS_rem, rm_eq m3, u64_int, remA_int, er, i64_int, ix, lo, bs_ops, k1, k2, fa, Tryz.results38] | (with_reducible refine lmake_c ok3 hW (by assumption) (by assumption) ?_; intro s hW hl) | (with_reducible refine lstatus_c ok3 hW (by assumption) (by assumption) ?_; intro s hW hl) | (with_reducible refine lwrite_c ok3 hW (by assumption) (by assumption) ?_; intro s hW hl) | (with_reducible refine lread_c ok3 hW (by assumption) (by assumption) ?_; intro s hW hl))
  rfl
theorem renRun : (((renmV false false 5 [121] M0 && renmV false true 5 [121] M0) && (renmV false false 5 [116, 111, 47, 121] M0 && renmV false true 5 [116, 111, 47, 121] M0)) && (((renmV false false 7 [121] M0 && renmV false true 7 [121] M0) && (renmV false false 7 [116, 111, 47, 121] M0 && renmV false true 7 [116, 111, 47, 121] M0)) && ((renmV true false 6 [121] M0 && renmV true true 6 [121] M0) && (renmV true false 6 [116, 111, 47, 121] M0 && renmV true true 6 [116, 111, 47, 121] M0)))) = true := by kernel_rfl
end Go.AX
namespace Go.AX
open Go.Proofs Go.RowKit
set_option maxRecDepth 1000000
set_option linter.unusedSimpArgs false
set_option linter.unusedVariables false
theorem renamesAll (a0 : Int) (b1 b2 : Bool) {s : St} (hW : WL s M0 []) : (sem Tryz.prog).call 38 [.fn 62 [.ptr 13 0], .raw (.int .i64 a0), .raw (.bool b1), .raw (.bool b2)] s (fun v _ => isTrue v) (fun _ _ => false) = true := by
  obtain ⟨r, hr, er⟩ := rem_lt (z := a0) (m := 3) (by decide)
  have er : (IntKind.u64.wrap a0).tmod 3 = (r : Int) := er
  have hrun := renRun
  simp only [Bool.and_eq_true] at hrun
  obtain ⟨⟨⟨x1, x2⟩, x3, x4⟩, ⟨⟨y1, y2⟩, y3, y4⟩, ⟨z1, z2⟩, z3, z4⟩ := hrun
  have hh : r = 0 ∨ r = 1 ∨ r = 2 := by omega
  rcases hh with rfl | rfl | rfl
  · cases b1 <;> cases b2
    · exact ren000_c a0 er hr (op := 5) (fun _ _ => rfl) rfl rfl hW x1
    · exact ren001_c a0 er hr (op := 5) (fun _ _ => rfl) rfl rfl hW x2
    · exact ren010_c a0 er hr (op := 5) (fun _ _ => rfl) rfl rfl hW x3
    · exact ren011_c a0 er hr (op := 5) (fun _ _ => rfl) rfl rfl hW x4
  · cases b1 <;> cases b2
    · exact ren100_c a0 er hr (op := 6) (fun _ _ => rfl) rfl rfl hW z1
    · exact ren101_c a0 er hr (op := 6) (fun _ _ => rfl) rfl rfl hW z2
    · exact ren110_c a0 er hr (op := 6) (fun _ _ => rfl) rfl rfl hW z3
    · exact ren111_c a0 er hr (op := 6) (fun _ _ => rfl) rfl rfl hW z4
  · cases b1 <;> cases b2
    · exact ren000_c a0 er hr (op := 7) (fun _ _ => rfl) rfl rfl hW y1
    · exact ren001_c a0 er hr (op := 7) (fun _ _ => rfl) rfl rfl hW y2
    · exact ren010_c a0 er hr (op := 7) (fun _ _ => rfl) rfl rfl hW y3
    · exact ren011_c a0 er hr (op := 7) (fun _ _ => rfl) rfl rfl hW y4
theorem renamesWalk (a0 : Int) (a1 a2 : Bool) (w : Go.World) : Calls Tryz.prog 10 #[.int .i64 a0, .bool a1, .bool a2] w fun e w' => e = .returned (.bool true) ∧ Below w.heap.size w w' := by
  refine sem_walk (args := [.raw (.int .i64 a0), .raw (.bool a1), .raw (.bool a2)]) (Args := [.int .i64 a0, .bool a1, .bool a2]) (VRels.cons (by simp [VRel]) (VRels.cons (by simp [VRel]) (VRels.cons (by simp [VRel]) VRels.nil))) ?_ w
  have H := ok3
  show (sem Tryz.prog).call 10 [.raw (.int .i64 a0), .raw (.bool a1), .raw (.bool a2)] st0 _ _ = true
  refine w_call H 15 fn_10 rfl rfl ?_
  repeat (first | with_reducible (refine w_one H ?_; constructor) | simp only [rB, rP, rQ, boolA, intA, resultA, resA, reduceIte, reduceCtorEq, Nat.reduceAdd, Nat.reduceLT, Nat.reduceEqDiff, UInt8.reduceToNat, pe3, pf3, c_awake, Tryz.results10] | (with_reducible refine faceW_c ?_; intro s hW) | (with_reducible refine call_true (renamesAll a0 a1 a2 hW) (fun s' => ?_)))
  rfl
end Go.AX
