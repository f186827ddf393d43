import Derived.Test.YthkkdhjekjoalaaGreatDoorD2
set_option linter.unusedVariables false
set_option linter.unusedSimpArgs false
set_option linter.defProp false
namespace Go.AX
open Go.Proofs Go.RowKit
set_option maxRecDepth 1000000
set_option maxHeartbeats 40000000
set_option linter.unusedSimpArgs false
set_option linter.unusedVariables false

def throughV (M : Md) (f t : List Nat) : Bool := ask M (mkC 6 [100]) (st 0) fun _ M =>
    ask M ((⟨7, [108], [], 0, 0, 0, 0, t⟩ : Cl)) (st 0) fun _ M =>
    ask M (mkC 5 (108 :: 47 :: f)) (st 0) fun _ M =>
    ask M (wrC (108 :: 47 :: f) 0 [116, 101, 120, 116]) (st 0) fun _ M =>
    ask M (rnC (108 :: 47 :: f) [108, 47, 103]) (st 0) fun _ M =>
    ask M (mkC 6 [108, 47, 105, 110]) (st 0) fun _ M =>
    ask M (rdC [100, 47, 103]) (dt [116, 101, 120, 116]) fun _ M =>
    ask M (qC 3 [108]) (ns [[103], [105, 110]]) fun _ M =>
    ask M (qC 3 [100]) (ns [[103], [105, 110]]) fun _ M =>
    ask M (qC 12 [108, 47, 105, 110]) (st 0) fun _ M =>
    ask M (qC 11 [108, 47, 103]) (st 0) fun _ M =>
    ask M (qC 3 [100]) (ns []) fun _ M =>
    ask M (qC 12 [108]) (st 3) fun _ M =>
    ask M (qC 11 [108]) (st 0) fun _ M =>
    ask M (qC 12 [100]) (st 0) fun _ M =>
    true
def throughT : Nat → List Nat := nth4 [100] [47, 100] [46, 47, 100, 47, 46] [46, 46, 47, 100]
theorem through_c (z0 z1 : Int) {u r : Nat} (e : andI z0 255 = (r : Int)) (hb : Nat.blt r 256 = true) (eu : andI z1 3 = (u : Int)) (hu : u ≤ 3) {f : List Nat} (ha : binFast .add (.str [102]) (.str (decL r)) = some (.str f)) (hf : f.length ≤ 4) {t : List Nat} (ht : throughT u = t) {M : Md} {s : St} (hW : WL s M []) (h : throughV M f t = true) :
    (sem Tryz.prog).call 48 [.fn 62 [.ptr 13 0], .raw (.int .i64 z0), .raw (.int .i64 z1)] s (fun v _ => isTrue v) (fun _ _ => false) = true := by
  have H := ok4
  unfold throughV at h
  obtain ⟨a1, M1, e1, p1, h⟩ := ask_inv h
  have p1 := st_of p1
  obtain ⟨a2, M2, e2, p2, h⟩ := ask_inv h
  have p2 := st_of p2
  obtain ⟨a3, M3, e3, p3, h⟩ := ask_inv h
  have p3 := st_of p3
  obtain ⟨a4, M4, e4, p4, h⟩ := ask_inv h
  have p4 := st_of p4
  obtain ⟨a5, M5, e5, p5, h⟩ := ask_inv h
  have p5 := st_of p5
  obtain ⟨a6, M6, e6, p6, h⟩ := ask_inv h
  have p6 := st_of p6
  obtain ⟨a7, M7, e7, p7, h⟩ := ask_inv h
  have p7 := dt_of p7
  obtain ⟨a8, M8, e8, p8, h⟩ := ask_inv h
  have p8 := ns_of p8
  obtain ⟨a9, M9, e9, p9, h⟩ := ask_inv h
  have p9 := ns_of p9
  obtain ⟨a10, M10, e10, p10, h⟩ := ask_inv h
  have p10 := st_of p10
  obtain ⟨a11, M11, e11, p11, h⟩ := ask_inv h
  have p11 := st_of p11
  obtain ⟨a12, M12, e12, p12, h⟩ := ask_inv h
  have p12 := ns_of p12
  obtain ⟨a13, M13, e13, p13, h⟩ := ask_inv h
  have p13 := st_of p13
  obtain ⟨a14, M14, e14, p14, h⟩ := ask_inv h
  have p14 := st_of p14
  obtain ⟨a15, M15, e15, p15, h⟩ := ask_inv h
  have p15 := st_of p15
  have f0 : binFast .add (.str [108, 47]) (.str f) = some (.str (108 :: 47 :: f)) := b_add (by simp; omega)
  have ix := fun q => ix_s4 (q := q) hu
  have lt : ∀ t' z, ldO (some (.cells [.str [100], .str [47, 100], .str [46, 47, 100, 47, 46], .str [46, 46, 47, 100]] t' z)) u = some (.str t) := fun t' z => by rw [← ht]; exact ld_s4 hu
  refine w_call H 113 fn_48 rfl rfl ?_
  repeat (first | with_reducible (refine w_one H ?_; constructor) | simp only [rB, rP, rQ, boolA, intA, resultA, resA, reduceIte, reduceCtorEq, Nat.reduceAdd, Nat.reduceLT, Nat.reduceEqDiff, UInt8.reduceToNat, pe4, pf4, b_eqi, b_nei, b_lt, b_le, b_gt, b_ge, fn_an0, fn_an1, fn_an4, fn_an5, bc_01, bc_012, bc_015, bc_0145, bc_0147, bc_016, bc_0167, bc_017, bc_03, bc_035, bc_0347, beq_self_eq_true, bne_self_eq_false, Int.reduceBEq, Int.reduceBNe, Int.reduceLT, Int.reduceLE, Int.reduceGT, decide_true, decide_false, eqB_self, la_cons, la_nil, e, eu, c_dec hb, ha, f0, ix, lt, bs_4, ld_9] | (with_reducible refine lmake_c ok3 hW (by assumption) (by assumption) ?_; intro s hW hl) | (with_reducible refine lstatus_c ok3 hW (by assumption) (by assumption) ?_; intro s hW hl) | (with_reducible refine lwrite_c ok3 hW (by assumption) (by assumption) ?_; intro s hW hl) | (with_reducible refine lread_c ok3 hW (by assumption) (by assumption) ?_; intro s hW hl))
  replace hW := hW.alloc (.cells [.str [100], .str [47, 100], .str [46, 47, 100, 47, 46], .str [46, 46, 47, 100]] 9 0)
  refine lface_c hW e2 ?_
  intro s V hW hl hV
  repeat (first | with_reducible (refine w_one H ?_; constructor) | simp only [rB, rP, rQ, boolA, intA, resultA, resA, reduceIte, reduceCtorEq, Nat.reduceAdd, Nat.reduceLT, Nat.reduceEqDiff, UInt8.reduceToNat, pe4, pf4, b_eqi, b_nei, b_lt, b_le, b_gt, b_ge, fn_an0, fn_an1, fn_an4, fn_an5, bc_01, bc_012, bc_015, bc_0145, bc_0147, bc_016, bc_0167, bc_017, bc_03, bc_035, bc_0347, beq_self_eq_true, bne_self_eq_false, Int.reduceBEq, Int.reduceBNe, Int.reduceLT, Int.reduceLE, Int.reduceGT, decide_true, decide_false, eqB_self, la_cons, la_nil, e, eu, c_dec hb, ha, f0, p2] | (with_reducible refine lmake_c ok3 hW (by assumption) (by assumption) ?_; intro s hW hl) | (with_reducible refine lstatus_c ok3 hW (by assumption) (by assumption) ?_; intro s hW hl) | (with_reducible refine lwrite_c ok3 hW (by assumption) (by assumption) ?_; intro s hW hl) | (with_reducible refine lread_c ok3 hW (by assumption) (by assumption) ?_; intro s hW hl))
  refine lface_c hW e5 ?_
  intro s V hW hl hV
  repeat (first | with_reducible (refine w_one H ?_; constructor) | simp only [rB, rP, rQ, boolA, intA, resultA, resA, reduceIte, reduceCtorEq, Nat.reduceAdd, Nat.reduceLT, Nat.reduceEqDiff, UInt8.reduceToNat, pe4, pf4, b_eqi, b_nei, b_lt, b_le, b_gt, b_ge, fn_an0, fn_an1, fn_an4, fn_an5, bc_01, bc_012, bc_015, bc_0145, bc_0147, bc_016, bc_0167, bc_017, bc_03, bc_035, bc_0347, beq_self_eq_true, bne_self_eq_false, Int.reduceBEq, Int.reduceBNe, Int.reduceLT, Int.reduceLE, Int.reduceGT, decide_true, decide_false, eqB_self, la_cons, la_nil, e, eu, c_dec hb, ha, f0, all_an, st_an hV.cells1.2, stA_an])
  replace hW := hW.put (.cells (anL 0 0 0 0 [] nilS) 43 0) (.cells (anL a5.status a5.num a5.kind a5.mode a5.data V) 43 0)
  refine lmake_c ok3 hW e6 p6 ?_
  intro s hW hl
  have g5 := hW.get0
  repeat (first | with_reducible (refine w_one H ?_; constructor) | simp only [rB, rP, rQ, boolA, intA, resultA, resA, reduceIte, reduceCtorEq, Nat.reduceAdd, Nat.reduceLT, Nat.reduceEqDiff, UInt8.reduceToNat, pe4, pf4, b_eqi, b_nei, b_lt, b_le, b_gt, b_ge, fn_an0, fn_an1, fn_an4, fn_an5, bc_01, bc_012, bc_015, bc_0145, bc_0147, bc_016, bc_0167, bc_017, bc_03, bc_035, bc_0347, beq_self_eq_true, bne_self_eq_false, Int.reduceBEq, Int.reduceBNe, Int.reduceLT, Int.reduceLE, Int.reduceGT, decide_true, decide_false, eqB_self, la_cons, la_nil, e, eu, c_dec hb, ha, f0, an_g0, an_g1, an_g2, an_g3, an_g4, an_g5, fa_an0, fa_an1, fa_an2, fa_an3, fa_an4, fa_an5, ldO_an0, ldO_an1, ldO_an2, ldO_an3, ldO_an4, ldO_an5, ld_3, ld_9, ld_41, g5, p5, p7] | (with_reducible refine lmake_c ok3 hW (by assumption) (by assumption) ?_; intro s hW hl) | (with_reducible refine lstatus_c ok3 hW (by assumption) (by assumption) ?_; intro s hW hl) | (with_reducible refine lwrite_c ok3 hW (by assumption) (by assumption) ?_; intro s hW hl) | (with_reducible refine lread_c ok3 hW (by assumption) (by assumption) ?_; intro s hW hl))
  refine lnames_c ok3 hW e8 p8 ?_
  intro s V hW hl hV
  repeat (first | with_reducible (refine w_one H ?_; constructor) | simp only [rB, rP, rQ, boolA, intA, resultA, resA, reduceIte, reduceCtorEq, Nat.reduceAdd, Nat.reduceLT, Nat.reduceEqDiff, UInt8.reduceToNat, pe4, pf4, b_eqi, b_nei, b_lt, b_le, b_gt, b_ge, fn_an0, fn_an1, fn_an4, fn_an5, bc_01, bc_012, bc_015, bc_0145, bc_0147, bc_016, bc_0167, bc_017, bc_03, bc_035, bc_0347, beq_self_eq_true, bne_self_eq_false, Int.reduceBEq, Int.reduceBNe, Int.reduceLT, Int.reduceLE, Int.reduceGT, decide_true, decide_false, eqB_self, la_cons, la_nil, e, eu, c_dec hb, ha, f0, bs_2])
  refine same_c (hV.ext hW.below (Ext.alloc _ _)) slv_2 (by simp) ?_
  replace hW := hW.alloc (.cells [.str [103], .str [105, 110]] 9 0)
  repeat (first | with_reducible (refine w_one H ?_; constructor) | simp only [rB, rP, rQ, boolA, intA, resultA, resA, reduceIte, reduceCtorEq, Nat.reduceAdd, Nat.reduceLT, Nat.reduceEqDiff, UInt8.reduceToNat, pe4, pf4, b_eqi, b_nei, b_lt, b_le, b_gt, b_ge, fn_an0, fn_an1, fn_an4, fn_an5, bc_01, bc_012, bc_015, bc_0145, bc_0147, bc_016, bc_0167, bc_017, bc_03, bc_035, bc_0347, beq_self_eq_true, bne_self_eq_false, Int.reduceBEq, Int.reduceBNe, Int.reduceLT, Int.reduceLE, Int.reduceGT, decide_true, decide_false, eqB_self, la_cons, la_nil, e, eu, c_dec hb, ha, f0] | (with_reducible refine lmake_c ok3 hW (by assumption) (by assumption) ?_; intro s hW hl) | (with_reducible refine lstatus_c ok3 hW (by assumption) (by assumption) ?_; intro s hW hl) | (with_reducible refine lwrite_c ok3 hW (by assumption) (by assumption) ?_; intro s hW hl) | (with_reducible refine lread_c ok3 hW (by assumption) (by assumption) ?_; intro s hW hl))
  refine lnames_c ok3 hW e9 p9 ?_
  intro s V hW hl hV
  repeat (first | with_reducible (refine w_one H ?_; constructor) | simp only [rB, rP, rQ, boolA, intA, resultA, resA, reduceIte, reduceCtorEq, Nat.reduceAdd, Nat.reduceLT, Nat.reduceEqDiff, UInt8.reduceToNat, pe4, pf4, b_eqi, b_nei, b_lt, b_le, b_gt, b_ge, fn_an0, fn_an1, fn_an4, fn_an5, bc_01, bc_012, bc_015, bc_0145, bc_0147, bc_016, bc_0167, bc_017, bc_03, bc_035, bc_0347, beq_self_eq_true, bne_self_eq_false, Int.reduceBEq, Int.reduceBNe, Int.reduceLT, Int.reduceLE, Int.reduceGT, decide_true, decide_false, eqB_self, la_cons, la_nil, e, eu, c_dec hb, ha, f0, bs_2])
  refine same_c (hV.ext hW.below (Ext.alloc _ _)) slv_2 (by simp) ?_
  replace hW := hW.alloc (.cells [.str [103], .str [105, 110]] 9 0)
  repeat (first | with_reducible (refine w_one H ?_; constructor) | simp only [rB, rP, rQ, boolA, intA, resultA, resA, reduceIte, reduceCtorEq, Nat.reduceAdd, Nat.reduceLT, Nat.reduceEqDiff, UInt8.reduceToNat, pe4, pf4, b_eqi, b_nei, b_lt, b_le, b_gt, b_ge, fn_an0, fn_an1, fn_an4, fn_an5, bc_01, bc_012, bc_015, bc_0145, bc_0147, bc_016, bc_0167, bc_017, bc_03, bc_035, bc_0347, beq_self_eq_true, bne_self_eq_false, Int.reduceBEq, Int.reduceBNe, Int.reduceLT, Int.reduceLE, Int.reduceGT, decide_true, decide_false, eqB_self, la_cons, la_nil, e, eu, c_dec hb, ha, f0] | (with_reducible refine lmake_c ok3 hW (by assumption) (by assumption) ?_; intro s hW hl) | (with_reducible refine lstatus_c ok3 hW (by assumption) (by assumption) ?_; intro s hW hl) | (with_reducible refine lwrite_c ok3 hW (by assumption) (by assumption) ?_; intro s hW hl) | (with_reducible refine lread_c ok3 hW (by assumption) (by assumption) ?_; intro s hW hl))
  refine lnames_c ok3 hW e12 p12 ?_
  intro s V hW hl hV
  have nl := hV.len
  have ni := hV.ids
  repeat (first | with_reducible (refine w_one H ?_; constructor) | simp only [rB, rP, rQ, boolA, intA, resultA, resA, reduceIte, reduceCtorEq, Nat.reduceAdd, Nat.reduceLT, Nat.reduceEqDiff, UInt8.reduceToNat, pe4, pf4, b_eqi, b_nei, b_lt, b_le, b_gt, b_ge, fn_an0, fn_an1, fn_an4, fn_an5, bc_01, bc_012, bc_015, bc_0145, bc_0147, bc_016, bc_0167, bc_017, bc_03, bc_035, bc_0347, beq_self_eq_true, bne_self_eq_false, Int.reduceBEq, Int.reduceBNe, Int.reduceLT, Int.reduceLE, Int.reduceGT, decide_true, decide_false, eqB_self, la_cons, la_nil, e, eu, c_dec hb, ha, f0, nl, ni, List.length_nil, Int.ofNat_zero, Int.cast_ofNat_Int, Tryz.results48] | (with_reducible refine lmake_c ok3 hW (by assumption) (by assumption) ?_; intro s hW hl) | (with_reducible refine lstatus_c ok3 hW (by assumption) (by assumption) ?_; intro s hW hl) | (with_reducible refine lwrite_c ok3 hW (by assumption) (by assumption) ?_; intro s hW hl) | (with_reducible refine lread_c ok3 hW (by assumption) (by assumption) ?_; intro s hW hl))
  rfl
theorem throughRun : allN 4 (fun u => allN 256 (fun r => throughV M0 (102 :: decL r) (throughT u))) = true := by kernel_rfl
end Go.AX
namespace Go.AX
open Go.Proofs Go.RowKit
set_option maxRecDepth 1000000
set_option linter.unusedSimpArgs false
set_option linter.unusedVariables false
theorem throughAll (a0 a1 : Int) {s : St} (hW : WL s M0 []) : (sem Tryz.prog).call 48 [.fn 62 [.ptr 13 0], .raw (.int .i64 a0), .raw (.int .i64 a1)] s (fun v _ => isTrue v) (fun _ _ => false) = true := by
  obtain ⟨r, hr, e⟩ := and_lt (x := a0) (m := 255) (by decide)
  obtain ⟨u, hu, eu⟩ := and_lt (x := a1) (m := 3) (by decide)
  exact through_c a0 a1 e (Nat.blt_eq.mpr (by omega)) eu hu (f := 102 :: decL r) (b_add (by have := decL_len (n := r); simp; omega)) (by have := decL_len (n := r); simp; omega) rfl hW (allN_at (allN_at throughRun (i := u) (by omega)) (i := r) (by omega))
theorem throughWalk (a0 a1 : Int) (w : Go.World) : Calls Tryz.prog 21 #[.int .i64 a0, .int .i64 a1] w fun e w' => e = .returned (.bool true) ∧ Below w.heap.size w w' := by
  refine sem_walk (args := [.raw (.int .i64 a0), .raw (.int .i64 a1)]) (Args := [.int .i64 a0, .int .i64 a1]) (VRels.cons (by simp [VRel]) (VRels.cons (by simp [VRel]) VRels.nil)) ?_ w
  have H := ok3
  show (sem Tryz.prog).call 21 [.raw (.int .i64 a0), .raw (.int .i64 a1)] st0 _ _ = true
  refine w_call H 12 fn_21 rfl rfl ?_
  repeat (first | with_reducible (refine w_one H ?_; constructor) | simp only [rB, rP, rQ, boolA, intA, resultA, resA, reduceIte, reduceCtorEq, Nat.reduceAdd, Nat.reduceLT, Nat.reduceEqDiff, UInt8.reduceToNat, pe3, pf3, c_awake, Tryz.results21] | (with_reducible refine faceW_c ?_; intro s hW) | (with_reducible refine call_true (throughAll a0 a1 hW) (fun s' => ?_)))
  rfl
end Go.AX
