import Derived.Test.YthkkdhjekjoalaaGreatDoorD2
set_option linter.unusedVariables false
set_option linter.unusedSimpArgs false
set_option linter.defProp false
namespace Go.AX
open Go.Proofs Go.RowKit
set_option maxRecDepth 1000000
set_option maxHeartbeats 40000000
set_option linter.unusedSimpArgs false
set_option linter.unusedVariables false

def linksV (M : Md) (f t : List Nat) : Bool := ask M (mkC 6 [100]) (st 0) fun _ M =>
    ask M (mkC 6 [100, 47, 101]) (st 0) fun _ M =>
    ask M (mkC 5 (100 :: 47 :: f)) (st 0) fun _ M =>
    ask M (wrC (100 :: 47 :: f) 0 [104, 101, 114, 101]) (st 0) fun _ M =>
    ask M ((⟨7, [100, 47, 101, 47, 108], [], 0, 0, 0, 0, t⟩ : Cl)) (st 0) fun _ M =>
    ask M (qC 4 [100, 47, 101, 47, 108]) (dt t) fun _ M =>
    ask M (qC 1 [100, 47, 101, 47, 108]) (fun a => ki 3 a && nu (t.length : Int) a) fun _ M =>
    ask M (wrC [100, 47, 101, 47, 108] 0 [72, 69]) (st 0) fun _ M =>
    ask M (rdC (100 :: 47 :: f)) (dt [72, 69, 114, 101]) fun _ M =>
    ask M (qC 11 [100, 47, 101, 47, 108]) (st 0) fun _ M =>
    ask M (rdC (100 :: 47 :: f)) (dt [72, 69, 114, 101]) fun _ M =>
    true
def linksT (f : List Nat) : Nat → List Nat := nth4 (46 :: 46 :: 47 :: f) (47 :: 100 :: 47 :: f) (46 :: 47 :: 46 :: 46 :: 47 :: 46 :: 46 :: 47 :: 100 :: 47 :: f) (46 :: 46 :: 47 :: 46 :: 46 :: 47 :: 46 :: 46 :: 47 :: 46 :: 46 :: 47 :: 100 :: 47 :: f)
theorem links_c (z0 z1 : Int) {u r : Nat} (eu : andI z0 3 = (u : Int)) (hu : u ≤ 3) (e : andI z1 255 = (r : Int)) (hb : Nat.blt r 256 = true) {f : List Nat} (ha : binFast .add (.str [102]) (.str (decL r)) = some (.str f)) (hf : f.length ≤ 4) {t : List Nat} (ht : linksT f u = t) {M : Md} {s : St} (hW : WL s M []) (h : linksV M f t = true) :
    (sem Tryz.prog).call 35 [.fn 62 [.ptr 13 0], .raw (.int .i64 z0), .raw (.int .i64 z1)] s (fun v _ => isTrue v) (fun _ _ => false) = true := by
  have H := ok4
  unfold linksV at h
  obtain ⟨a1, M1, e1, p1, h⟩ := ask_inv h
  have p1 := st_of p1
  obtain ⟨a2, M2, e2, p2, h⟩ := ask_inv h
  have p2 := st_of p2
  obtain ⟨a3, M3, e3, p3, h⟩ := ask_inv h
  have p3 := st_of p3
  obtain ⟨a4, M4, e4, p4, h⟩ := ask_inv h
  have p4 := st_of p4
  obtain ⟨a5, M5, e5, p5, h⟩ := ask_inv h
  have p5 := st_of p5
  obtain ⟨a6, M6, e6, p6, h⟩ := ask_inv h
  have p6 := dt_of p6
  obtain ⟨a7, M7, e7, p7, h⟩ := ask_inv h
  simp only [Bool.and_eq_true] at p7
  have p7a := ki_of p7.1
  have p7b := nu_of p7.2
  obtain ⟨a8, M8, e8, p8, h⟩ := ask_inv h
  have p8 := st_of p8
  obtain ⟨a9, M9, e9, p9, h⟩ := ask_inv h
  have p9 := dt_of p9
  obtain ⟨a10, M10, e10, p10, h⟩ := ask_inv h
  have p10 := st_of p10
  obtain ⟨a11, M11, e11, p11, h⟩ := ask_inv h
  have p11 := dt_of p11
  have f0 : binFast .add (.str [100, 47]) (.str f) = some (.str (100 :: 47 :: f)) := b_add (by simp; omega)
  have f1 : binFast .add (.str [46, 46, 47]) (.str f) = some (.str (46 :: 46 :: 47 :: f)) := b_add (by simp; omega)
  have f2 : binFast .add (.str [47, 100, 47]) (.str f) = some (.str (47 :: 100 :: 47 :: f)) := b_add (by simp; omega)
  have f3 : binFast .add (.str [46, 47, 46, 46, 47, 46, 46, 47, 100, 47]) (.str f) = some (.str (46 :: 47 :: 46 :: 46 :: 47 :: 46 :: 46 :: 47 :: 100 :: 47 :: f)) := b_add (by simp; omega)
  have f4 : binFast .add (.str [46, 46, 47, 46, 46, 47, 46, 46, 47, 46, 46, 47, 100, 47]) (.str f) = some (.str (46 :: 46 :: 47 :: 46 :: 46 :: 47 :: 46 :: 46 :: 47 :: 46 :: 46 :: 47 :: 100 :: 47 :: f)) := b_add (by simp; omega)
  have ix := fun q => ix_s4 (q := q) hu
  have lt : ∀ t' z, ldO (some (.cells [.str (46 :: 46 :: 47 :: f), .str (47 :: 100 :: 47 :: f), .str (46 :: 47 :: 46 :: 46 :: 47 :: 46 :: 46 :: 47 :: 100 :: 47 :: f), .str (46 :: 46 :: 47 :: 46 :: 46 :: 47 :: 46 :: 46 :: 47 :: 46 :: 46 :: 47 :: 100 :: 47 :: f)] t' z)) u = some (.str t) := fun t' z => by rw [← ht]; exact ld_s4 hu
  refine w_call H 114 fn_35 rfl rfl ?_
  repeat (first | with_reducible (refine w_one H ?_; constructor) | simp only [rB, rP, rQ, boolA, intA, resultA, resA, reduceIte, reduceCtorEq, Nat.reduceAdd, Nat.reduceLT, Nat.reduceEqDiff, UInt8.reduceToNat, pe4, pf4, b_eqi, b_nei, b_lt, b_le, b_gt, b_ge, fn_an0, fn_an1, fn_an4, fn_an5, bc_01, bc_012, bc_015, bc_0145, bc_0147, bc_016, bc_0167, bc_017, bc_03, bc_035, bc_0347, beq_self_eq_true, bne_self_eq_false, Int.reduceBEq, Int.reduceBNe, Int.reduceLT, Int.reduceLE, Int.reduceGT, decide_true, decide_false, eqB_self, la_cons, la_nil, e, eu, c_dec hb, ha, f0, f1, f2, f3, f4, ix, lt, bs_4, ld_9] | (with_reducible refine lmake_c ok3 hW (by assumption) (by assumption) ?_; intro s hW hl) | (with_reducible refine lstatus_c ok3 hW (by assumption) (by assumption) ?_; intro s hW hl) | (with_reducible refine lwrite_c ok3 hW (by assumption) (by assumption) ?_; intro s hW hl) | (with_reducible refine lread_c ok3 hW (by assumption) (by assumption) ?_; intro s hW hl))
  replace hW := hW.alloc (.cells [.str (46 :: 46 :: 47 :: f), .str (47 :: 100 :: 47 :: f), .str (46 :: 47 :: 46 :: 46 :: 47 :: 46 :: 46 :: 47 :: 100 :: 47 :: f), .str (46 :: 46 :: 47 :: 46 :: 46 :: 47 :: 46 :: 46 :: 47 :: 46 :: 46 :: 47 :: 100 :: 47 :: f)] 9 0)
  refine lface_c hW e5 ?_
  intro s V hW hl hV
  repeat (first | with_reducible (refine w_one H ?_; constructor) | simp only [rB, rP, rQ, boolA, intA, resultA, resA, reduceIte, reduceCtorEq, Nat.reduceAdd, Nat.reduceLT, Nat.reduceEqDiff, UInt8.reduceToNat, pe4, pf4, b_eqi, b_nei, b_lt, b_le, b_gt, b_ge, fn_an0, fn_an1, fn_an4, fn_an5, bc_01, bc_012, bc_015, bc_0145, bc_0147, bc_016, bc_0167, bc_017, bc_03, bc_035, bc_0347, beq_self_eq_true, bne_self_eq_false, Int.reduceBEq, Int.reduceBNe, Int.reduceLT, Int.reduceLE, Int.reduceGT, decide_true, decide_false, eqB_self, la_cons, la_nil, e, eu, c_dec hb, ha, f0, f1, f2, f3, f4, all_an, st_an hV.cells1.2, stA_an])
  replace hW := hW.put (.cells (anL 0 0 0 0 [] nilS) 43 0) (.cells (anL a5.status a5.num a5.kind a5.mode a5.data V) 43 0)
  refine lface_c hW e6 ?_
  intro s V hW hl hV
  repeat (first | with_reducible (refine w_one H ?_; constructor) | simp only [rB, rP, rQ, boolA, intA, resultA, resA, reduceIte, reduceCtorEq, Nat.reduceAdd, Nat.reduceLT, Nat.reduceEqDiff, UInt8.reduceToNat, pe4, pf4, b_eqi, b_nei, b_lt, b_le, b_gt, b_ge, fn_an0, fn_an1, fn_an4, fn_an5, bc_01, bc_012, bc_015, bc_0145, bc_0147, bc_016, bc_0167, bc_017, bc_03, bc_035, bc_0347, beq_self_eq_true, bne_self_eq_false, Int.reduceBEq, Int.reduceBNe, Int.reduceLT, Int.reduceLE, Int.reduceGT, decide_true, decide_false, eqB_self, la_cons, la_nil, e, eu, c_dec hb, ha, f0, f1, f2, f3, f4, all_an, st_an hV.cells1.2, stA_an])
  replace hW := hW.put (.cells (anL 0 0 0 0 [] nilS) 43 0) (.cells (anL a6.status a6.num a6.kind a6.mode a6.data V) 43 0)
  refine lface_c hW e7 ?_
  intro s V hW hl hV
  repeat (first | with_reducible (refine w_one H ?_; constructor) | simp only [rB, rP, rQ, boolA, intA, resultA, resA, reduceIte, reduceCtorEq, Nat.reduceAdd, Nat.reduceLT, Nat.reduceEqDiff, UInt8.reduceToNat, pe4, pf4, b_eqi, b_nei, b_lt, b_le, b_gt, b_ge, fn_an0, fn_an1, fn_an4, fn_an5, bc_01, bc_012, bc_015, bc_0145, bc_0147, bc_016, bc_0167, bc_017, bc_03, bc_035, bc_0347, beq_self_eq_true, bne_self_eq_false, Int.reduceBEq, Int.reduceBNe, Int.reduceLT, Int.reduceLE, Int.reduceGT, decide_true, decide_false, eqB_self, la_cons, la_nil, e, eu, c_dec hb, ha, f0, f1, f2, f3, f4, all_an, st_an hV.cells1.2, stA_an])
  replace hW := hW.put (.cells (anL 0 0 0 0 [] nilS) 43 0) (.cells (anL a7.status a7.num a7.kind a7.mode a7.data V) 43 0)
  refine lwrite_c ok3 hW e8 p8 ?_
  intro s hW hl
  have g7 := hW.get0
  have g6 := hW.get1
  have g5 := hW.get2
  repeat (first | with_reducible (refine w_one H ?_; constructor) | simp only [rB, rP, rQ, boolA, intA, resultA, resA, reduceIte, reduceCtorEq, Nat.reduceAdd, Nat.reduceLT, Nat.reduceEqDiff, UInt8.reduceToNat, pe4, pf4, b_eqi, b_nei, b_lt, b_le, b_gt, b_ge, fn_an0, fn_an1, fn_an4, fn_an5, bc_01, bc_012, bc_015, bc_0145, bc_0147, bc_016, bc_0167, bc_017, bc_03, bc_035, bc_0347, beq_self_eq_true, bne_self_eq_false, Int.reduceBEq, Int.reduceBNe, Int.reduceLT, Int.reduceLE, Int.reduceGT, decide_true, decide_false, eqB_self, la_cons, la_nil, e, eu, c_dec hb, ha, f0, f1, f2, f3, f4, an_g0, an_g1, an_g2, an_g3, an_g4, an_g5, fa_an0, fa_an1, fa_an2, fa_an3, fa_an4, fa_an5, ldO_an0, ldO_an1, ldO_an2, ldO_an3, ldO_an4, ldO_an5, ld_3, ld_9, ld_41, g5, g6, g7, p5, p6, p7a, p7b, len_str, Tryz.results35] | (with_reducible refine lmake_c ok3 hW (by assumption) (by assumption) ?_; intro s hW hl) | (with_reducible refine lstatus_c ok3 hW (by assumption) (by assumption) ?_; intro s hW hl) | (with_reducible refine lwrite_c ok3 hW (by assumption) (by assumption) ?_; intro s hW hl) | (with_reducible refine lread_c ok3 hW (by assumption) (by assumption) ?_; intro s hW hl))
  rfl
theorem linksRun : allN 4 (fun u => allN 256 (fun r => linksV M0 (102 :: decL r) (linksT (102 :: decL r) u))) = true := by kernel_rfl
end Go.AX
namespace Go.AX
open Go.Proofs Go.RowKit
set_option maxRecDepth 1000000
set_option linter.unusedSimpArgs false
set_option linter.unusedVariables false
theorem linksAll (a0 a1 : Int) {s : St} (hW : WL s M0 []) : (sem Tryz.prog).call 35 [.fn 62 [.ptr 13 0], .raw (.int .i64 a0), .raw (.int .i64 a1)] s (fun v _ => isTrue v) (fun _ _ => false) = true := by
  obtain ⟨u, hu, eu⟩ := and_lt (x := a0) (m := 3) (by decide)
  obtain ⟨r, hr, e⟩ := and_lt (x := a1) (m := 255) (by decide)
  exact links_c a0 a1 eu hu e (Nat.blt_eq.mpr (by omega)) (f := 102 :: decL r) (b_add (by have := decL_len (n := r); simp; omega)) (by have := decL_len (n := r); simp; omega) rfl hW (allN_at (allN_at linksRun (i := u) (by omega)) (i := r) (by omega))
theorem linksWalk (a0 a1 : Int) (w : Go.World) : Calls Tryz.prog 7 #[.int .i64 a0, .int .i64 a1] w fun e w' => e = .returned (.bool true) ∧ Below w.heap.size w w' := by
  refine sem_walk (args := [.raw (.int .i64 a0), .raw (.int .i64 a1)]) (Args := [.int .i64 a0, .int .i64 a1]) (VRels.cons (by simp [VRel]) (VRels.cons (by simp [VRel]) VRels.nil)) ?_ w
  have H := ok3
  show (sem Tryz.prog).call 7 [.raw (.int .i64 a0), .raw (.int .i64 a1)] st0 _ _ = true
  refine w_call H 12 fn_7 rfl rfl ?_
  repeat (first | with_reducible (refine w_one H ?_; constructor) | simp only [rB, rP, rQ, boolA, intA, resultA, resA, reduceIte, reduceCtorEq, Nat.reduceAdd, Nat.reduceLT, Nat.reduceEqDiff, UInt8.reduceToNat, pe3, pf3, c_awake, Tryz.results7] | (with_reducible refine faceW_c ?_; intro s hW) | (with_reducible refine call_true (linksAll a0 a1 hW) (fun s' => ?_)))
  rfl
end Go.AX
