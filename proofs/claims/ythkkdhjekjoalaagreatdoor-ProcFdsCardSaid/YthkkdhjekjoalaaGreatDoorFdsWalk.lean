import Derived.Test.YthkkdhjekjoalaaGreatDoorD2
set_option linter.unusedVariables false
set_option linter.unusedSimpArgs false
set_option linter.defProp false
namespace Go.AX
open Go.Proofs Go.RowKit
set_option maxRecDepth 1000000
set_option maxHeartbeats 40000000
set_option linter.unusedSimpArgs false
set_option linter.unusedVariables false

theorem b_nb {a : Bool} {u : AV} : binFast .neq (.raw (.bool a)) u = none := (rfl)
theorem eqS_nb {s : St} {a b : Bool} {d : Option (AV × List Nat)} : eqS TE s .neq 4 (.raw (.bool a)) (.raw (.bool b)) d = d := by kernel_rfl
def isBoolA : AV → Bool
  | .raw (.bool _) => true
  | _ => false
def nebA : AV → AV → Option (AV × List Nat)
  | .raw (.bool a), .raw (.bool b) => some (.raw (.bool (a != b)), [])
  | _, _ => none
theorem nebA_b {a b : Bool} : nebA (.raw (.bool a)) (.raw (.bool b)) = some (.raw (.bool (a != b)), []) := (rfl)
theorem isBool_b {a : Bool} : isBoolA (.raw (.bool a)) = true := (rfl)
theorem run_nb1 {i j : Nat} : pureRun TE.P (do let r ← (do eqGuard .neq 4 (.tmp i) (.tmp j) (.bool true) (.bool true); binOp .neq 4 (.bool true) (.bool true)); pure (Next.value r)) = some (.value (.bool false)) := by kernel_rfl
theorem run_nb2 {i j : Nat} : pureRun TE.P (do let r ← (do eqGuard .neq 4 (.tmp i) (.tmp j) (.bool true) (.bool false); binOp .neq 4 (.bool true) (.bool false)); pure (Next.value r)) = some (.value (.bool true)) := by kernel_rfl
theorem run_nb3 {i j : Nat} : pureRun TE.P (do let r ← (do eqGuard .neq 4 (.tmp i) (.tmp j) (.bool false) (.bool true); binOp .neq 4 (.bool false) (.bool true)); pure (Next.value r)) = some (.value (.bool true)) := by kernel_rfl
theorem run_nb4 {i j : Nat} : pureRun TE.P (do let r ← (do eqGuard .neq 4 (.tmp i) (.tmp j) (.bool false) (.bool false); binOp .neq 4 (.bool false) (.bool false)); pure (Next.value r)) = some (.value (.bool false)) := by kernel_rfl
theorem isBool_of {v : AV} (h : isBoolA v = true) : ∃ b, v = .raw (.bool b) := by
  unfold isBoolA at h
  split at h
  · exact ⟨_, rfl⟩
  · cases h
theorem pu_nb {a : Ac} {dst : Option Tmp} {i j : Nat} {ty : TypeId} {pos : String} {after : Array Edge} (hx : isBoolA (a.eval (.tmp i)) = true) (hy : isBoolA (a.eval (.tmp j)) = true) :
    stepPure TE a ⟨dst, .binOp .neq 4 (.tmp i) (.tmp j) 4, ty, pos, after, none⟩ = nebA (a.eval (.tmp i)) (a.eval (.tmp j)) := by
  obtain ⟨x, hx⟩ := isBool_of hx
  obtain ⟨y, hy⟩ := isBool_of hy
  have h1 : valAt a (.tmp i) = .bool x := by simp [valAt, hx, toVal]
  have h2 : valAt a (.tmp j) = .bool y := by simp [valAt, hy, toVal]
  have hall : (Op.operands (.binOp .neq 4 (.tmp i) (.tmp j) 4)).toList.all (fun x => (toVal (a.eval x)).isSome) = true := by
    show (List.all [.tmp i, .tmp j] (fun x => (toVal (a.eval x)).isSome)) = true
    simp only [List.all_cons, List.all_nil, hx, hy]
    rfl
  have hr : pureRun TE.P (execOp (valAt a) ⟨dst, .binOp .neq 4 (.tmp i) (.tmp j) 4, ty, pos, after, none⟩) = some (.value (.bool (x != y))) := by
    have he : execOp (valAt a) ⟨dst, .binOp .neq 4 (.tmp i) (.tmp j) 4, ty, pos, after, none⟩ = (do let r ← (do eqGuard .neq 4 (.tmp i) (.tmp j) (.bool x) (.bool y); binOp .neq 4 (.bool x) (.bool y)); pure (.value r)) := by
      simp only [execOp, h1, h2]
    rw [he]
    cases x <;> cases y
    · exact run_nb4
    · exact run_nb3
    · exact run_nb2
    · exact run_nb1
  simp only [stepPure, hall, cond_true, hr, hx, hy]
  rfl
def fdsT : Nat → Nat → Md → Bool
  | 0, _, M => ask M ((⟨17, [], [], 0, 0, 0, 0, []⟩ : Cl)) (st 0) fun _ M =>
    ask M ((⟨15, [], [], 0, 0, 9, 0, []⟩ : Cl)) (st 12) fun _ M =>
    ask M ((⟨17, [], [], 99, 0, 0, 0, []⟩ : Cl)) (st 12) fun _ M =>
    true
  | n + 1, i, M => ask M (qC 14 [104]) (fun a => bif Nat.blt (i + 1) 8 then st 0 a && nu ((i : Int) + 1) a else st 10 a) fun _ M => fdsT n (i + 1) M
def fdsV0 (M : Md) (k : Nat) : Bool := ask M (mkC 5 [102]) (st 0) fun _ M =>
    ask M (wrC [102] 0 [97, 98, 99]) (st 0) fun _ M =>
    ask M (qC 14 [102]) (fun a => st 0 a && nu 0 a) fun _ M =>
    ask M (qC 11 [102]) (st 0) fun _ M =>
    ask M ((⟨16, [], [], 0, 3, 0, 0, [100]⟩ : Cl)) (nu 1) fun _ M =>
    ask M ((⟨15, [], [], 0, 0, 9, 0, []⟩ : Cl)) (dt [97, 98, 99, 100]) fun _ M =>
    ask M (mkC 5 [104]) (st 0) fun _ M =>
    fdsT k 0 M
def fdsV1 (M : Md) (k : Nat) : Bool := ask M (mkC 5 [102]) (st 0) fun _ M =>
    ask M (wrC [102] 0 [97, 98, 99]) (st 0) fun _ M =>
    ask M (qC 14 [102]) (fun a => st 0 a && nu 0 a) fun _ M =>
    ask M (rnC [102] [103]) (st 0) fun _ M =>
    ask M ((⟨16, [], [], 0, 3, 0, 0, [100]⟩ : Cl)) (nu 1) fun _ M =>
    ask M ((⟨15, [], [], 0, 0, 9, 0, []⟩ : Cl)) (dt [97, 98, 99, 100]) fun _ M =>
    ask M (mkC 5 [104]) (st 0) fun _ M =>
    fdsT k 0 M
def fdsV2 (M : Md) (k : Nat) : Bool := ask M (mkC 5 [102]) (st 0) fun _ M =>
    ask M (wrC [102] 0 [97, 98, 99]) (st 0) fun _ M =>
    ask M (qC 14 [102]) (fun a => st 0 a && nu 0 a) fun _ M =>
    ask M (mkC 5 [103]) (st 0) fun _ M =>
    ask M (rnC [103] [102]) (st 0) fun _ M =>
    ask M ((⟨16, [], [], 0, 3, 0, 0, [100]⟩ : Cl)) (nu 1) fun _ M =>
    ask M ((⟨15, [], [], 0, 0, 9, 0, []⟩ : Cl)) (dt [97, 98, 99, 100]) fun _ M =>
    ask M (mkC 5 [104]) (st 0) fun _ M =>
    fdsT k 0 M
theorem fds0_c (z0 z1 : Int) {k : Nat} (ek : andI z1 15 = (k : Int)) (hk : k ≤ 15) (er : (IntKind.u64.wrap z0).tmod 3 = 0) {M : Md} {s : St} (hW : WL s M []) (h : fdsV0 M k = true) :
    (sem Tryz.prog).call 41 [.fn 62 [.ptr 13 0], .raw (.int .i64 z0), .raw (.int .i64 z1)] s (fun v _ => isTrue v) (fun _ _ => false) = true := by
  have H := ok4
  have m3 : (3 : Int) ≠ 0 := by decide
  unfold fdsV0 at h
  obtain ⟨a1, M1, e1, p1, h⟩ := ask_inv h
  have p1 := st_of p1
  obtain ⟨a2, M2, e2, p2, h⟩ := ask_inv h
  have p2 := st_of p2
  obtain ⟨a3, M3, e3, p3, h⟩ := ask_inv h
  simp only [Bool.and_eq_true] at p3
  have p3a := st_of p3.1
  have p3b := nu_of p3.2
  obtain ⟨a4, M4, e4, p4, h⟩ := ask_inv h
  have p4 := st_of p4
  obtain ⟨a5, M5, e5, p5, h⟩ := ask_inv h
  have p5 := nu_of p5
  obtain ⟨a6, M6, e6, p6, h⟩ := ask_inv h
  have p6 := dt_of p6
  obtain ⟨a7, M7, e7, p7, h⟩ := ask_inv h
  have p7 := st_of p7
  refine w_call H 164 fn_41 rfl rfl ?_
  repeat (first | with_reducible (refine w_one H ?_; constructor) | simp only [rB, rP, rQ, boolA, intA, resultA, resA, reduceIte, reduceCtorEq, Nat.reduceAdd, Nat.reduceLT, Nat.reduceEqDiff, UInt8.reduceToNat, pe4, pf4, b_eqi, b_nei, b_lt, b_le, b_gt, b_ge, fn_an0, fn_an1, fn_an4, fn_an5, bc_01, bc_012, bc_015, bc_0145, bc_0147, bc_016, bc_0167, bc_017, bc_03, bc_035, bc_0347, beq_self_eq_true, bne_self_eq_false, Int.reduceBEq, Int.reduceBNe, Int.reduceLT, Int.reduceLE, Int.reduceGT, decide_true, decide_false, eqB_self, la_cons, la_nil, b_plus, b_nb, eqS_nb, pu_nb, nebA_b, isBool_b, Bool.true_bne, Bool.false_bne, Bool.bne_true, Bool.bne_false] | (with_reducible refine lmake_c ok3 hW (by assumption) (by assumption) ?_; intro s hW hl) | (with_reducible refine lstatus_c ok3 hW (by assumption) (by assumption) ?_; intro s hW hl) | (with_reducible refine lwrite_c ok3 hW (by assumption) (by assumption) ?_; intro s hW hl) | (with_reducible refine lread_c ok3 hW (by assumption) (by assumption) ?_; intro s hW hl))
  refine lface_c hW e3 ?_
  intro s8 V8 hW hl8 hV
  repeat (first | with_reducible (refine w_one H ?_; constructor) | simp only [rB, rP, rQ, boolA, intA, resultA, resA, reduceIte, reduceCtorEq, Nat.reduceAdd, Nat.reduceLT, Nat.reduceEqDiff, UInt8.reduceToNat, pe4, pf4, b_eqi, b_nei, b_lt, b_le, b_gt, b_ge, fn_an0, fn_an1, fn_an4, fn_an5, bc_01, bc_012, bc_015, bc_0145, bc_0147, bc_016, bc_0167, bc_017, bc_03, bc_035, bc_0347, beq_self_eq_true, bne_self_eq_false, Int.reduceBEq, Int.reduceBNe, Int.reduceLT, Int.reduceLE, Int.reduceGT, decide_true, decide_false, eqB_self, la_cons, la_nil, b_plus, b_nb, eqS_nb, pu_nb, nebA_b, isBool_b, Bool.true_bne, Bool.false_bne, Bool.bne_true, Bool.bne_false, all_an, st_an hV.cells1.2, stA_an, o_cvt, toU_int, b_rem, eqS_rem, rm_eq m3, u64_int, remA_int, er, i64_int, p3a, p3b])
  replace hW := hW.put (.cells (anL 0 0 0 0 [] nilS) 43 0) (.cells (anL 0 0 a3.kind a3.mode a3.data V8) 43 0)
  refine lstatus_c ok3 hW e4 p4 ?_
  intro s hW hl
  have g8 := hW.get0
  repeat (first | with_reducible (refine w_one H ?_; constructor) | simp only [rB, rP, rQ, boolA, intA, resultA, resA, reduceIte, reduceCtorEq, Nat.reduceAdd, Nat.reduceLT, Nat.reduceEqDiff, UInt8.reduceToNat, pe4, pf4, b_eqi, b_nei, b_lt, b_le, b_gt, b_ge, fn_an0, fn_an1, fn_an4, fn_an5, bc_01, bc_012, bc_015, bc_0145, bc_0147, bc_016, bc_0167, bc_017, bc_03, bc_035, bc_0347, beq_self_eq_true, bne_self_eq_false, Int.reduceBEq, Int.reduceBNe, Int.reduceLT, Int.reduceLE, Int.reduceGT, decide_true, decide_false, eqB_self, la_cons, la_nil, b_plus, b_nb, eqS_nb, pu_nb, nebA_b, isBool_b, Bool.true_bne, Bool.false_bne, Bool.bne_true, Bool.bne_false, g8, an_g0, an_g1, an_g2, an_g3, an_g4, an_g5, fa_an0, fa_an1, fa_an2, fa_an3, fa_an4, fa_an5, ldO_an0, ldO_an1, ldO_an2, ldO_an3, ldO_an4, ldO_an5, ld_3, ld_9, ld_41])
  refine lface_c hW e5 ?_
  intro s9 V9 hW hl9 hV
  have g8 := hW.get0
  have n8 := hW.ne0
  repeat (first | with_reducible (refine w_one H ?_; constructor) | simp only [rB, rP, rQ, boolA, intA, resultA, resA, reduceIte, reduceCtorEq, Nat.reduceAdd, Nat.reduceLT, Nat.reduceEqDiff, UInt8.reduceToNat, pe4, pf4, b_eqi, b_nei, b_lt, b_le, b_gt, b_ge, fn_an0, fn_an1, fn_an4, fn_an5, bc_01, bc_012, bc_015, bc_0145, bc_0147, bc_016, bc_0167, bc_017, bc_03, bc_035, bc_0347, beq_self_eq_true, bne_self_eq_false, Int.reduceBEq, Int.reduceBNe, Int.reduceLT, Int.reduceLE, Int.reduceGT, decide_true, decide_false, eqB_self, la_cons, la_nil, b_plus, b_nb, eqS_nb, pu_nb, nebA_b, isBool_b, Bool.true_bne, Bool.false_bne, Bool.bne_true, Bool.bne_false, all_an, st_an hV.cells1.2, stA_an, an_g0, an_g1, an_g2, an_g3, an_g4, an_g5, fa_an0, fa_an1, fa_an2, fa_an3, fa_an4, fa_an5, ldO_an0, ldO_an1, ldO_an2, ldO_an3, ldO_an4, ldO_an5, ld_3, ld_9, ld_41, p5, g8, n8])
  replace hW := hW.put (.cells (anL 0 0 0 0 [] nilS) 43 0) (.cells (anL a5.status 1 a5.kind a5.mode a5.data V9) 43 0)
  refine lface_c hW e6 ?_
  intro sA VA hW hlA hV
  repeat (first | with_reducible (refine w_one H ?_; constructor) | simp only [rB, rP, rQ, boolA, intA, resultA, resA, reduceIte, reduceCtorEq, Nat.reduceAdd, Nat.reduceLT, Nat.reduceEqDiff, UInt8.reduceToNat, pe4, pf4, b_eqi, b_nei, b_lt, b_le, b_gt, b_ge, fn_an0, fn_an1, fn_an4, fn_an5, bc_01, bc_012, bc_015, bc_0145, bc_0147, bc_016, bc_0167, bc_017, bc_03, bc_035, bc_0347, beq_self_eq_true, bne_self_eq_false, Int.reduceBEq, Int.reduceBNe, Int.reduceLT, Int.reduceLE, Int.reduceGT, decide_true, decide_false, eqB_self, la_cons, la_nil, b_plus, b_nb, eqS_nb, pu_nb, nebA_b, isBool_b, Bool.true_bne, Bool.false_bne, Bool.bne_true, Bool.bne_false, all_an, st_an hV.cells1.2, stA_an, p6])
  replace hW := hW.put (.cells (anL 0 0 0 0 [] nilS) 43 0) (.cells (anL a6.status a6.num a6.kind a6.mode [97, 98, 99, 100] VA) 43 0)
  refine lmake_c ok3 hW e7 p7 ?_
  intro s hW hl
  repeat (first | with_reducible (refine w_one H ?_; constructor) | simp only [rB, rP, rQ, boolA, intA, resultA, resA, reduceIte, reduceCtorEq, Nat.reduceAdd, Nat.reduceLT, Nat.reduceEqDiff, UInt8.reduceToNat, pe4, pf4, b_eqi, b_nei, b_lt, b_le, b_gt, b_ge, fn_an0, fn_an1, fn_an4, fn_an5, bc_01, bc_012, bc_015, bc_0145, bc_0147, bc_016, bc_0167, bc_017, bc_03, bc_035, bc_0347, beq_self_eq_true, bne_self_eq_false, Int.reduceBEq, Int.reduceBNe, Int.reduceLT, Int.reduceLE, Int.reduceGT, decide_true, decide_false, eqB_self, la_cons, la_nil, b_plus, b_nb, eqS_nb, pu_nb, nebA_b, isBool_b, Bool.true_bne, Bool.false_bne, Bool.bne_true, Bool.bne_false, ek])
  refine w_loop_ind H (fun n t s => ∃ i M, n + i = k ∧ tg t 0 = .fn 62 [.ptr 13 0] ∧ tg t 7 = .raw (.bool true) ∧ tg t 8 = .ptr s8.nx 0 ∧ tg t 9 = .ptr s9.nx 0 ∧ tg t 10 = .ptr sA.nx 0 ∧ tg t 11 = .raw (.int .i64 (k : Int)) ∧ tg t 12 = .raw (.int .i64 (i : Int)) ∧ WL s M [(sA.nx, .cells (anL a6.status a6.num a6.kind a6.mode [97, 98, 99, 100] VA) 43 0), (s9.nx, .cells (anL a5.status 1 a5.kind a5.mode a5.data V9) 43 0), (s8.nx, .cells (anL 0 0 a3.kind a3.mode a3.data V8) 43 0)] ∧ fdsT n i M = true) (n := k)
    ⟨0, _, rfl, by simp only [rB, rP, rQ, boolA, intA, resultA, resA, reduceIte, reduceCtorEq, Nat.reduceAdd, Nat.reduceLT, Nat.reduceEqDiff, UInt8.reduceToNat], by simp only [rB, rP, rQ, boolA, intA, resultA, resA, reduceIte, reduceCtorEq, Nat.reduceAdd, Nat.reduceLT, Nat.reduceEqDiff, UInt8.reduceToNat], by simp only [rB, rP, rQ, boolA, intA, resultA, resA, reduceIte, reduceCtorEq, Nat.reduceAdd, Nat.reduceLT, Nat.reduceEqDiff, UInt8.reduceToNat], by simp only [rB, rP, rQ, boolA, intA, resultA, resA, reduceIte, reduceCtorEq, Nat.reduceAdd, Nat.reduceLT, Nat.reduceEqDiff, UInt8.reduceToNat], by simp only [rB, rP, rQ, boolA, intA, resultA, resA, reduceIte, reduceCtorEq, Nat.reduceAdd, Nat.reduceLT, Nat.reduceEqDiff, UInt8.reduceToNat], by simp only [rB, rP, rQ, boolA, intA, resultA, resA, reduceIte, reduceCtorEq, Nat.reduceAdd, Nat.reduceLT, Nat.reduceEqDiff, UInt8.reduceToNat], by simp only [rB, rP, rQ, boolA, intA, resultA, resA, reduceIte, reduceCtorEq, Nat.reduceAdd, Nat.reduceLT, Nat.reduceEqDiff, UInt8.reduceToNat]; rfl, hW, h⟩ ?_
  rintro n t s' ih ⟨i, M', hn, t0, t7, t8, t9, t10, t11, t12, hW, h⟩
  cases n with
  | succ n =>
    have g0 : decide ((i : Int) < (k : Int)) = true := by rw [decide_eq_true_eq]; omega
    have ew : IntKind.i64.wrap ((i : Int) + 1) = ((i + 1 : Nat) : Int) := by
      rw [show (i : Int) + 1 = ((i + 1 : Nat) : Int) from by simp]
      exact wrap_nat (by omega)
    obtain ⟨b, Mb, eb, pb, h⟩ := ask_inv h
    repeat (first | with_reducible (refine w_one H ?_; constructor) | simp only [rB, rP, rQ, boolA, intA, resultA, resA, reduceIte, reduceCtorEq, Nat.reduceAdd, Nat.reduceLT, Nat.reduceEqDiff, UInt8.reduceToNat, pe4, pf4, b_eqi, b_nei, b_lt, b_le, b_gt, b_ge, fn_an0, fn_an1, fn_an4, fn_an5, bc_01, bc_012, bc_015, bc_0145, bc_0147, bc_016, bc_0167, bc_017, bc_03, bc_035, bc_0347, beq_self_eq_true, bne_self_eq_false, Int.reduceBEq, Int.reduceBNe, Int.reduceLT, Int.reduceLE, Int.reduceGT, decide_true, decide_false, eqB_self, la_cons, la_nil, b_plus, b_nb, eqS_nb, pu_nb, nebA_b, isBool_b, Bool.true_bne, Bool.false_bne, Bool.bne_true, Bool.bne_false, t0, t7, t8, t9, t10, t11, t12, g0])
    refine lface_c hW eb ?_
    intro s V hW hl hV
    by_cases hi : i + 1 < 8
    · have g1 : decide (((i + 1 : Nat) : Int) < 8) = true := by rw [decide_eq_true_eq]; omega
      rw [Nat.blt_eq.mpr hi, cond_true, Bool.and_eq_true] at pb
      have q1 := st_of pb.1
      have q2 := nu_of pb.2
      rw [show (i : Int) + 1 = ((i + 1 : Nat) : Int) from by simp] at q2
      repeat (first | with_reducible (refine w_one H ?_; constructor) | simp only [rB, rP, rQ, boolA, intA, resultA, resA, reduceIte, reduceCtorEq, Nat.reduceAdd, Nat.reduceLT, Nat.reduceEqDiff, UInt8.reduceToNat, pe4, pf4, b_eqi, b_nei, b_lt, b_le, b_gt, b_ge, fn_an0, fn_an1, fn_an4, fn_an5, bc_01, bc_012, bc_015, bc_0145, bc_0147, bc_016, bc_0167, bc_017, bc_03, bc_035, bc_0347, beq_self_eq_true, bne_self_eq_false, Int.reduceBEq, Int.reduceBNe, Int.reduceLT, Int.reduceLE, Int.reduceGT, decide_true, decide_false, eqB_self, la_cons, la_nil, b_plus, b_nb, eqS_nb, pu_nb, nebA_b, isBool_b, Bool.true_bne, Bool.false_bne, Bool.bne_true, Bool.bne_false, all_an, st_an hV.cells1.2, stA_an, an_g0, an_g1, an_g2, an_g3, an_g4, an_g5, fa_an0, fa_an1, fa_an2, fa_an3, fa_an4, fa_an5, ldO_an0, ldO_an1, ldO_an2, ldO_an3, ldO_an4, ldO_an5, ld_3, ld_9, ld_41, t0, t7, t8, t9, t10, t11, t12, g1, ew, q1, q2])
      exact ih n _ _ (by omega) ⟨i + 1, Mb, by omega, by simp only [rB, rP, rQ, boolA, intA, resultA, resA, reduceIte, reduceCtorEq, Nat.reduceAdd, Nat.reduceLT, Nat.reduceEqDiff, UInt8.reduceToNat, t0], by simp only [rB, rP, rQ, boolA, intA, resultA, resA, reduceIte, reduceCtorEq, Nat.reduceAdd, Nat.reduceLT, Nat.reduceEqDiff, UInt8.reduceToNat, t7], by simp only [rB, rP, rQ, boolA, intA, resultA, resA, reduceIte, reduceCtorEq, Nat.reduceAdd, Nat.reduceLT, Nat.reduceEqDiff, UInt8.reduceToNat, t8], by simp only [rB, rP, rQ, boolA, intA, resultA, resA, reduceIte, reduceCtorEq, Nat.reduceAdd, Nat.reduceLT, Nat.reduceEqDiff, UInt8.reduceToNat, t9], by simp only [rB, rP, rQ, boolA, intA, resultA, resA, reduceIte, reduceCtorEq, Nat.reduceAdd, Nat.reduceLT, Nat.reduceEqDiff, UInt8.reduceToNat, t10], by simp only [rB, rP, rQ, boolA, intA, resultA, resA, reduceIte, reduceCtorEq, Nat.reduceAdd, Nat.reduceLT, Nat.reduceEqDiff, UInt8.reduceToNat, t11], by simp only [rB, rP, rQ, boolA, intA, resultA, resA, reduceIte, reduceCtorEq, Nat.reduceAdd, Nat.reduceLT, Nat.reduceEqDiff, UInt8.reduceToNat], (hW.put _ _).sub (fun q hq => List.mem_cons_of_mem _ hq), h⟩
    · have g1 : decide (((i + 1 : Nat) : Int) < 8) = false := by rw [decide_eq_false_iff_not]; omega
      have hi' : Nat.blt (i + 1) 8 = false := by
        cases hb : Nat.blt (i + 1) 8 with
        | false => rfl
        | true => exact absurd (Nat.blt_eq.mp hb) hi
      rw [hi', cond_false] at pb
      have q1 := st_of pb
      repeat (first | with_reducible (refine w_one H ?_; constructor) | simp only [rB, rP, rQ, boolA, intA, resultA, resA, reduceIte, reduceCtorEq, Nat.reduceAdd, Nat.reduceLT, Nat.reduceEqDiff, UInt8.reduceToNat, pe4, pf4, b_eqi, b_nei, b_lt, b_le, b_gt, b_ge, fn_an0, fn_an1, fn_an4, fn_an5, bc_01, bc_012, bc_015, bc_0145, bc_0147, bc_016, bc_0167, bc_017, bc_03, bc_035, bc_0347, beq_self_eq_true, bne_self_eq_false, Int.reduceBEq, Int.reduceBNe, Int.reduceLT, Int.reduceLE, Int.reduceGT, decide_true, decide_false, eqB_self, la_cons, la_nil, b_plus, b_nb, eqS_nb, pu_nb, nebA_b, isBool_b, Bool.true_bne, Bool.false_bne, Bool.bne_true, Bool.bne_false, all_an, st_an hV.cells1.2, stA_an, an_g0, an_g1, an_g2, an_g3, an_g4, an_g5, fa_an0, fa_an1, fa_an2, fa_an3, fa_an4, fa_an5, ldO_an0, ldO_an1, ldO_an2, ldO_an3, ldO_an4, ldO_an5, ld_3, ld_9, ld_41, t0, t7, t8, t9, t10, t11, t12, g1, ew, q1])
      exact ih n _ _ (by omega) ⟨i + 1, Mb, by omega, by simp only [rB, rP, rQ, boolA, intA, resultA, resA, reduceIte, reduceCtorEq, Nat.reduceAdd, Nat.reduceLT, Nat.reduceEqDiff, UInt8.reduceToNat, t0], by simp only [rB, rP, rQ, boolA, intA, resultA, resA, reduceIte, reduceCtorEq, Nat.reduceAdd, Nat.reduceLT, Nat.reduceEqDiff, UInt8.reduceToNat, t7], by simp only [rB, rP, rQ, boolA, intA, resultA, resA, reduceIte, reduceCtorEq, Nat.reduceAdd, Nat.reduceLT, Nat.reduceEqDiff, UInt8.reduceToNat, t8], by simp only [rB, rP, rQ, boolA, intA, resultA, resA, reduceIte, reduceCtorEq, Nat.reduceAdd, Nat.reduceLT, Nat.reduceEqDiff, UInt8.reduceToNat, t9], by simp only [rB, rP, rQ, boolA, intA, resultA, resA, reduceIte, reduceCtorEq, Nat.reduceAdd, Nat.reduceLT, Nat.reduceEqDiff, UInt8.reduceToNat, t10], by simp only [rB, rP, rQ, boolA, intA, resultA, resA, reduceIte, reduceCtorEq, Nat.reduceAdd, Nat.reduceLT, Nat.reduceEqDiff, UInt8.reduceToNat, t11], by simp only [rB, rP, rQ, boolA, intA, resultA, resA, reduceIte, reduceCtorEq, Nat.reduceAdd, Nat.reduceLT, Nat.reduceEqDiff, UInt8.reduceToNat], (hW.put _ _).sub (fun q hq => List.mem_cons_of_mem _ hq), h⟩
  | zero =>
    have g0 : decide ((i : Int) < (k : Int)) = false := by rw [decide_eq_false_iff_not]; omega
    unfold fdsT at h
    obtain ⟨c1, N1, f1, r1, h⟩ := ask_inv h
    obtain ⟨c2, N2, f2, r2, h⟩ := ask_inv h
    obtain ⟨c3, N3, f3, r3, h⟩ := ask_inv h
    have r1 := st_of r1
    have r2 := st_of r2
    have r3 := st_of r3
    have g8 := hW.get2
    repeat (first | with_reducible (refine w_one H ?_; constructor) | simp only [rB, rP, rQ, boolA, intA, resultA, resA, reduceIte, reduceCtorEq, Nat.reduceAdd, Nat.reduceLT, Nat.reduceEqDiff, UInt8.reduceToNat, pe4, pf4, b_eqi, b_nei, b_lt, b_le, b_gt, b_ge, fn_an0, fn_an1, fn_an4, fn_an5, bc_01, bc_012, bc_015, bc_0145, bc_0147, bc_016, bc_0167, bc_017, bc_03, bc_035, bc_0347, beq_self_eq_true, bne_self_eq_false, Int.reduceBEq, Int.reduceBNe, Int.reduceLT, Int.reduceLE, Int.reduceGT, decide_true, decide_false, eqB_self, la_cons, la_nil, b_plus, b_nb, eqS_nb, pu_nb, nebA_b, isBool_b, Bool.true_bne, Bool.false_bne, Bool.bne_true, Bool.bne_false, t0, t7, t8, t9, t10, t11, t12, g0, g8, an_g0, an_g1, an_g2, an_g3, an_g4, an_g5, fa_an0, fa_an1, fa_an2, fa_an3, fa_an4, fa_an5, ldO_an0, ldO_an1, ldO_an2, ldO_an3, ldO_an4, ldO_an5, ld_3, ld_9, ld_41])
    refine lface_c hW f1 ?_
    intro sB VB hW hl hV
    have g8 := hW.get2
    have n8 := hW.ne2
    repeat (first | with_reducible (refine w_one H ?_; constructor) | simp only [rB, rP, rQ, boolA, intA, resultA, resA, reduceIte, reduceCtorEq, Nat.reduceAdd, Nat.reduceLT, Nat.reduceEqDiff, UInt8.reduceToNat, pe4, pf4, b_eqi, b_nei, b_lt, b_le, b_gt, b_ge, fn_an0, fn_an1, fn_an4, fn_an5, bc_01, bc_012, bc_015, bc_0145, bc_0147, bc_016, bc_0167, bc_017, bc_03, bc_035, bc_0347, beq_self_eq_true, bne_self_eq_false, Int.reduceBEq, Int.reduceBNe, Int.reduceLT, Int.reduceLE, Int.reduceGT, decide_true, decide_false, eqB_self, la_cons, la_nil, b_plus, b_nb, eqS_nb, pu_nb, nebA_b, isBool_b, Bool.true_bne, Bool.false_bne, Bool.bne_true, Bool.bne_false, all_an, st_an hV.cells1.2, stA_an, an_g0, an_g1, an_g2, an_g3, an_g4, an_g5, fa_an0, fa_an1, fa_an2, fa_an3, fa_an4, fa_an5, ldO_an0, ldO_an1, ldO_an2, ldO_an3, ldO_an4, ldO_an5, ld_3, ld_9, ld_41, g8, n8, t0, t7, t8, t9, t10, t11, t12])
    replace hW := hW.put (.cells (anL 0 0 0 0 [] nilS) 43 0) (.cells (anL c1.status c1.num c1.kind c1.mode c1.data VB) 43 0)
    refine lface_c hW f2 ?_
    intro sC VC hW hl hV
    have g8 := hW.get3
    have n8 := hW.ne3
    have g9 := hW.get2
    have n9 := hW.ne2
    have gA := hW.get1
    have nA := hW.ne1
    have gB := hW.get0
    have nB := hW.ne0
    repeat (first | with_reducible (refine w_one H ?_; constructor) | simp only [rB, rP, rQ, boolA, intA, resultA, resA, reduceIte, reduceCtorEq, Nat.reduceAdd, Nat.reduceLT, Nat.reduceEqDiff, UInt8.reduceToNat, pe4, pf4, b_eqi, b_nei, b_lt, b_le, b_gt, b_ge, fn_an0, fn_an1, fn_an4, fn_an5, bc_01, bc_012, bc_015, bc_0145, bc_0147, bc_016, bc_0167, bc_017, bc_03, bc_035, bc_0347, beq_self_eq_true, bne_self_eq_false, Int.reduceBEq, Int.reduceBNe, Int.reduceLT, Int.reduceLE, Int.reduceGT, decide_true, decide_false, eqB_self, la_cons, la_nil, b_plus, b_nb, eqS_nb, pu_nb, nebA_b, isBool_b, Bool.true_bne, Bool.false_bne, Bool.bne_true, Bool.bne_false, all_an, st_an hV.cells1.2, stA_an, an_g0, an_g1, an_g2, an_g3, an_g4, an_g5, fa_an0, fa_an1, fa_an2, fa_an3, fa_an4, fa_an5, ldO_an0, ldO_an1, ldO_an2, ldO_an3, ldO_an4, ldO_an5, ld_3, ld_9, ld_41, t0, t7, t8, t9, t10, t11, t12, g8, n8, g9, n9, gA, nA, gB, nB, r1, r2])
    replace hW := hW.put (.cells (anL 0 0 0 0 [] nilS) 43 0) (.cells (anL 12 c2.num c2.kind c2.mode c2.data VC) 43 0)
    refine lface_c hW f3 ?_
    intro sD VD hW hl hV
    repeat (first | with_reducible (refine w_one H ?_; constructor) | simp only [rB, rP, rQ, boolA, intA, resultA, resA, reduceIte, reduceCtorEq, Nat.reduceAdd, Nat.reduceLT, Nat.reduceEqDiff, UInt8.reduceToNat, pe4, pf4, b_eqi, b_nei, b_lt, b_le, b_gt, b_ge, fn_an0, fn_an1, fn_an4, fn_an5, bc_01, bc_012, bc_015, bc_0145, bc_0147, bc_016, bc_0167, bc_017, bc_03, bc_035, bc_0347, beq_self_eq_true, bne_self_eq_false, Int.reduceBEq, Int.reduceBNe, Int.reduceLT, Int.reduceLE, Int.reduceGT, decide_true, decide_false, eqB_self, la_cons, la_nil, b_plus, b_nb, eqS_nb, pu_nb, nebA_b, isBool_b, Bool.true_bne, Bool.false_bne, Bool.bne_true, Bool.bne_false, t0, t7, t8, t9, t10, t11, t12, r3, Tryz.results41])
    rfl
theorem fds1_c (z0 z1 : Int) {k : Nat} (ek : andI z1 15 = (k : Int)) (hk : k ≤ 15) (er : (IntKind.u64.wrap z0).tmod 3 = 1) {M : Md} {s : St} (hW : WL s M []) (h : fdsV1 M k = true) :
    (sem Tryz.prog).call 41 [.fn 62 [.ptr 13 0], .raw (.int .i64 z0), .raw (.int .i64 z1)] s (fun v _ => isTrue v) (fun _ _ => false) = true := by
  have H := ok4
  have m3 : (3 : Int) ≠ 0 := by decide
  unfold fdsV1 at h
  obtain ⟨a1, M1, e1, p1, h⟩ := ask_inv h
  have p1 := st_of p1
  obtain ⟨a2, M2, e2, p2, h⟩ := ask_inv h
  have p2 := st_of p2
  obtain ⟨a3, M3, e3, p3, h⟩ := ask_inv h
  simp only [Bool.and_eq_true] at p3
  have p3a := st_of p3.1
  have p3b := nu_of p3.2
  obtain ⟨a4, M4, e4, p4, h⟩ := ask_inv h
  have p4 := st_of p4
  obtain ⟨a5, M5, e5, p5, h⟩ := ask_inv h
  have p5 := nu_of p5
  obtain ⟨a6, M6, e6, p6, h⟩ := ask_inv h
  have p6 := dt_of p6
  obtain ⟨a7, M7, e7, p7, h⟩ := ask_inv h
  have p7 := st_of p7
  refine w_call H 164 fn_41 rfl rfl ?_
  repeat (first | with_reducible (refine w_one H ?_; constructor) | simp only [rB, rP, rQ, boolA, intA, resultA, resA, reduceIte, reduceCtorEq, Nat.reduceAdd, Nat.reduceLT, Nat.reduceEqDiff, UInt8.reduceToNat, pe4, pf4, b_eqi, b_nei, b_lt, b_le, b_gt, b_ge, fn_an0, fn_an1, fn_an4, fn_an5, bc_01, bc_012, bc_015, bc_0145, bc_0147, bc_016, bc_0167, bc_017, bc_03, bc_035, bc_0347, beq_self_eq_true, bne_self_eq_false, Int.reduceBEq, Int.reduceBNe, Int.reduceLT, Int.reduceLE, Int.reduceGT, decide_true, decide_false, eqB_self, la_cons, la_nil, b_plus, b_nb, eqS_nb, pu_nb, nebA_b, isBool_b, Bool.true_bne, Bool.false_bne, Bool.bne_true, Bool.bne_false] | (with_reducible refine lmake_c ok3 hW (by assumption) (by assumption) ?_; intro s hW hl) | (with_reducible refine lstatus_c ok3 hW (by assumption) (by assumption) ?_; intro s hW hl) | (with_reducible refine lwrite_c ok3 hW (by assumption) (by assumption) ?_; intro s hW hl) | (with_reducible refine lread_c ok3 hW (by assumption) (by assumption) ?_; intro s hW hl))
  refine lface_c hW e3 ?_
  intro s8 V8 hW hl8 hV
  repeat (first | with_reducible (refine w_one H ?_; constructor) | simp only [rB, rP, rQ, boolA, intA, resultA, resA, reduceIte, reduceCtorEq, Nat.reduceAdd, Nat.reduceLT, Nat.reduceEqDiff, UInt8.reduceToNat, pe4, pf4, b_eqi, b_nei, b_lt, b_le, b_gt, b_ge, fn_an0, fn_an1, fn_an4, fn_an5, bc_01, bc_012, bc_015, bc_0145, bc_0147, bc_016, bc_0167, bc_017, bc_03, bc_035, bc_0347, beq_self_eq_true, bne_self_eq_false, Int.reduceBEq, Int.reduceBNe, Int.reduceLT, Int.reduceLE, Int.reduceGT, decide_true, decide_false, eqB_self, la_cons, la_nil, b_plus, b_nb, eqS_nb, pu_nb, nebA_b, isBool_b, Bool.true_bne, Bool.false_bne, Bool.bne_true, Bool.bne_false, all_an, st_an hV.cells1.2, stA_an, o_cvt, toU_int, b_rem, eqS_rem, rm_eq m3, u64_int, remA_int, er, i64_int, p3a, p3b])
  replace hW := hW.put (.cells (anL 0 0 0 0 [] nilS) 43 0) (.cells (anL 0 0 a3.kind a3.mode a3.data V8) 43 0)
  refine lface_c hW e4 ?_
  intro s V hW hl hV
  have g8 := hW.get0
  repeat (first | with_reducible (refine w_one H ?_; constructor) | simp only [rB, rP, rQ, boolA, intA, resultA, resA, reduceIte, reduceCtorEq, Nat.reduceAdd, Nat.reduceLT, Nat.reduceEqDiff, UInt8.reduceToNat, pe4, pf4, b_eqi, b_nei, b_lt, b_le, b_gt, b_ge, fn_an0, fn_an1, fn_an4, fn_an5, bc_01, bc_012, bc_015, bc_0145, bc_0147, bc_016, bc_0167, bc_017, bc_03, bc_035, bc_0347, beq_self_eq_true, bne_self_eq_false, Int.reduceBEq, Int.reduceBNe, Int.reduceLT, Int.reduceLE, Int.reduceGT, decide_true, decide_false, eqB_self, la_cons, la_nil, b_plus, b_nb, eqS_nb, pu_nb, nebA_b, isBool_b, Bool.true_bne, Bool.false_bne, Bool.bne_true, Bool.bne_false, p4, g8, an_g0, an_g1, an_g2, an_g3, an_g4, an_g5, fa_an0, fa_an1, fa_an2, fa_an3, fa_an4, fa_an5, ldO_an0, ldO_an1, ldO_an2, ldO_an3, ldO_an4, ldO_an5, ld_3, ld_9, ld_41])
  refine lface_c hW e5 ?_
  intro s9 V9 hW hl9 hV
  have g8 := hW.get0
  have n8 := hW.ne0
  repeat (first | with_reducible (refine w_one H ?_; constructor) | simp only [rB, rP, rQ, boolA, intA, resultA, resA, reduceIte, reduceCtorEq, Nat.reduceAdd, Nat.reduceLT, Nat.reduceEqDiff, UInt8.reduceToNat, pe4, pf4, b_eqi, b_nei, b_lt, b_le, b_gt, b_ge, fn_an0, fn_an1, fn_an4, fn_an5, bc_01, bc_012, bc_015, bc_0145, bc_0147, bc_016, bc_0167, bc_017, bc_03, bc_035, bc_0347, beq_self_eq_true, bne_self_eq_false, Int.reduceBEq, Int.reduceBNe, Int.reduceLT, Int.reduceLE, Int.reduceGT, decide_true, decide_false, eqB_self, la_cons, la_nil, b_plus, b_nb, eqS_nb, pu_nb, nebA_b, isBool_b, Bool.true_bne, Bool.false_bne, Bool.bne_true, Bool.bne_false, all_an, st_an hV.cells1.2, stA_an, an_g0, an_g1, an_g2, an_g3, an_g4, an_g5, fa_an0, fa_an1, fa_an2, fa_an3, fa_an4, fa_an5, ldO_an0, ldO_an1, ldO_an2, ldO_an3, ldO_an4, ldO_an5, ld_3, ld_9, ld_41, p5, g8, n8])
  replace hW := hW.put (.cells (anL 0 0 0 0 [] nilS) 43 0) (.cells (anL a5.status 1 a5.kind a5.mode a5.data V9) 43 0)
  refine lface_c hW e6 ?_
  intro sA VA hW hlA hV
  repeat (first | with_reducible (refine w_one H ?_; constructor) | simp only [rB, rP, rQ, boolA, intA, resultA, resA, reduceIte, reduceCtorEq, Nat.reduceAdd, Nat.reduceLT, Nat.reduceEqDiff, UInt8.reduceToNat, pe4, pf4, b_eqi, b_nei, b_lt, b_le, b_gt, b_ge, fn_an0, fn_an1, fn_an4, fn_an5, bc_01, bc_012, bc_015, bc_0145, bc_0147, bc_016, bc_0167, bc_017, bc_03, bc_035, bc_0347, beq_self_eq_true, bne_self_eq_false, Int.reduceBEq, Int.reduceBNe, Int.reduceLT, Int.reduceLE, Int.reduceGT, decide_true, decide_false, eqB_self, la_cons, la_nil, b_plus, b_nb, eqS_nb, pu_nb, nebA_b, isBool_b, Bool.true_bne, Bool.false_bne, Bool.bne_true, Bool.bne_false, all_an, st_an hV.cells1.2, stA_an, p6])
  replace hW := hW.put (.cells (anL 0 0 0 0 [] nilS) 43 0) (.cells (anL a6.status a6.num a6.kind a6.mode [97, 98, 99, 100] VA) 43 0)
  refine lmake_c ok3 hW e7 p7 ?_
  intro s hW hl
  repeat (first | with_reducible (refine w_one H ?_; constructor) | simp only [rB, rP, rQ, boolA, intA, resultA, resA, reduceIte, reduceCtorEq, Nat.reduceAdd, Nat.reduceLT, Nat.reduceEqDiff, UInt8.reduceToNat, pe4, pf4, b_eqi, b_nei, b_lt, b_le, b_gt, b_ge, fn_an0, fn_an1, fn_an4, fn_an5, bc_01, bc_012, bc_015, bc_0145, bc_0147, bc_016, bc_0167, bc_017, bc_03, bc_035, bc_0347, beq_self_eq_true, bne_self_eq_false, Int.reduceBEq, Int.reduceBNe, Int.reduceLT, Int.reduceLE, Int.reduceGT, decide_true, decide_false, eqB_self, la_cons, la_nil, b_plus, b_nb, eqS_nb, pu_nb, nebA_b, isBool_b, Bool.true_bne, Bool.false_bne, Bool.bne_true, Bool.bne_false, ek])
  refine w_loop_ind H (fun n t s => ∃ i M, n + i = k ∧ tg t 0 = .fn 62 [.ptr 13 0] ∧ tg t 7 = .raw (.bool true) ∧ tg t 8 = .ptr s8.nx 0 ∧ tg t 9 = .ptr s9.nx 0 ∧ tg t 10 = .ptr sA.nx 0 ∧ tg t 11 = .raw (.int .i64 (k : Int)) ∧ tg t 12 = .raw (.int .i64 (i : Int)) ∧ WL s M [(sA.nx, .cells (anL a6.status a6.num a6.kind a6.mode [97, 98, 99, 100] VA) 43 0), (s9.nx, .cells (anL a5.status 1 a5.kind a5.mode a5.data V9) 43 0), (s8.nx, .cells (anL 0 0 a3.kind a3.mode a3.data V8) 43 0)] ∧ fdsT n i M = true) (n := k)
    ⟨0, _, rfl, by simp only [rB, rP, rQ, boolA, intA, resultA, resA, reduceIte, reduceCtorEq, Nat.reduceAdd, Nat.reduceLT, Nat.reduceEqDiff, UInt8.reduceToNat], by simp only [rB, rP, rQ, boolA, intA, resultA, resA, reduceIte, reduceCtorEq, Nat.reduceAdd, Nat.reduceLT, Nat.reduceEqDiff, UInt8.reduceToNat], by simp only [rB, rP, rQ, boolA, intA, resultA, resA, reduceIte, reduceCtorEq, Nat.reduceAdd, Nat.reduceLT, Nat.reduceEqDiff, UInt8.reduceToNat], by simp only [rB, rP, rQ, boolA, intA, resultA, resA, reduceIte, reduceCtorEq, Nat.reduceAdd, Nat.reduceLT, Nat.reduceEqDiff, UInt8.reduceToNat], by simp only [rB, rP, rQ, boolA, intA, resultA, resA, reduceIte, reduceCtorEq, Nat.reduceAdd, Nat.reduceLT, Nat.reduceEqDiff, UInt8.reduceToNat], by simp only [rB, rP, rQ, boolA, intA, resultA, resA, reduceIte, reduceCtorEq, Nat.reduceAdd, Nat.reduceLT, Nat.reduceEqDiff, UInt8.reduceToNat], by simp only [rB, rP, rQ, boolA, intA, resultA, resA, reduceIte, reduceCtorEq, Nat.reduceAdd, Nat.reduceLT, Nat.reduceEqDiff, UInt8.reduceToNat]; rfl, hW, h⟩ ?_
  rintro n t s' ih ⟨i, M', hn, t0, t7, t8, t9, t10, t11, t12, hW, h⟩
  cases n with
  | succ n =>
    have g0 : decide ((i : Int) < (k : Int)) = true := by rw [decide_eq_true_eq]; omega
    have ew : IntKind.i64.wrap ((i : Int) + 1) = ((i + 1 : Nat) : Int) := by
      rw [show (i : Int) + 1 = ((i + 1 : Nat) : Int) from by simp]
      exact wrap_nat (by omega)
    obtain ⟨b, Mb, eb, pb, h⟩ := ask_inv h
    repeat (first | with_reducible (refine w_one H ?_; constructor) | simp only [rB, rP, rQ, boolA, intA, resultA, resA, reduceIte, reduceCtorEq, Nat.reduceAdd, Nat.reduceLT, Nat.reduceEqDiff, UInt8.reduceToNat, pe4, pf4, b_eqi, b_nei, b_lt, b_le, b_gt, b_ge, fn_an0, fn_an1, fn_an4, fn_an5, bc_01, bc_012, bc_015, bc_0145, bc_0147, bc_016, bc_0167, bc_017, bc_03, bc_035, bc_0347, beq_self_eq_true, bne_self_eq_false, Int.reduceBEq, Int.reduceBNe, Int.reduceLT, Int.reduceLE, Int.reduceGT, decide_true, decide_false, eqB_self, la_cons, la_nil, b_plus, b_nb, eqS_nb, pu_nb, nebA_b, isBool_b, Bool.true_bne, Bool.false_bne, Bool.bne_true, Bool.bne_false, t0, t7, t8, t9, t10, t11, t12, g0])
    refine lface_c hW eb ?_
    intro s V hW hl hV
    by_cases hi : i + 1 < 8
    · have g1 : decide (((i + 1 : Nat) : Int) < 8) = true := by rw [decide_eq_true_eq]; omega
      rw [Nat.blt_eq.mpr hi, cond_true, Bool.and_eq_true] at pb
      have q1 := st_of pb.1
      have q2 := nu_of pb.2
      rw [show (i : Int) + 1 = ((i + 1 : Nat) : Int) from by simp] at q2
      repeat (first | with_reducible (refine w_one H ?_; constructor) | simp only [rB, rP, rQ, boolA, intA, resultA, resA, reduceIte, reduceCtorEq, Nat.reduceAdd, Nat.reduceLT, Nat.reduceEqDiff, UInt8.reduceToNat, pe4, pf4, b_eqi, b_nei, b_lt, b_le, b_gt, b_ge, fn_an0, fn_an1, fn_an4, fn_an5, bc_01, bc_012, bc_015, bc_0145, bc_0147, bc_016, bc_0167, bc_017, bc_03, bc_035, bc_0347, beq_self_eq_true, bne_self_eq_false, Int.reduceBEq, Int.reduceBNe, Int.reduceLT, Int.reduceLE, Int.reduceGT, decide_true, decide_false, eqB_self, la_cons, la_nil, b_plus, b_nb, eqS_nb, pu_nb, nebA_b, isBool_b, Bool.true_bne, Bool.false_bne, Bool.bne_true, Bool.bne_false, all_an, st_an hV.cells1.2, stA_an, an_g0, an_g1, an_g2, an_g3, an_g4, an_g5, fa_an0, fa_an1, fa_an2, fa_an3, fa_an4, fa_an5, ldO_an0, ldO_an1, ldO_an2, ldO_an3, ldO_an4, ldO_an5, ld_3, ld_9, ld_41, t0, t7, t8, t9, t10, t11, t12, g1, ew, q1, q2])
      exact ih n _ _ (by omega) ⟨i + 1, Mb, by omega, by simp only [rB, rP, rQ, boolA, intA, resultA, resA, reduceIte, reduceCtorEq, Nat.reduceAdd, Nat.reduceLT, Nat.reduceEqDiff, UInt8.reduceToNat, t0], by simp only [rB, rP, rQ, boolA, intA, resultA, resA, reduceIte, reduceCtorEq, Nat.reduceAdd, Nat.reduceLT, Nat.reduceEqDiff, UInt8.reduceToNat, t7], by simp only [rB, rP, rQ, boolA, intA, resultA, resA, reduceIte, reduceCtorEq, Nat.reduceAdd, Nat.reduceLT, Nat.reduceEqDiff, UInt8.reduceToNat, t8], by simp only [rB, rP, rQ, boolA, intA, resultA, resA, reduceIte, reduceCtorEq, Nat.reduceAdd, Nat.reduceLT, Nat.reduceEqDiff, UInt8.reduceToNat, t9], by simp only [rB, rP, rQ, boolA, intA, resultA, resA, reduceIte, reduceCtorEq, Nat.reduceAdd, Nat.reduceLT, Nat.reduceEqDiff, UInt8.reduceToNat, t10], by simp only [rB, rP, rQ, boolA, intA, resultA, resA, reduceIte, reduceCtorEq, Nat.reduceAdd, Nat.reduceLT, Nat.reduceEqDiff, UInt8.reduceToNat, t11], by simp only [rB, rP, rQ, boolA, intA, resultA, resA, reduceIte, reduceCtorEq, Nat.reduceAdd, Nat.reduceLT, Nat.reduceEqDiff, UInt8.reduceToNat], (hW.put _ _).sub (fun q hq => List.mem_cons_of_mem _ hq), h⟩
    · have g1 : decide (((i + 1 : Nat) : Int) < 8) = false := by rw [decide_eq_false_iff_not]; omega
      have hi' : Nat.blt (i + 1) 8 = false := by
        cases hb : Nat.blt (i + 1) 8 with
        | false => rfl
        | true => exact absurd (Nat.blt_eq.mp hb) hi
      rw [hi', cond_false] at pb
      have q1 := st_of pb
      repeat (first | with_reducible (refine w_one H ?_; constructor) | simp only [rB, rP, rQ, boolA, intA, resultA, resA, reduceIte, reduceCtorEq, Nat.reduceAdd, Nat.reduceLT, Nat.reduceEqDiff, UInt8.reduceToNat, pe4, pf4, b_eqi, b_nei, b_lt, b_le, b_gt, b_ge, fn_an0, fn_an1, fn_an4, fn_an5, bc_01, bc_012, bc_015, bc_0145, bc_0147, bc_016, bc_0167, bc_017, bc_03, bc_035, bc_0347, beq_self_eq_true, bne_self_eq_false, Int.reduceBEq, Int.reduceBNe, Int.reduceLT, Int.reduceLE, Int.reduceGT, decide_true, decide_false, eqB_self, la_cons, la_nil, b_plus, b_nb, eqS_nb, pu_nb, nebA_b, isBool_b, Bool.true_bne, Bool.false_bne, Bool.bne_true, Bool.bne_false, all_an, st_an hV.cells1.2, stA_an, an_g0, an_g1, an_g2, an_g3, an_g4, an_g5, fa_an0, fa_an1, fa_an2, fa_an3, fa_an4, fa_an5, ldO_an0, ldO_an1, ldO_an2, ldO_an3, ldO_an4, ldO_an5, ld_3, ld_9, ld_41, t0, t7, t8, t9, t10, t11, t12, g1, ew, q1])
      exact ih n _ _ (by omega) ⟨i + 1, Mb, by omega, by simp only [rB, rP, rQ, boolA, intA, resultA, resA, reduceIte, reduceCtorEq, Nat.reduceAdd, Nat.reduceLT, Nat.reduceEqDiff, UInt8.reduceToNat, t0], by simp only [rB, rP, rQ, boolA, intA, resultA, resA, reduceIte, reduceCtorEq, Nat.reduceAdd, Nat.reduceLT, Nat.reduceEqDiff, UInt8.reduceToNat, t7], by simp only [rB, rP, rQ, boolA, intA, resultA, resA, reduceIte, reduceCtorEq, Nat.reduceAdd, Nat.reduceLT, Nat.reduceEqDiff, UInt8.reduceToNat, t8], by simp only [rB, rP, rQ, boolA, intA, resultA, resA, reduceIte, reduceCtorEq, Nat.reduceAdd, Nat.reduceLT, Nat.reduceEqDiff, UInt8.reduceToNat, t9], by simp only [rB, rP, rQ, boolA, intA, resultA, resA, reduceIte, reduceCtorEq, Nat.reduceAdd, Nat.reduceLT, Nat.reduceEqDiff, UInt8.reduceToNat, t10], by simp only [rB, rP, rQ, boolA, intA, resultA, resA, reduceIte, reduceCtorEq, Nat.reduceAdd, Nat.reduceLT, Nat.reduceEqDiff, UInt8.reduceToNat, t11], by simp only [rB, rP, rQ, boolA, intA, resultA, resA, reduceIte, reduceCtorEq, Nat.reduceAdd, Nat.reduceLT, Nat.reduceEqDiff, UInt8.reduceToNat], (hW.put _ _).sub (fun q hq => List.mem_cons_of_mem _ hq), h⟩
  | zero =>
    have g0 : decide ((i : Int) < (k : Int)) = false := by rw [decide_eq_false_iff_not]; omega
    unfold fdsT at h
    obtain ⟨c1, N1, f1, r1, h⟩ := ask_inv h
    obtain ⟨c2, N2, f2, r2, h⟩ := ask_inv h
    obtain ⟨c3, N3, f3, r3, h⟩ := ask_inv h
    have r1 := st_of r1
    have r2 := st_of r2
    have r3 := st_of r3
    have g8 := hW.get2
    repeat (first | with_reducible (refine w_one H ?_; constructor) | simp only [rB, rP, rQ, boolA, intA, resultA, resA, reduceIte, reduceCtorEq, Nat.reduceAdd, Nat.reduceLT, Nat.reduceEqDiff, UInt8.reduceToNat, pe4, pf4, b_eqi, b_nei, b_lt, b_le, b_gt, b_ge, fn_an0, fn_an1, fn_an4, fn_an5, bc_01, bc_012, bc_015, bc_0145, bc_0147, bc_016, bc_0167, bc_017, bc_03, bc_035, bc_0347, beq_self_eq_true, bne_self_eq_false, Int.reduceBEq, Int.reduceBNe, Int.reduceLT, Int.reduceLE, Int.reduceGT, decide_true, decide_false, eqB_self, la_cons, la_nil, b_plus, b_nb, eqS_nb, pu_nb, nebA_b, isBool_b, Bool.true_bne, Bool.false_bne, Bool.bne_true, Bool.bne_false, t0, t7, t8, t9, t10, t11, t12, g0, g8, an_g0, an_g1, an_g2, an_g3, an_g4, an_g5, fa_an0, fa_an1, fa_an2, fa_an3, fa_an4, fa_an5, ldO_an0, ldO_an1, ldO_an2, ldO_an3, ldO_an4, ldO_an5, ld_3, ld_9, ld_41])
    refine lface_c hW f1 ?_
    intro sB VB hW hl hV
    have g8 := hW.get2
    have n8 := hW.ne2
    repeat (first | with_reducible (refine w_one H ?_; constructor) | simp only [rB, rP, rQ, boolA, intA, resultA, resA, reduceIte, reduceCtorEq, Nat.reduceAdd, Nat.reduceLT, Nat.reduceEqDiff, UInt8.reduceToNat, pe4, pf4, b_eqi, b_nei, b_lt, b_le, b_gt, b_ge, fn_an0, fn_an1, fn_an4, fn_an5, bc_01, bc_012, bc_015, bc_0145, bc_0147, bc_016, bc_0167, bc_017, bc_03, bc_035, bc_0347, beq_self_eq_true, bne_self_eq_false, Int.reduceBEq, Int.reduceBNe, Int.reduceLT, Int.reduceLE, Int.reduceGT, decide_true, decide_false, eqB_self, la_cons, la_nil, b_plus, b_nb, eqS_nb, pu_nb, nebA_b, isBool_b, Bool.true_bne, Bool.false_bne, Bool.bne_true, Bool.bne_false, all_an, st_an hV.cells1.2, stA_an, an_g0, an_g1, an_g2, an_g3, an_g4, an_g5, fa_an0, fa_an1, fa_an2, fa_an3, fa_an4, fa_an5, ldO_an0, ldO_an1, ldO_an2, ldO_an3, ldO_an4, ldO_an5, ld_3, ld_9, ld_41, g8, n8, t0, t7, t8, t9, t10, t11, t12])
    replace hW := hW.put (.cells (anL 0 0 0 0 [] nilS) 43 0) (.cells (anL c1.status c1.num c1.kind c1.mode c1.data VB) 43 0)
    refine lface_c hW f2 ?_
    intro sC VC hW hl hV
    have g8 := hW.get3
    have n8 := hW.ne3
    have g9 := hW.get2
    have n9 := hW.ne2
    have gA := hW.get1
    have nA := hW.ne1
    have gB := hW.get0
    have nB := hW.ne0
    repeat (first | with_reducible (refine w_one H ?_; constructor) | simp only [rB, rP, rQ, boolA, intA, resultA, resA, reduceIte, reduceCtorEq, Nat.reduceAdd, Nat.reduceLT, Nat.reduceEqDiff, UInt8.reduceToNat, pe4, pf4, b_eqi, b_nei, b_lt, b_le, b_gt, b_ge, fn_an0, fn_an1, fn_an4, fn_an5, bc_01, bc_012, bc_015, bc_0145, bc_0147, bc_016, bc_0167, bc_017, bc_03, bc_035, bc_0347, beq_self_eq_true, bne_self_eq_false, Int.reduceBEq, Int.reduceBNe, Int.reduceLT, Int.reduceLE, Int.reduceGT, decide_true, decide_false, eqB_self, la_cons, la_nil, b_plus, b_nb, eqS_nb, pu_nb, nebA_b, isBool_b, Bool.true_bne, Bool.false_bne, Bool.bne_true, Bool.bne_false, all_an, st_an hV.cells1.2, stA_an, an_g0, an_g1, an_g2, an_g3, an_g4, an_g5, fa_an0, fa_an1, fa_an2, fa_an3, fa_an4, fa_an5, ldO_an0, ldO_an1, ldO_an2, ldO_an3, ldO_an4, ldO_an5, ld_3, ld_9, ld_41, t0, t7, t8, t9, t10, t11, t12, g8, n8, g9, n9, gA, nA, gB, nB, r1, r2])
    replace hW := hW.put (.cells (anL 0 0 0 0 [] nilS) 43 0) (.cells (anL 12 c2.num c2.kind c2.mode c2.data VC) 43 0)
    refine lface_c hW f3 ?_
    intro sD VD hW hl hV
    repeat (first | with_reducible (refine w_one H ?_; constructor) | simp only [rB, rP, rQ, boolA, intA, resultA, resA, reduceIte, reduceCtorEq, Nat.reduceAdd, Nat.reduceLT, Nat.reduceEqDiff, UInt8.reduceToNat, pe4, pf4, b_eqi, b_nei, b_lt, b_le, b_gt, b_ge, fn_an0, fn_an1, fn_an4, fn_an5, bc_01, bc_012, bc_015, bc_0145, bc_0147, bc_016, bc_0167, bc_017, bc_03, bc_035, bc_0347, beq_self_eq_true, bne_self_eq_false, Int.reduceBEq, Int.reduceBNe, Int.reduceLT, Int.reduceLE, Int.reduceGT, decide_true, decide_false, eqB_self, la_cons, la_nil, b_plus, b_nb, eqS_nb, pu_nb, nebA_b, isBool_b, Bool.true_bne, Bool.false_bne, Bool.bne_true, Bool.bne_false, t0, t7, t8, t9, t10, t11, t12, r3, Tryz.results41])
    rfl
theorem fds2_c (z0 z1 : Int) {k : Nat} (ek : andI z1 15 = (k : Int)) (hk : k ≤ 15) (er : (IntKind.u64.wrap z0).tmod 3 = 2) {M : Md} {s : St} (hW : WL s M []) (h : fdsV2 M k = true) :
    (sem Tryz.prog).call 41 [.fn 62 [.ptr 13 0], .raw (.int .i64 z0), .raw (.int .i64 z1)] s (fun v _ => isTrue v) (fun _ _ => false) = true := by
  have H := ok4
  have m3 : (3 : Int) ≠ 0 := by decide
  unfold fdsV2 at h
  obtain ⟨a1, M1, e1, p1, h⟩ := ask_inv h
  have p1 := st_of p1
  obtain ⟨a2, M2, e2, p2, h⟩ := ask_inv h
  have p2 := st_of p2
  obtain ⟨a3, M3, e3, p3, h⟩ := ask_inv h
  simp only [Bool.and_eq_true] at p3
  have p3a := st_of p3.1
  have p3b := nu_of p3.2
  obtain ⟨a4, M4, e4, p4, h⟩ := ask_inv h
  have p4 := st_of p4
  obtain ⟨a5, M5, e5, p5, h⟩ := ask_inv h
  have p5 := st_of p5
  obtain ⟨a6, M6, e6, p6, h⟩ := ask_inv h
  have p6 := nu_of p6
  obtain ⟨a7, M7, e7, p7, h⟩ := ask_inv h
  have p7 := dt_of p7
  obtain ⟨a8, M8, e8, p8, h⟩ := ask_inv h
  have p8 := st_of p8
  refine w_call H 164 fn_41 rfl rfl ?_
  repeat (first | with_reducible (refine w_one H ?_; constructor) | simp only [rB, rP, rQ, boolA, intA, resultA, resA, reduceIte, reduceCtorEq, Nat.reduceAdd, Nat.reduceLT, Nat.reduceEqDiff, UInt8.reduceToNat, pe4, pf4, b_eqi, b_nei, b_lt, b_le, b_gt, b_ge, fn_an0, fn_an1, fn_an4, fn_an5, bc_01, bc_012, bc_015, bc_0145, bc_0147, bc_016, bc_0167, bc_017, bc_03, bc_035, bc_0347, beq_self_eq_true, bne_self_eq_false, Int.reduceBEq, Int.reduceBNe, Int.reduceLT, Int.reduceLE, Int.reduceGT, decide_true, decide_false, eqB_self, la_cons, la_nil, b_plus, b_nb, eqS_nb, pu_nb, nebA_b, isBool_b, Bool.true_bne, Bool.false_bne, Bool.bne_true, Bool.bne_false] | (with_reducible refine lmake_c ok3 hW (by assumption) (by assumption) ?_; intro s hW hl) | (with_reducible refine lstatus_c ok3 hW (by assumption) (by assumption) ?_; intro s hW hl) | (with_reducible refine lwrite_c ok3 hW (by assumption) (by assumption) ?_; intro s hW hl) | (with_reducible refine lread_c ok3 hW (by assumption) (by assumption) ?_; intro s hW hl))
  refine lface_c hW e3 ?_
  intro s8 V8 hW hl8 hV
  repeat (first | with_reducible (refine w_one H ?_; constructor) | simp only [rB, rP, rQ, boolA, intA, resultA, resA, reduceIte, reduceCtorEq, Nat.reduceAdd, Nat.reduceLT, Nat.reduceEqDiff, UInt8.reduceToNat, pe4, pf4, b_eqi, b_nei, b_lt, b_le, b_gt, b_ge, fn_an0, fn_an1, fn_an4, fn_an5, bc_01, bc_012, bc_015, bc_0145, bc_0147, bc_016, bc_0167, bc_017, bc_03, bc_035, bc_0347, beq_self_eq_true, bne_self_eq_false, Int.reduceBEq, Int.reduceBNe, Int.reduceLT, Int.reduceLE, Int.reduceGT, decide_true, decide_false, eqB_self, la_cons, la_nil, b_plus, b_nb, eqS_nb, pu_nb, nebA_b, isBool_b, Bool.true_bne, Bool.false_bne, Bool.bne_true, Bool.bne_false, all_an, st_an hV.cells1.2, stA_an, o_cvt, toU_int, b_rem, eqS_rem, rm_eq m3, u64_int, remA_int, er, i64_int, p3a, p3b])
  replace hW := hW.put (.cells (anL 0 0 0 0 [] nilS) 43 0) (.cells (anL 0 0 a3.kind a3.mode a3.data V8) 43 0)
  refine lmake_c ok3 hW e4 p4 ?_
  intro s hW hl
  have g8 := hW.get0
  repeat (first | with_reducible (refine w_one H ?_; constructor) | simp only [rB, rP, rQ, boolA, intA, resultA, resA, reduceIte, reduceCtorEq, Nat.reduceAdd, Nat.reduceLT, Nat.reduceEqDiff, UInt8.reduceToNat, pe4, pf4, b_eqi, b_nei, b_lt, b_le, b_gt, b_ge, fn_an0, fn_an1, fn_an4, fn_an5, bc_01, bc_012, bc_015, bc_0145, bc_0147, bc_016, bc_0167, bc_017, bc_03, bc_035, bc_0347, beq_self_eq_true, bne_self_eq_false, Int.reduceBEq, Int.reduceBNe, Int.reduceLT, Int.reduceLE, Int.reduceGT, decide_true, decide_false, eqB_self, la_cons, la_nil, b_plus, b_nb, eqS_nb, pu_nb, nebA_b, isBool_b, Bool.true_bne, Bool.false_bne, Bool.bne_true, Bool.bne_false, g8])
  refine lface_c hW e5 ?_
  intro s V hW hl hV
  have g8 := hW.get0
  repeat (first | with_reducible (refine w_one H ?_; constructor) | simp only [rB, rP, rQ, boolA, intA, resultA, resA, reduceIte, reduceCtorEq, Nat.reduceAdd, Nat.reduceLT, Nat.reduceEqDiff, UInt8.reduceToNat, pe4, pf4, b_eqi, b_nei, b_lt, b_le, b_gt, b_ge, fn_an0, fn_an1, fn_an4, fn_an5, bc_01, bc_012, bc_015, bc_0145, bc_0147, bc_016, bc_0167, bc_017, bc_03, bc_035, bc_0347, beq_self_eq_true, bne_self_eq_false, Int.reduceBEq, Int.reduceBNe, Int.reduceLT, Int.reduceLE, Int.reduceGT, decide_true, decide_false, eqB_self, la_cons, la_nil, b_plus, b_nb, eqS_nb, pu_nb, nebA_b, isBool_b, Bool.true_bne, Bool.false_bne, Bool.bne_true, Bool.bne_false, p5, g8, an_g0, an_g1, an_g2, an_g3, an_g4, an_g5, fa_an0, fa_an1, fa_an2, fa_an3, fa_an4, fa_an5, ldO_an0, ldO_an1, ldO_an2, ldO_an3, ldO_an4, ldO_an5, ld_3, ld_9, ld_41])
  refine lface_c hW e6 ?_
  intro s9 V9 hW hl9 hV
  have g8 := hW.get0
  have n8 := hW.ne0
  repeat (first | with_reducible (refine w_one H ?_; constructor) | simp only [rB, rP, rQ, boolA, intA, resultA, resA, reduceIte, reduceCtorEq, Nat.reduceAdd, Nat.reduceLT, Nat.reduceEqDiff, UInt8.reduceToNat, pe4, pf4, b_eqi, b_nei, b_lt, b_le, b_gt, b_ge, fn_an0, fn_an1, fn_an4, fn_an5, bc_01, bc_012, bc_015, bc_0145, bc_0147, bc_016, bc_0167, bc_017, bc_03, bc_035, bc_0347, beq_self_eq_true, bne_self_eq_false, Int.reduceBEq, Int.reduceBNe, Int.reduceLT, Int.reduceLE, Int.reduceGT, decide_true, decide_false, eqB_self, la_cons, la_nil, b_plus, b_nb, eqS_nb, pu_nb, nebA_b, isBool_b, Bool.true_bne, Bool.false_bne, Bool.bne_true, Bool.bne_false, all_an, st_an hV.cells1.2, stA_an, an_g0, an_g1, an_g2, an_g3, an_g4, an_g5, fa_an0, fa_an1, fa_an2, fa_an3, fa_an4, fa_an5, ldO_an0, ldO_an1, ldO_an2, ldO_an3, ldO_an4, ldO_an5, ld_3, ld_9, ld_41, p6, g8, n8])
  replace hW := hW.put (.cells (anL 0 0 0 0 [] nilS) 43 0) (.cells (anL a6.status 1 a6.kind a6.mode a6.data V9) 43 0)
  refine lface_c hW e7 ?_
  intro sA VA hW hlA hV
  repeat (first | with_reducible (refine w_one H ?_; constructor) | simp only [rB, rP, rQ, boolA, intA, resultA, resA, reduceIte, reduceCtorEq, Nat.reduceAdd, Nat.reduceLT, Nat.reduceEqDiff, UInt8.reduceToNat, pe4, pf4, b_eqi, b_nei, b_lt, b_le, b_gt, b_ge, fn_an0, fn_an1, fn_an4, fn_an5, bc_01, bc_012, bc_015, bc_0145, bc_0147, bc_016, bc_0167, bc_017, bc_03, bc_035, bc_0347, beq_self_eq_true, bne_self_eq_false, Int.reduceBEq, Int.reduceBNe, Int.reduceLT, Int.reduceLE, Int.reduceGT, decide_true, decide_false, eqB_self, la_cons, la_nil, b_plus, b_nb, eqS_nb, pu_nb, nebA_b, isBool_b, Bool.true_bne, Bool.false_bne, Bool.bne_true, Bool.bne_false, all_an, st_an hV.cells1.2, stA_an, p7])
  replace hW := hW.put (.cells (anL 0 0 0 0 [] nilS) 43 0) (.cells (anL a7.status a7.num a7.kind a7.mode [97, 98, 99, 100] VA) 43 0)
  refine lmake_c ok3 hW e8 p8 ?_
  intro s hW hl
  repeat (first | with_reducible (refine w_one H ?_; constructor) | simp only [rB, rP, rQ, boolA, intA, resultA, resA, reduceIte, reduceCtorEq, Nat.reduceAdd, Nat.reduceLT, Nat.reduceEqDiff, UInt8.reduceToNat, pe4, pf4, b_eqi, b_nei, b_lt, b_le, b_gt, b_ge, fn_an0, fn_an1, fn_an4, fn_an5, bc_01, bc_012, bc_015, bc_0145, bc_0147, bc_016, bc_0167, bc_017, bc_03, bc_035, bc_0347, beq_self_eq_true, bne_self_eq_false, Int.reduceBEq, Int.reduceBNe, Int.reduceLT, Int.reduceLE, Int.reduceGT, decide_true, decide_false, eqB_self, la_cons, la_nil, b_plus, b_nb, eqS_nb, pu_nb, nebA_b, isBool_b, Bool.true_bne, Bool.false_bne, Bool.bne_true, Bool.bne_false, ek])
  refine w_loop_ind H (fun n t s => ∃ i M, n + i = k ∧ tg t 0 = .fn 62 [.ptr 13 0] ∧ tg t 7 = .raw (.bool true) ∧ tg t 8 = .ptr s8.nx 0 ∧ tg t 9 = .ptr s9.nx 0 ∧ tg t 10 = .ptr sA.nx 0 ∧ tg t 11 = .raw (.int .i64 (k : Int)) ∧ tg t 12 = .raw (.int .i64 (i : Int)) ∧ WL s M [(sA.nx, .cells (anL a7.status a7.num a7.kind a7.mode [97, 98, 99, 100] VA) 43 0), (s9.nx, .cells (anL a6.status 1 a6.kind a6.mode a6.data V9) 43 0), (s8.nx, .cells (anL 0 0 a3.kind a3.mode a3.data V8) 43 0)] ∧ fdsT n i M = true) (n := k)
    ⟨0, _, rfl, by simp only [rB, rP, rQ, boolA, intA, resultA, resA, reduceIte, reduceCtorEq, Nat.reduceAdd, Nat.reduceLT, Nat.reduceEqDiff, UInt8.reduceToNat], by simp only [rB, rP, rQ, boolA, intA, resultA, resA, reduceIte, reduceCtorEq, Nat.reduceAdd, Nat.reduceLT, Nat.reduceEqDiff, UInt8.reduceToNat], by simp only [rB, rP, rQ, boolA, intA, resultA, resA, reduceIte, reduceCtorEq, Nat.reduceAdd, Nat.reduceLT, Nat.reduceEqDiff, UInt8.reduceToNat], by simp only [rB, rP, rQ, boolA, intA, resultA, resA, reduceIte, reduceCtorEq, Nat.reduceAdd, Nat.reduceLT, Nat.reduceEqDiff, UInt8.reduceToNat], by simp only [rB, rP, rQ, boolA, intA, resultA, resA, reduceIte, reduceCtorEq, Nat.reduceAdd, Nat.reduceLT, Nat.reduceEqDiff, UInt8.reduceToNat], by simp only [rB, rP, rQ, boolA, intA, resultA, resA, reduceIte, reduceCtorEq, Nat.reduceAdd, Nat.reduceLT, Nat.reduceEqDiff, UInt8.reduceToNat], by simp only [rB, rP, rQ, boolA, intA, resultA, resA, reduceIte, reduceCtorEq, Nat.reduceAdd, Nat.reduceLT, Nat.reduceEqDiff, UInt8.reduceToNat]; rfl, hW, h⟩ ?_
  rintro n t s' ih ⟨i, M', hn, t0, t7, t8, t9, t10, t11, t12, hW, h⟩
  cases n with
  | succ n =>
    have g0 : decide ((i : Int) < (k : Int)) = true := by rw [decide_eq_true_eq]; omega
    have ew : IntKind.i64.wrap ((i : Int) + 1) = ((i + 1 : Nat) : Int) := by
      rw [show (i : Int) + 1 = ((i + 1 : Nat) : Int) from by simp]
      exact wrap_nat (by omega)
    obtain ⟨b, Mb, eb, pb, h⟩ := ask_inv h
    repeat (first | with_reducible (refine w_one H ?_; constructor) | simp only [rB, rP, rQ, boolA, intA, resultA, resA, reduceIte, reduceCtorEq, Nat.reduceAdd, Nat.reduceLT, Nat.reduceEqDiff, UInt8.reduceToNat, pe4, pf4, b_eqi, b_nei, b_lt, b_le, b_gt, b_ge, fn_an0, fn_an1, fn_an4, fn_an5, bc_01, bc_012, bc_015, bc_0145, bc_0147, bc_016, bc_0167, bc_017, bc_03, bc_035, bc_0347, beq_self_eq_true, bne_self_eq_false, Int.reduceBEq, Int.reduceBNe, Int.reduceLT, Int.reduceLE, Int.reduceGT, decide_true, decide_false, eqB_self, la_cons, la_nil, b_plus, b_nb, eqS_nb, pu_nb, nebA_b, isBool_b, Bool.true_bne, Bool.false_bne, Bool.bne_true, Bool.bne_false, t0, t7, t8, t9, t10, t11, t12, g0])
    refine lface_c hW eb ?_
    intro s V hW hl hV
    by_cases hi : i + 1 < 8
    · have g1 : decide (((i + 1 : Nat) : Int) < 8) = true := by rw [decide_eq_true_eq]; omega
      rw [Nat.blt_eq.mpr hi, cond_true, Bool.and_eq_true] at pb
      have q1 := st_of pb.1
      have q2 := nu_of pb.2
      rw [show (i : Int) + 1 = ((i + 1 : Nat) : Int) from by simp] at q2
      repeat (first | with_reducible (refine w_one H ?_; constructor) | simp only [rB, rP, rQ, boolA, intA, resultA, resA, reduceIte, reduceCtorEq, Nat.reduceAdd, Nat.reduceLT, Nat.reduceEqDiff, UInt8.reduceToNat, pe4, pf4, b_eqi, b_nei, b_lt, b_le, b_gt, b_ge, fn_an0, fn_an1, fn_an4, fn_an5, bc_01, bc_012, bc_015, bc_0145, bc_0147, bc_016, bc_0167, bc_017, bc_03, bc_035, bc_0347, beq_self_eq_true, bne_self_eq_false, Int.reduceBEq, Int.reduceBNe, Int.reduceLT, Int.reduceLE, Int.reduceGT, decide_true, decide_false, eqB_self, la_cons, la_nil, b_plus, b_nb, eqS_nb, pu_nb, nebA_b, isBool_b, Bool.true_bne, Bool.false_bne, Bool.bne_true, Bool.bne_false, all_an, st_an hV.cells1.2, stA_an, an_g0, an_g1, an_g2, an_g3, an_g4, an_g5, fa_an0, fa_an1, fa_an2, fa_an3, fa_an4, fa_an5, ldO_an0, ldO_an1, ldO_an2, ldO_an3, ldO_an4, ldO_an5, ld_3, ld_9, ld_41, t0, t7, t8, t9, t10, t11, t12, g1, ew, q1, q2])
      exact ih n _ _ (by omega) ⟨i + 1, Mb, by omega, by simp only [rB, rP, rQ, boolA, intA, resultA, resA, reduceIte, reduceCtorEq, Nat.reduceAdd, Nat.reduceLT, Nat.reduceEqDiff, UInt8.reduceToNat, t0], by simp only [rB, rP, rQ, boolA, intA, resultA, resA, reduceIte, reduceCtorEq, Nat.reduceAdd, Nat.reduceLT, Nat.reduceEqDiff, UInt8.reduceToNat, t7], by simp only [rB, rP, rQ, boolA, intA, resultA, resA, reduceIte, reduceCtorEq, Nat.reduceAdd, Nat.reduceLT, Nat.reduceEqDiff, UInt8.reduceToNat, t8], by simp only [rB, rP, rQ, boolA, intA, resultA, resA, reduceIte, reduceCtorEq, Nat.reduceAdd, Nat.reduceLT, Nat.reduceEqDiff, UInt8.reduceToNat, t9], by simp only [rB, rP, rQ, boolA, intA, resultA, resA, reduceIte, reduceCtorEq, Nat.reduceAdd, Nat.reduceLT, Nat.reduceEqDiff, UInt8.reduceToNat, t10], by simp only [rB, rP, rQ, boolA, intA, resultA, resA, reduceIte, reduceCtorEq, Nat.reduceAdd, Nat.reduceLT, Nat.reduceEqDiff, UInt8.reduceToNat, t11], by simp only [rB, rP, rQ, boolA, intA, resultA, resA, reduceIte, reduceCtorEq, Nat.reduceAdd, Nat.reduceLT, Nat.reduceEqDiff, UInt8.reduceToNat], (hW.put _ _).sub (fun q hq => List.mem_cons_of_mem _ hq), h⟩
    · have g1 : decide (((i + 1 : Nat) : Int) < 8) = false := by rw [decide_eq_false_iff_not]; omega
      have hi' : Nat.blt (i + 1) 8 = false := by
        cases hb : Nat.blt (i + 1) 8 with
        | false => rfl
        | true => exact absurd (Nat.blt_eq.mp hb) hi
      rw [hi', cond_false] at pb
      have q1 := st_of pb
      repeat (first | with_reducible (refine w_one H ?_; constructor) | simp only [rB, rP, rQ, boolA, intA, resultA, resA, reduceIte, reduceCtorEq, Nat.reduceAdd, Nat.reduceLT, Nat.reduceEqDiff, UInt8.reduceToNat, pe4, pf4, b_eqi, b_nei, b_lt, b_le, b_gt, b_ge, fn_an0, fn_an1, fn_an4, fn_an5, bc_01, bc_012, bc_015, bc_0145, bc_0147, bc_016, bc_0167, bc_017, bc_03, bc_035, bc_0347, beq_self_eq_true, bne_self_eq_false, Int.reduceBEq, Int.reduceBNe, Int.reduceLT, Int.reduceLE, Int.reduceGT, decide_true, decide_false, eqB_self, la_cons, la_nil, b_plus, b_nb, eqS_nb, pu_nb, nebA_b, isBool_b, Bool.true_bne, Bool.false_bne, Bool.bne_true, Bool.bne_false, all_an, st_an hV.cells1.2, stA_an, an_g0, an_g1, an_g2, an_g3, an_g4, an_g5, fa_an0, fa_an1, fa_an2, fa_an3, fa_an4, fa_an5, ldO_an0, ldO_an1, ldO_an2, ldO_an3, ldO_an4, ldO_an5, ld_3, ld_9, ld_41, t0, t7, t8, t9, t10, t11, t12, g1, ew, q1])
      exact ih n _ _ (by omega) ⟨i + 1, Mb, by omega, by simp only [rB, rP, rQ, boolA, intA, resultA, resA, reduceIte, reduceCtorEq, Nat.reduceAdd, Nat.reduceLT, Nat.reduceEqDiff, UInt8.reduceToNat, t0], by simp only [rB, rP, rQ, boolA, intA, resultA, resA, reduceIte, reduceCtorEq, Nat.reduceAdd, Nat.reduceLT, Nat.reduceEqDiff, UInt8.reduceToNat, t7], by simp only [rB, rP, rQ, boolA, intA, resultA, resA, reduceIte, reduceCtorEq, Nat.reduceAdd, Nat.reduceLT, Nat.reduceEqDiff, UInt8.reduceToNat, t8], by simp only [rB, rP, rQ, boolA, intA, resultA, resA, reduceIte, reduceCtorEq, Nat.reduceAdd, Nat.reduceLT, Nat.reduceEqDiff, UInt8.reduceToNat, t9], by simp only [rB, rP, rQ, boolA, intA, resultA, resA, reduceIte, reduceCtorEq, Nat.reduceAdd, Nat.reduceLT, Nat.reduceEqDiff, UInt8.reduceToNat, t10], by simp only [rB, rP, rQ, boolA, intA, resultA, resA, reduceIte, reduceCtorEq, Nat.reduceAdd, Nat.reduceLT, Nat.reduceEqDiff, UInt8.reduceToNat, t11], by simp only [rB, rP, rQ, boolA, intA, resultA, resA, reduceIte, reduceCtorEq, Nat.reduceAdd, Nat.reduceLT, Nat.reduceEqDiff, UInt8.reduceToNat], (hW.put _ _).sub (fun q hq => List.mem_cons_of_mem _ hq), h⟩
  | zero =>
    have g0 : decide ((i : Int) < (k : Int)) = false := by rw [decide_eq_false_iff_not]; omega
    unfold fdsT at h
    obtain ⟨c1, N1, f1, r1, h⟩ := ask_inv h
    obtain ⟨c2, N2, f2, r2, h⟩ := ask_inv h
    obtain ⟨c3, N3, f3, r3, h⟩ := ask_inv h
    have r1 := st_of r1
    have r2 := st_of r2
    have r3 := st_of r3
    have g8 := hW.get2
    repeat (first | with_reducible (refine w_one H ?_; constructor) | simp only [rB, rP, rQ, boolA, intA, resultA, resA, reduceIte, reduceCtorEq, Nat.reduceAdd, Nat.reduceLT, Nat.reduceEqDiff, UInt8.reduceToNat, pe4, pf4, b_eqi, b_nei, b_lt, b_le, b_gt, b_ge, fn_an0, fn_an1, fn_an4, fn_an5, bc_01, bc_012, bc_015, bc_0145, bc_0147, bc_016, bc_0167, bc_017, bc_03, bc_035, bc_0347, beq_self_eq_true, bne_self_eq_false, Int.reduceBEq, Int.reduceBNe, Int.reduceLT, Int.reduceLE, Int.reduceGT, decide_true, decide_false, eqB_self, la_cons, la_nil, b_plus, b_nb, eqS_nb, pu_nb, nebA_b, isBool_b, Bool.true_bne, Bool.false_bne, Bool.bne_true, Bool.bne_false, t0, t7, t8, t9, t10, t11, t12, g0, g8, an_g0, an_g1, an_g2, an_g3, an_g4, an_g5, fa_an0, fa_an1, fa_an2, fa_an3, fa_an4, fa_an5, ldO_an0, ldO_an1, ldO_an2, ldO_an3, ldO_an4, ldO_an5, ld_3, ld_9, ld_41])
    refine lface_c hW f1 ?_
    intro sB VB hW hl hV
    have g8 := hW.get2
    have n8 := hW.ne2
    repeat (first | with_reducible (refine w_one H ?_; constructor) | simp only [rB, rP, rQ, boolA, intA, resultA, resA, reduceIte, reduceCtorEq, Nat.reduceAdd, Nat.reduceLT, Nat.reduceEqDiff, UInt8.reduceToNat, pe4, pf4, b_eqi, b_nei, b_lt, b_le, b_gt, b_ge, fn_an0, fn_an1, fn_an4, fn_an5, bc_01, bc_012, bc_015, bc_0145, bc_0147, bc_016, bc_0167, bc_017, bc_03, bc_035, bc_0347, beq_self_eq_true, bne_self_eq_false, Int.reduceBEq, Int.reduceBNe, Int.reduceLT, Int.reduceLE, Int.reduceGT, decide_true, decide_false, eqB_self, la_cons, la_nil, b_plus, b_nb, eqS_nb, pu_nb, nebA_b, isBool_b, Bool.true_bne, Bool.false_bne, Bool.bne_true, Bool.bne_false, all_an, st_an hV.cells1.2, stA_an, an_g0, an_g1, an_g2, an_g3, an_g4, an_g5, fa_an0, fa_an1, fa_an2, fa_an3, fa_an4, fa_an5, ldO_an0, ldO_an1, ldO_an2, ldO_an3, ldO_an4, ldO_an5, ld_3, ld_9, ld_41, g8, n8, t0, t7, t8, t9, t10, t11, t12])
    replace hW := hW.put (.cells (anL 0 0 0 0 [] nilS) 43 0) (.cells (anL c1.status c1.num c1.kind c1.mode c1.data VB) 43 0)
    refine lface_c hW f2 ?_
    intro sC VC hW hl hV
    have g8 := hW.get3
    have n8 := hW.ne3
    have g9 := hW.get2
    have n9 := hW.ne2
    have gA := hW.get1
    have nA := hW.ne1
    have gB := hW.get0
    have nB := hW.ne0
    repeat (first | with_reducible (refine w_one H ?_; constructor) | simp only [rB, rP, rQ, boolA, intA, resultA, resA, reduceIte, reduceCtorEq, Nat.reduceAdd, Nat.reduceLT, Nat.reduceEqDiff, UInt8.reduceToNat, pe4, pf4, b_eqi, b_nei, b_lt, b_le, b_gt, b_ge, fn_an0, fn_an1, fn_an4, fn_an5, bc_01, bc_012, bc_015, bc_0145, bc_0147, bc_016, bc_0167, bc_017, bc_03, bc_035, bc_0347, beq_self_eq_true, bne_self_eq_false, Int.reduceBEq, Int.reduceBNe, Int.reduceLT, Int.reduceLE, Int.reduceGT, decide_true, decide_false, eqB_self, la_cons, la_nil, b_plus, b_nb, eqS_nb, pu_nb, nebA_b, isBool_b, Bool.true_bne, Bool.false_bne, Bool.bne_true, Bool.bne_false, all_an, st_an hV.cells1.2, stA_an, an_g0, an_g1, an_g2, an_g3, an_g4, an_g5, fa_an0, fa_an1, fa_an2, fa_an3, fa_an4, fa_an5, ldO_an0, ldO_an1, ldO_an2, ldO_an3, ldO_an4, ldO_an5, ld_3, ld_9, ld_41, t0, t7, t8, t9, t10, t11, t12, g8, n8, g9, n9, gA, nA, gB, nB, r1, r2])
    replace hW := hW.put (.cells (anL 0 0 0 0 [] nilS) 43 0) (.cells (anL 12 c2.num c2.kind c2.mode c2.data VC) 43 0)
    refine lface_c hW f3 ?_
    intro sD VD hW hl hV
    repeat (first | with_reducible (refine w_one H ?_; constructor) | simp only [rB, rP, rQ, boolA, intA, resultA, resA, reduceIte, reduceCtorEq, Nat.reduceAdd, Nat.reduceLT, Nat.reduceEqDiff, UInt8.reduceToNat, pe4, pf4, b_eqi, b_nei, b_lt, b_le, b_gt, b_ge, fn_an0, fn_an1, fn_an4, fn_an5, bc_01, bc_012, bc_015, bc_0145, bc_0147, bc_016, bc_0167, bc_017, bc_03, bc_035, bc_0347, beq_self_eq_true, bne_self_eq_false, Int.reduceBEq, Int.reduceBNe, Int.reduceLT, Int.reduceLE, Int.reduceGT, decide_true, decide_false, eqB_self, la_cons, la_nil, b_plus, b_nb, eqS_nb, pu_nb, nebA_b, isBool_b, Bool.true_bne, Bool.false_bne, Bool.bne_true, Bool.bne_false, t0, t7, t8, t9, t10, t11, t12, r3, Tryz.results41])
    rfl
theorem fdsRun : allN 16 (fun k => fdsV0 M0 k && (fdsV1 M0 k && fdsV2 M0 k)) = true := by kernel_rfl
end Go.AX
namespace Go.AX
open Go.Proofs Go.RowKit
set_option maxRecDepth 1000000
set_option linter.unusedSimpArgs false
set_option linter.unusedVariables false
theorem fdsAll (a0 a1 : Int) {s : St} (hW : WL s M0 []) : (sem Tryz.prog).call 41 [.fn 62 [.ptr 13 0], .raw (.int .i64 a0), .raw (.int .i64 a1)] s (fun v _ => isTrue v) (fun _ _ => false) = true := by
  obtain ⟨k, hk, ek⟩ := and_lt (x := a1) (m := 15) (by decide)
  obtain ⟨r, hr, er⟩ := rem_lt (z := a0) (m := 3) (by decide)
  have er : (IntKind.u64.wrap a0).tmod 3 = (r : Int) := er
  have hrun := allN_at fdsRun (i := k) (by omega)
  simp only [Bool.and_eq_true] at hrun
  have hh : r = 0 ∨ r = 1 ∨ r = 2 := by omega
  rcases hh with rfl | rfl | rfl
  · exact fds0_c a0 a1 ek hk er hW hrun.1
  · exact fds1_c a0 a1 ek hk er hW hrun.2.1
  · exact fds2_c a0 a1 ek hk er hW hrun.2.2
theorem fdsWalk (a0 a1 : Int) (w : Go.World) : Calls Tryz.prog 13 #[.int .i64 a0, .int .i64 a1] w fun e w' => e = .returned (.bool true) ∧ Below w.heap.size w w' := by
  refine sem_walk (args := [.raw (.int .i64 a0), .raw (.int .i64 a1)]) (Args := [.int .i64 a0, .int .i64 a1]) (VRels.cons (by simp [VRel]) (VRels.cons (by simp [VRel]) VRels.nil)) ?_ w
  have H := ok3
  show (sem Tryz.prog).call 13 [.raw (.int .i64 a0), .raw (.int .i64 a1)] st0 _ _ = true
  refine w_call H 12 fn_13 rfl rfl ?_
  repeat (first | with_reducible (refine w_one H ?_; constructor) | simp only [rB, rP, rQ, boolA, intA, resultA, resA, reduceIte, reduceCtorEq, Nat.reduceAdd, Nat.reduceLT, Nat.reduceEqDiff, UInt8.reduceToNat, pe3, pf3, c_awake, Tryz.results13] | (with_reducible refine faceW_c ?_; intro s hW) | (with_reducible refine call_true (fdsAll a0 a1 hW) (fun s' => ?_)))
  rfl
end Go.AX
