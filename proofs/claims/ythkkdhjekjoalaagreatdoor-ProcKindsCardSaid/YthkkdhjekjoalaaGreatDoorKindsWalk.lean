import Derived.Test.YthkkdhjekjoalaaGreatDoorD2
set_option linter.unusedVariables false
set_option linter.unusedSimpArgs false
set_option linter.defProp false
namespace Go.AX
open Go.Proofs Go.RowKit
set_option maxRecDepth 1000000
set_option maxHeartbeats 40000000
set_option linter.unusedSimpArgs false
set_option linter.unusedVariables false

def kindsV (M : Md) : Bool := ask M (mkC 5 [102]) (st 0) fun _ M =>
    ask M (mkC 6 [100]) (st 0) fun _ M =>
    ask M (qC 2 [100]) (st 4) fun _ M =>
    ask M (wrC [100] 0 [120]) (st 4) fun _ M =>
    ask M (qC 9 [100]) (st 4) fun _ M =>
    ask M (qC 14 [100]) (st 4) fun _ M =>
    ask M (qC 3 [102]) (st 3) fun _ M =>
    ask M (qC 18 [102]) (st 3) fun _ M =>
    ask M (qC 12 [102]) (st 3) fun _ M =>
    ask M (qC 11 [100]) (st 4) fun _ M =>
    ask M (qC 1 [102, 47, 120]) (st 3) fun _ M =>
    ask M (mkC 5 [102, 47, 120]) (st 3) fun _ M =>
    ask M (qC 4 [102]) (st 5) fun _ M =>
    ask M (wrC [102] (-1) [120]) (st 5) fun _ M =>
    ask M (wrC [102] 0 (List.replicate 513 0)) (st 5) fun _ M =>
    ask M ((⟨2, [102], [], 0, 0, 513, 0, []⟩ : Cl)) (st 5) fun _ M =>
    ask M (qC 99 [102]) (st 5) fun _ M =>
    true
theorem kinds_c {M : Md} {s : St} (hW : WL s M []) (h : kindsV M = true) :
    (sem Tryz.prog).call 44 [.fn 62 [.ptr 13 0]] s (fun v _ => isTrue v) (fun _ _ => false) = true := by
  have H := ok4
  unfold kindsV at h
  obtain ⟨a1, M1, e1, p1, h⟩ := ask_inv h
  have p1 := st_of p1
  obtain ⟨a2, M2, e2, p2, h⟩ := ask_inv h
  have p2 := st_of p2
  obtain ⟨a3, M3, e3, p3, h⟩ := ask_inv h
  have p3 := st_of p3
  obtain ⟨a4, M4, e4, p4, h⟩ := ask_inv h
  have p4 := st_of p4
  obtain ⟨a5, M5, e5, p5, h⟩ := ask_inv h
  have p5 := st_of p5
  obtain ⟨a6, M6, e6, p6, h⟩ := ask_inv h
  have p6 := st_of p6
  obtain ⟨a7, M7, e7, p7, h⟩ := ask_inv h
  have p7 := st_of p7
  obtain ⟨a8, M8, e8, p8, h⟩ := ask_inv h
  have p8 := st_of p8
  obtain ⟨a9, M9, e9, p9, h⟩ := ask_inv h
  have p9 := st_of p9
  obtain ⟨a10, M10, e10, p10, h⟩ := ask_inv h
  have p10 := st_of p10
  obtain ⟨a11, M11, e11, p11, h⟩ := ask_inv h
  have p11 := st_of p11
  obtain ⟨a12, M12, e12, p12, h⟩ := ask_inv h
  have p12 := st_of p12
  obtain ⟨a13, M13, e13, p13, h⟩ := ask_inv h
  have p13 := st_of p13
  obtain ⟨a14, M14, e14, p14, h⟩ := ask_inv h
  have p14 := st_of p14
  obtain ⟨a15, M15, e15, p15, h⟩ := ask_inv h
  have p15 := st_of p15
  obtain ⟨a16, M16, e16, p16, h⟩ := ask_inv h
  have p16 := st_of p16
  obtain ⟨a17, M17, e17, p17, h⟩ := ask_inv h
  have p17 := st_of p17
  have mk : ∀ s : St, makeSliceA TE s 65 (.raw (.int .i64 513)) (.raw (.int .i64 513)) = some (.slice s.nx 0 513 0 513 true, s.alloc (.cells (cellsOfStr (List.replicate 513 0)) 5 0)) := fun s => by rw [← repL_b]; exact mk_sl (n := 513) (by omega)
  have tx := fun (s' : St) (q : Nat) (h : s'.h.get q = some (.cells (cellsOfStr (List.replicate 513 0)) 5 0)) => tx_b (n := 513) (fun x hx => by rw [List.mem_replicate] at hx; omega) (by simp) h
  refine w_call H 96 fn_44 rfl rfl ?_
  repeat (first | with_reducible (refine w_one H ?_; constructor) | simp only [rB, rP, rQ, boolA, intA, resultA, resA, reduceIte, reduceCtorEq, Nat.reduceAdd, Nat.reduceLT, Nat.reduceEqDiff, UInt8.reduceToNat, pe4, pf4, b_eqi, b_nei, b_lt, b_le, b_gt, b_ge, fn_an0, fn_an1, fn_an4, fn_an5, bc_01, bc_012, bc_015, bc_0145, bc_0147, bc_016, bc_0167, bc_017, bc_03, bc_035, bc_0347, beq_self_eq_true, bne_self_eq_false, Int.reduceBEq, Int.reduceBNe, Int.reduceLT, Int.reduceLE, Int.reduceGT, decide_true, decide_false, eqB_self, la_cons, la_nil, mk] | (with_reducible refine lmake_c ok3 hW (by assumption) (by assumption) ?_; intro s hW hl) | (with_reducible refine lstatus_c ok3 hW (by assumption) (by assumption) ?_; intro s hW hl) | (with_reducible refine lwrite_c ok3 hW (by assumption) (by assumption) ?_; intro s hW hl) | (with_reducible refine lread_c ok3 hW (by assumption) (by assumption) ?_; intro s hW hl))
  replace hW := hW.alloc (.cells (cellsOfStr (List.replicate 513 0)) 5 0)
  rw [o_txt, pl_txt (v := .str (List.replicate 513 0)) (ids := [s.nx]) (by simp only [rB, rP, rQ, boolA, intA, resultA, resA, reduceIte, reduceCtorEq, Nat.reduceAdd, Nat.reduceLT, Nat.reduceEqDiff, UInt8.reduceToNat, tx]) (by simp only [rB, rP, rQ, boolA, intA, resultA, resA, reduceIte, reduceCtorEq, Nat.reduceAdd, Nat.reduceLT, Nat.reduceEqDiff, UInt8.reduceToNat])]
  repeat (first | with_reducible (refine w_one H ?_; constructor) | simp only [rB, rP, rQ, boolA, intA, resultA, resA, reduceIte, reduceCtorEq, Nat.reduceAdd, Nat.reduceLT, Nat.reduceEqDiff, UInt8.reduceToNat, pe4, pf4, b_eqi, b_nei, b_lt, b_le, b_gt, b_ge, fn_an0, fn_an1, fn_an4, fn_an5, bc_01, bc_012, bc_015, bc_0145, bc_0147, bc_016, bc_0167, bc_017, bc_03, bc_035, bc_0347, beq_self_eq_true, bne_self_eq_false, Int.reduceBEq, Int.reduceBNe, Int.reduceLT, Int.reduceLE, Int.reduceGT, decide_true, decide_false, eqB_self, la_cons, la_nil, p16, p17, Tryz.results44] | (with_reducible refine lmake_c ok3 hW (by assumption) (by assumption) ?_; intro s hW hl) | (with_reducible refine lstatus_c ok3 hW (by assumption) (by assumption) ?_; intro s hW hl) | (with_reducible refine lwrite_c ok3 hW (by assumption) (by assumption) ?_; intro s hW hl) | (with_reducible refine lread_c ok3 hW (by assumption) (by assumption) ?_; intro s hW hl) | (with_reducible refine lface_c hW (by assumption) ?_; intro s V hW hl hV))
  rfl
theorem kindsRun : kindsV M0 = true := by kernel_rfl
end Go.AX
namespace Go.AX
open Go.Proofs Go.RowKit
set_option maxRecDepth 1000000
set_option linter.unusedSimpArgs false
set_option linter.unusedVariables false
theorem kindsAll {s : St} (hW : WL s M0 []) : (sem Tryz.prog).call 44 [.fn 62 [.ptr 13 0]] s (fun v _ => isTrue v) (fun _ _ => false) = true := by
  exact kinds_c hW kindsRun
theorem kindsWalk (w : Go.World) : Calls Tryz.prog 16 #[] w fun e w' => e = .returned (.bool true) ∧ Below w.heap.size w w' := by
  refine sem_walk (args := []) (Args := []) VRels.nil ?_ w
  have H := ok3
  show (sem Tryz.prog).call 16 [] st0 _ _ = true
  refine w_call H 6 fn_16 rfl rfl ?_
  repeat (first | with_reducible (refine w_one H ?_; constructor) | simp only [rB, rP, rQ, boolA, intA, resultA, resA, reduceIte, reduceCtorEq, Nat.reduceAdd, Nat.reduceLT, Nat.reduceEqDiff, UInt8.reduceToNat, pe3, pf3, c_awake, Tryz.results16] | (with_reducible refine faceW_c ?_; intro s hW) | (with_reducible refine call_true (kindsAll hW) (fun s' => ?_)))
  rfl
end Go.AX
