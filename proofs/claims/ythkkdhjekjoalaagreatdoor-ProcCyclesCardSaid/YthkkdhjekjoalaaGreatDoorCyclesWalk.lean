import Derived.Test.YthkkdhjekjoalaaGreatDoorD2
set_option linter.unusedVariables false
set_option linter.unusedSimpArgs false
set_option linter.defProp false
namespace Go.AX
open Go.Proofs Go.RowKit
set_option maxRecDepth 1000000
set_option maxHeartbeats 40000000
set_option linter.unusedSimpArgs false
set_option linter.unusedVariables false

def dpsL (n : Nat) : List (List Nat) := (List.range n).map dpL
theorem dps_succ {n : Nat} : dpsL (n + 1) = dpsL n ++ [dpL n] := by simp [dpsL, List.range_succ]
theorem dps_at {n i : Nat} (h : i < n) : ((dpsL n).map AV.str)[i]? = some (.str (dpL i)) := by simp [dpsL, h]
def cycE (k i : Nat) (M : Md) : Bool := ask M (mkC 5 [47, 102]) (st 0) fun _ M =>
    ask M (mkC 6 [47, 109]) (st 0) fun _ M =>
    ask M (rnC (dpL i) (dpL k ++ [47, 122])) (st 5) fun _ M =>
    ask M (rnC [47, 100] [47, 102]) (st 3) fun _ M =>
    ask M (rnC [47, 102] [47, 100]) (st 4) fun _ M =>
    ask M (rnC [47, 109] [47, 100]) (st 6) fun _ M =>
    ask M (rnC [47, 110, 111, 110, 101] [47, 113]) (st 1) fun _ M =>
    ask M (rnC [47] [47, 113]) (st 5) fun _ M =>
    ask M (rnC [47, 102] [47, 102]) (st 0) fun _ M =>
    ask M (qC 3 [47]) (ns [[100], [102], [109]]) fun _ M =>
    true
def cycT (P : Md → Bool) : Nat → Nat → Md → Bool
  | 0, _, M => P M
  | n + 1, j, M => ask M (mkC 6 (dpL (j + 1))) (st 0) fun _ M => cycT P n (j + 1) M
theorem ldF {s : St} {x o : Nat} : loadA TE s 52 (.ptr x o) = ldC s x o := ld_gen (by kernel_rfl)
theorem cyc1_c {s : St} {M : Md} {L : List (Nat × AO)} (hW : WL s M L) {b3 : Nat} (g3 : s.h.get b3 = some (.cells [.fn 62 [.ptr 13 0]] 52 0)) {p p2 : List Nat} {a : An} {M' : Md} (h : prM M (rnC p p2) = some (a, M')) {st : Int} (hst : a.status = st) {kr kp : AV → St → Bool} (hk : ∀ s', WL s' M' L → s.nx ≤ s'.nx → kr (.raw (.int .i64 st)) s' = true) :
    (sem Tryz.prog).call 69 [.str p, .str p2, .ptr b3 0] s kr kp = true := by
  have H := ok4
  subst hst
  refine w_call H 12 fn_69 rfl rfl ?_
  repeat (first | with_reducible (refine w_one H ?_; constructor) | simp only [rB, rP, rQ, boolA, intA, resultA, resA, reduceIte, reduceCtorEq, Nat.reduceAdd, Nat.reduceLT, Nat.reduceEqDiff, UInt8.reduceToNat, pe4, pf4, b_eqi, b_nei, b_lt, b_le, b_gt, b_ge, fn_an0, fn_an1, fn_an4, fn_an5, bc_01, bc_012, bc_015, bc_0145, bc_0147, bc_016, bc_0167, bc_017, bc_03, bc_035, bc_0347, beq_self_eq_true, bne_self_eq_false, Int.reduceBEq, Int.reduceBNe, Int.reduceLT, Int.reduceLE, Int.reduceGT, decide_true, decide_false, eqB_self, la_cons, la_nil, g3, ldF])
  refine lface_c hW h ?_
  intro s1 V w1 l1 hV
  repeat (first | with_reducible (refine w_one H ?_; constructor) | simp only [rB, rP, rQ, boolA, intA, resultA, resA, reduceIte, reduceCtorEq, Nat.reduceAdd, Nat.reduceLT, Nat.reduceEqDiff, UInt8.reduceToNat, pe4, pf4, b_eqi, b_nei, b_lt, b_le, b_gt, b_ge, fn_an0, fn_an1, fn_an4, fn_an5, bc_01, bc_012, bc_015, bc_0145, bc_0147, bc_016, bc_0167, bc_017, bc_03, bc_035, bc_0347, beq_self_eq_true, bne_self_eq_false, Int.reduceBEq, Int.reduceBNe, Int.reduceLT, Int.reduceLE, Int.reduceGT, decide_true, decide_false, eqB_self, la_cons, la_nil, Tryz.results69])
  exact hk s1 w1 l1
theorem cells_fn {f : Nat} {c : List AV} : (AV.fn f c).cells = [.fn f c] := (rfl)
theorem ba_face : beqA (.fn 62 [.ptr 13 0]) (.fn 62 [.ptr 13 0]) = true := (rfl)
theorem one_fn {f : Nat} {c : List AV} : (AV.fn f c).one = true := (rfl)
theorem rm_tt {e : Env} {a : Ac} {dst : Option Tmp} {x y : Operand} {t t' ty : TypeId} {pos : String} {after : Array Edge} {m : Int} (hm : m ≠ 0) (hx : isU64 (a.eval x) = true) (hy : a.eval y = .raw (.int .u64 m)) :
    stepPure e a ⟨dst, .binOp .rem t x y t', ty, pos, after, none⟩ = remA m (a.eval x) := by
  obtain ⟨u, hx⟩ := isU64_of hx
  have h1 : valAt a x = .int .u64 u := by simp [valAt, hx, toVal]
  have h2 : valAt a y = .int .u64 m := by simp [valAt, hy, toVal]
  have hall : (Op.operands (.binOp .rem t x y t')).toList.all (fun x => (toVal (a.eval x)).isSome) = true := by
    show (List.all [x, y] (fun x => (toVal (a.eval x)).isSome)) = true
    simp only [List.all_cons, List.all_nil, hx, hy]
    rfl
  have hr : pureRun e.P (execOp (valAt a) ⟨dst, .binOp .rem t x y t', ty, pos, after, none⟩) = some (.value (.int .u64 (u.tmod m))) := by
    have : execOp (valAt a) ⟨dst, .binOp .rem t x y t', ty, pos, after, none⟩ = .pure (.value (.int .u64 (u.tmod m))) := by
      have hd : Op.intDiv .rem .u64 u m = .pure (.int .u64 (u.tmod m)) := by
        simp only [Op.intDiv, if_neg hm]
        rfl
      simp only [execOp, h1, h2]
      show (do pure (Next.value (← Op.intDiv .rem .u64 u m))) = _
      rw [hd]
      rfl
    rw [this]; rfl
  simp only [stepPure, hall, cond_true, hr, hx]
  rfl
theorem cycles_c (z0 z1 : Int) {d : Nat} (ed : andI z0 3 = (d : Int)) (hd : d ≤ 3) {k : Nat} (hkd : 2 + d = k) {r : Nat} (er : (IntKind.u64.wrap z1).tmod (k : Int) = (r : Int)) (hr : r < k) {M : Md} {s : St} (hW : WL s M []) (h : cycT (cycE k (1 + r)) k 0 M = true) :
    (sem Tryz.prog).call 39 [.fn 62 [.ptr 13 0], .raw (.int .i64 z0), .raw (.int .i64 z1)] s (fun v _ => isTrue v) (fun _ _ => false) = true := by
  have H := ok4
  have hk5 : k ≤ 5 := by omega
  have hk0 : (k : Int) ≠ 0 := by omega
  have wk : IntKind.i64.wrap (2 + (d : Int)) = (k : Int) := by
    rw [show 2 + (d : Int) = (k : Int) from by omega]
    exact wrap_nat (by omega)
  have wku : IntKind.u64.wrap (k : Int) = (k : Int) := by
    show (k : Int) % 18446744073709551616 = (k : Int)
    omega
  have wr1 : IntKind.i64.wrap (r : Int) = (r : Int) := wrap_nat (by omega)
  have wr2 : IntKind.i64.wrap (1 + (r : Int)) = ((1 + r : Nat) : Int) := by
    rw [show 1 + (r : Int) = ((1 + r : Nat) : Int) from by simp]
    exact wrap_nat (by omega)
  have hC := hW.base
  refine w_call H 105 fn_39 rfl rfl ?_
  repeat (first | with_reducible (refine w_one H ?_; constructor) | simp only [rB, rP, rQ, boolA, intA, resultA, resA, reduceIte, reduceCtorEq, Nat.reduceAdd, Nat.reduceLT, Nat.reduceEqDiff, UInt8.reduceToNat, pe4, pf4, b_eqi, b_nei, b_lt, b_le, b_gt, b_ge, fn_an0, fn_an1, fn_an4, fn_an5, bc_01, bc_012, bc_015, bc_0145, bc_0147, bc_016, bc_0167, bc_017, bc_03, bc_035, bc_0347, beq_self_eq_true, bne_self_eq_false, Int.reduceBEq, Int.reduceBNe, Int.reduceLT, Int.reduceLE, Int.reduceGT, decide_true, decide_false, eqB_self, la_cons, la_nil, b_plus, ed, wk, wku, len_str, o_cvt, toU_int, b_rem, eqS_rem, rm_tt hk0, u64_int, remA_int, er, i64_int, o_cvi, toI_int, wr1, wr2, ldF, ld_9, hd_get, cells_fn, one_fn, ba_face, bs_1])
  replace hW := (hW.alloc (.cells [.fn 62 [.ptr 13 0]] 52 0)).alloc (.cells [.str []] 9 0)
  refine w_loop_ind H (fun n t s' => ∃ (i q fz : Nat) (ex : Bool) (M : Md), n + i = k ∧ tg t 2 = .raw (.int .i64 z1) ∧ tg t 3 = .ptr s.nx 0 ∧ tg t 7 = .raw (.int .i64 (k : Int)) ∧ tg t 8 = .slice q 0 (i + 1) 0 (i + 1) ex ∧ tg t 9 = .raw (.int .i64 (i : Int)) ∧ s.nx < q ∧ (ex = true ∨ ex = false ∧ fz = 2) ∧ WL s' M [(q, .cells ((dpsL (i + 1)).map .str) 9 fz), (s.nx, (.cells [.fn 62 [.ptr 13 0]] 52 0))] ∧ cycT (cycE k (1 + r)) n i M = true) (n := k)
    ⟨0, s.nx + 1, 0, true, M, rfl, by simp only [rB, rP, rQ, boolA, intA, resultA, resA, reduceIte, reduceCtorEq, Nat.reduceAdd, Nat.reduceLT, Nat.reduceEqDiff, UInt8.reduceToNat], by simp only [rB, rP, rQ, boolA, intA, resultA, resA, reduceIte, reduceCtorEq, Nat.reduceAdd, Nat.reduceLT, Nat.reduceEqDiff, UInt8.reduceToNat], by simp only [rB, rP, rQ, boolA, intA, resultA, resA, reduceIte, reduceCtorEq, Nat.reduceAdd, Nat.reduceLT, Nat.reduceEqDiff, UInt8.reduceToNat], by simp only [rB, rP, rQ, boolA, intA, resultA, resA, reduceIte, reduceCtorEq, Nat.reduceAdd, Nat.reduceLT, Nat.reduceEqDiff, UInt8.reduceToNat], by simp only [rB, rP, rQ, boolA, intA, resultA, resA, reduceIte, reduceCtorEq, Nat.reduceAdd, Nat.reduceLT, Nat.reduceEqDiff, UInt8.reduceToNat]; rfl, by omega, Or.inl rfl, hW, h⟩ ?_
  rintro n t s' ih ⟨i, q, fz, ex, M', hn, t2, t3, t7, t8, t9, hq, hex, hW, h⟩
  have g3 := hW.get1
  have gq := hW.get0
  have lq := hW.lt (List.mem_cons_self ..)
  simp only at lq
  cases n with
  | succ n =>
    have g0 : decide ((i : Int) < (k : Int)) = true := by rw [decide_eq_true_eq]; omega
    have ew : IntKind.i64.wrap ((i : Int) + 1) = ((i + 1 : Nat) : Int) := by
      rw [show (i : Int) + 1 = ((i + 1 : Nat) : Int) from by simp]
      exact wrap_nat (by omega)
    have ix := fun ex => ix_t (q := q) (i := i) (n := i + 1) (ex := ex) (by omega)
    have at1 := dps_at (n := i + 1) (i := i) (by omega)
    have fa : binFast .add (.str (dpL i)) (.str [47, 100]) = some (.str (dpL (i + 1))) := b_add (by rw [dp_len]; simp; omega)
    have hg1 : (s'.alloc (.cells [.str (dpL (i + 1))] 9 0)).h.get q = some (.cells ((dpsL (i + 1)).map .str) 9 fz) := (al_ne (by omega)).trans gq
    have hlen : ((dpsL (i + 1)).map AV.str).length = i + 1 := by simp [dpsL]
    have hcs : (dpsL (i + 1)).map AV.str ++ [.str (dpL (i + 1))] = (dpsL (i + 1 + 1)).map .str := by rw [dps_succ (n := i + 1)]; simp
    have ix2 := ix_t (q := s'.nx + 1) (i := i + 1) (n := i + 1 + 1) (ex := false) (by omega)
    have at2 := dps_at (n := i + 1 + 1) (i := i + 1) (by omega)
    obtain ⟨b, Mb, eb, pb, h⟩ := ask_inv h
    have pb := st_of pb
    have q1 : (s.nx = s'.nx + 1) = False := by simp; omega
    have q2 : (s.nx = s'.nx) = False := by simp; omega
    have q3 : (s.nx = q) = False := by simp; omega
    have q4 : (q = s'.nx) = False := by simp; omega
    rcases hex with rfl | ⟨rfl, rfl⟩
    · have ap := app_ex (s := s'.alloc (.cells [.str (dpL (i + 1))] 9 0)) slv_1 hg1 hlen (by omega)
      rw [hcs] at ap
      have hW1 := (hW.alloc (.cells [.str (dpL (i + 1))] 9 0)).alloc (.cells ((dpsL (i + 1 + 1)).map .str) 9 2)
      repeat (first | with_reducible (refine w_one H ?_; constructor) | simp only [rB, rP, rQ, boolA, intA, resultA, resA, reduceIte, reduceCtorEq, Nat.reduceAdd, Nat.reduceLT, Nat.reduceEqDiff, UInt8.reduceToNat, pe4, pf4, b_eqi, b_nei, b_lt, b_le, b_gt, b_ge, fn_an0, fn_an1, fn_an4, fn_an5, bc_01, bc_012, bc_015, bc_0145, bc_0147, bc_016, bc_0167, bc_017, bc_03, bc_035, bc_0347, beq_self_eq_true, bne_self_eq_false, Int.reduceBEq, Int.reduceBNe, Int.reduceLT, Int.reduceLE, Int.reduceGT, decide_true, decide_false, eqB_self, la_cons, la_nil, b_plus, ed, wk, wku, len_str, o_cvt, toU_int, b_rem, eqS_rem, rm_tt hk0, u64_int, remA_int, er, i64_int, o_cvi, toI_int, wr1, wr2, ldF, ld_9, hd_get, cells_fn, one_fn, ba_face, t2, t3, t7, t8, t9, g0, ew, ix, at1, fa, bs_1, ap, ix2, at2, g3, gq, q1, q2, q3, q4] | (with_reducible refine w_plan H (i := 7) (.take 0 (.take 1 (.take 2 (.take 3 (.take 4 (.take 5 (.alt 6 [0, 1, 2, 3, 4, 5] (.take 7 (.done)) (.yes)))))))) rfl (by kernel_rfl) ?_))
      refine lmake_c ok3 hW1 eb pb ?_
      intro s2 hW hl
      repeat (first | with_reducible (refine w_one H ?_; constructor) | simp only [rB, rP, rQ, boolA, intA, resultA, resA, reduceIte, reduceCtorEq, Nat.reduceAdd, Nat.reduceLT, Nat.reduceEqDiff, UInt8.reduceToNat, pe4, pf4, b_eqi, b_nei, b_lt, b_le, b_gt, b_ge, fn_an0, fn_an1, fn_an4, fn_an5, bc_01, bc_012, bc_015, bc_0145, bc_0147, bc_016, bc_0167, bc_017, bc_03, bc_035, bc_0347, beq_self_eq_true, bne_self_eq_false, Int.reduceBEq, Int.reduceBNe, Int.reduceLT, Int.reduceLE, Int.reduceGT, decide_true, decide_false, eqB_self, la_cons, la_nil, b_plus, ed, wk, wku, len_str, o_cvt, toU_int, b_rem, eqS_rem, rm_tt hk0, u64_int, remA_int, er, i64_int, o_cvi, toI_int, wr1, wr2, ldF, ld_9, hd_get, cells_fn, one_fn, ba_face, t2, t3, t7, t8, t9, g0, ew])
      refine ih n _ _ (by omega) ⟨i + 1, s'.nx + 1, 2, false, Mb, by omega, by simp only [rB, rP, rQ, boolA, intA, resultA, resA, reduceIte, reduceCtorEq, Nat.reduceAdd, Nat.reduceLT, Nat.reduceEqDiff, UInt8.reduceToNat, t2], by simp only [rB, rP, rQ, boolA, intA, resultA, resA, reduceIte, reduceCtorEq, Nat.reduceAdd, Nat.reduceLT, Nat.reduceEqDiff, UInt8.reduceToNat, t3], by simp only [rB, rP, rQ, boolA, intA, resultA, resA, reduceIte, reduceCtorEq, Nat.reduceAdd, Nat.reduceLT, Nat.reduceEqDiff, UInt8.reduceToNat, t7], by simp only [rB, rP, rQ, boolA, intA, resultA, resA, reduceIte, reduceCtorEq, Nat.reduceAdd, Nat.reduceLT, Nat.reduceEqDiff, UInt8.reduceToNat], by simp only [rB, rP, rQ, boolA, intA, resultA, resA, reduceIte, reduceCtorEq, Nat.reduceAdd, Nat.reduceLT, Nat.reduceEqDiff, UInt8.reduceToNat], by omega, Or.inr ⟨rfl, rfl⟩, hW.sub (fun q hq => ?_), h⟩
      simp only [List.mem_cons, List.not_mem_nil, or_false] at hq ⊢
      rcases hq with rfl | rfl
      · exact Or.inl rfl
      · exact Or.inr (Or.inr (Or.inr rfl))
    · have ap := app_gr (s := s'.alloc (.cells [.str (dpL (i + 1))] 9 0)) slv_1 hg1 hlen (by omega)
      rw [hcs] at ap
      have hW0 : WL (s'.alloc (.cells [.str (dpL (i + 1))] 9 0)) M' [(q, .cells ((dpsL (i + 1)).map .str) 9 2), (s'.nx, .cells [.str (dpL (i + 1))] 9 0), (s.nx, (.cells [.fn 62 [.ptr 13 0]] 52 0))] := (hW.alloc (.cells [.str (dpL (i + 1))] 9 0)).sub (fun q hq => by
        simp only [List.mem_cons, List.not_mem_nil, or_false] at hq ⊢
        rcases hq with rfl | rfl | rfl
        · exact Or.inr (Or.inl rfl)
        · exact Or.inl rfl
        · exact Or.inr (Or.inr rfl))
      have hW1 := hW0.del (fun q' hq' => by
        simp only [List.mem_cons, List.not_mem_nil, or_false] at hq'
        rcases hq' with rfl | rfl
        · simp only; omega
        · simp only; omega) (by omega) (.cells ((dpsL (i + 1 + 1)).map .str) 9 2)
      repeat (first | with_reducible (refine w_one H ?_; constructor) | simp only [rB, rP, rQ, boolA, intA, resultA, resA, reduceIte, reduceCtorEq, Nat.reduceAdd, Nat.reduceLT, Nat.reduceEqDiff, UInt8.reduceToNat, pe4, pf4, b_eqi, b_nei, b_lt, b_le, b_gt, b_ge, fn_an0, fn_an1, fn_an4, fn_an5, bc_01, bc_012, bc_015, bc_0145, bc_0147, bc_016, bc_0167, bc_017, bc_03, bc_035, bc_0347, beq_self_eq_true, bne_self_eq_false, Int.reduceBEq, Int.reduceBNe, Int.reduceLT, Int.reduceLE, Int.reduceGT, decide_true, decide_false, eqB_self, la_cons, la_nil, b_plus, ed, wk, wku, len_str, o_cvt, toU_int, b_rem, eqS_rem, rm_tt hk0, u64_int, remA_int, er, i64_int, o_cvi, toI_int, wr1, wr2, ldF, ld_9, hd_get, cells_fn, one_fn, ba_face, t2, t3, t7, t8, t9, g0, ew, ix, at1, fa, bs_1, ap, ix2, at2, g3, gq, q1, q2, q3, q4] | (with_reducible refine w_plan H (i := 7) (.take 0 (.take 1 (.take 2 (.take 3 (.take 4 (.take 5 (.alt 6 [0, 1, 2, 3, 4, 5] (.take 7 (.done)) (.yes)))))))) rfl (by kernel_rfl) ?_))
      refine lmake_c ok3 hW1 eb pb ?_
      intro s2 hW hl
      repeat (first | with_reducible (refine w_one H ?_; constructor) | simp only [rB, rP, rQ, boolA, intA, resultA, resA, reduceIte, reduceCtorEq, Nat.reduceAdd, Nat.reduceLT, Nat.reduceEqDiff, UInt8.reduceToNat, pe4, pf4, b_eqi, b_nei, b_lt, b_le, b_gt, b_ge, fn_an0, fn_an1, fn_an4, fn_an5, bc_01, bc_012, bc_015, bc_0145, bc_0147, bc_016, bc_0167, bc_017, bc_03, bc_035, bc_0347, beq_self_eq_true, bne_self_eq_false, Int.reduceBEq, Int.reduceBNe, Int.reduceLT, Int.reduceLE, Int.reduceGT, decide_true, decide_false, eqB_self, la_cons, la_nil, b_plus, ed, wk, wku, len_str, o_cvt, toU_int, b_rem, eqS_rem, rm_tt hk0, u64_int, remA_int, er, i64_int, o_cvi, toI_int, wr1, wr2, ldF, ld_9, hd_get, cells_fn, one_fn, ba_face, t2, t3, t7, t8, t9, g0, ew])
      refine ih n _ _ (by omega) ⟨i + 1, s'.nx + 1, 2, false, Mb, by omega, by simp only [rB, rP, rQ, boolA, intA, resultA, resA, reduceIte, reduceCtorEq, Nat.reduceAdd, Nat.reduceLT, Nat.reduceEqDiff, UInt8.reduceToNat, t2], by simp only [rB, rP, rQ, boolA, intA, resultA, resA, reduceIte, reduceCtorEq, Nat.reduceAdd, Nat.reduceLT, Nat.reduceEqDiff, UInt8.reduceToNat, t3], by simp only [rB, rP, rQ, boolA, intA, resultA, resA, reduceIte, reduceCtorEq, Nat.reduceAdd, Nat.reduceLT, Nat.reduceEqDiff, UInt8.reduceToNat, t7], by simp only [rB, rP, rQ, boolA, intA, resultA, resA, reduceIte, reduceCtorEq, Nat.reduceAdd, Nat.reduceLT, Nat.reduceEqDiff, UInt8.reduceToNat], by simp only [rB, rP, rQ, boolA, intA, resultA, resA, reduceIte, reduceCtorEq, Nat.reduceAdd, Nat.reduceLT, Nat.reduceEqDiff, UInt8.reduceToNat], by omega, Or.inr ⟨rfl, rfl⟩, hW.sub (fun q hq => ?_), h⟩
      simp only [List.mem_cons, List.not_mem_nil, or_false] at hq ⊢
      rcases hq with rfl | rfl
      · exact Or.inl rfl
      · exact Or.inr (Or.inr rfl)
  | zero =>
    have hik : i = k := by omega
    subst hik
    have g0 : decide ((i : Int) < (i : Int)) = false := by rw [decide_eq_false_iff_not]; omega
    unfold cycT cycE at h
    obtain ⟨a1, M1, e1, p1, h⟩ := ask_inv h
    have p1 := st_of p1
    obtain ⟨a2, M2, e2, p2, h⟩ := ask_inv h
    have p2 := st_of p2
    obtain ⟨a3, M3, e3, p3, h⟩ := ask_inv h
    have p3 := st_of p3
    obtain ⟨a4, M4, e4, p4, h⟩ := ask_inv h
    have p4 := st_of p4
    obtain ⟨a5, M5, e5, p5, h⟩ := ask_inv h
    have p5 := st_of p5
    obtain ⟨a6, M6, e6, p6, h⟩ := ask_inv h
    have p6 := st_of p6
    obtain ⟨a7, M7, e7, p7, h⟩ := ask_inv h
    have p7 := st_of p7
    obtain ⟨a8, M8, e8, p8, h⟩ := ask_inv h
    have p8 := st_of p8
    obtain ⟨a9, M9, e9, p9, h⟩ := ask_inv h
    have p9 := st_of p9
    obtain ⟨a10, M10, e10, p10, h⟩ := ask_inv h
    have p10 := ns_of p10
    have ix := ix_t (q := q) (i := i) (n := i + 1) (ex := ex) (by omega)
    have at1 := dps_at (n := i + 1) (i := i) (by omega)
    have ix2 := ix_t (q := q) (i := 1 + r) (n := i + 1) (ex := ex) (by omega)
    have at2 := dps_at (n := i + 1) (i := 1 + r) (by omega)
    have fa : binFast .add (.str (dpL i)) (.str [47, 122]) = some (.str (dpL i ++ [47, 122])) := b_add (by rw [dp_len]; simp; omega)
    repeat (first | with_reducible (refine w_one H ?_; constructor) | simp only [rB, rP, rQ, boolA, intA, resultA, resA, reduceIte, reduceCtorEq, Nat.reduceAdd, Nat.reduceLT, Nat.reduceEqDiff, UInt8.reduceToNat, pe4, pf4, b_eqi, b_nei, b_lt, b_le, b_gt, b_ge, fn_an0, fn_an1, fn_an4, fn_an5, bc_01, bc_012, bc_015, bc_0145, bc_0147, bc_016, bc_0167, bc_017, bc_03, bc_035, bc_0347, beq_self_eq_true, bne_self_eq_false, Int.reduceBEq, Int.reduceBNe, Int.reduceLT, Int.reduceLE, Int.reduceGT, decide_true, decide_false, eqB_self, la_cons, la_nil, b_plus, ed, wk, wku, len_str, o_cvt, toU_int, b_rem, eqS_rem, rm_tt hk0, u64_int, remA_int, er, i64_int, o_cvi, toI_int, wr1, wr2, ldF, ld_9, hd_get, cells_fn, one_fn, ba_face, t2, t3, t7, t8, t9, g0, ix, at1, ix2, at2, fa, hW.get0, hW.get1] | (with_reducible refine lmake_c ok3 hW (by assumption) (by assumption) ?_; intro s hW hl) | (with_reducible refine lstatus_c ok3 hW (by assumption) (by assumption) ?_; intro s hW hl) | (with_reducible refine lwrite_c ok3 hW (by assumption) (by assumption) ?_; intro s hW hl) | (with_reducible refine lread_c ok3 hW (by assumption) (by assumption) ?_; intro s hW hl) | (with_reducible refine cyc1_c hW hW.get1 (by assumption) (by assumption) ?_; intro s hW hl) | (with_reducible refine w_plan H (i := 12) (.take 0 (.take 1 (.take 2 (.take 3 (.take 4 (.take 5 (.take 6 (.take 7 (.take 8 (.take 9 (.take 10 (.take 11 (.alt 12 [0, 1, 2, 3, 4, 5, 6, 7, 8, 9, 10, 11] (.take 13 (.take 14 (.take 15 (.take 16 (.alt 17 [0, 1, 2, 3, 4, 5, 6, 7, 8, 9, 10, 11, 12, 13, 14, 15, 16] (.take 18 (.take 19 (.take 20 (.take 21 (.alt 22 [0, 1, 2, 3, 4, 5, 6, 7, 8, 9, 10, 11, 12, 13, 14, 15, 16, 17, 18, 19, 20, 21] (.take 23 (.take 24 (.take 25 (.take 26 (.alt 27 [0, 1, 2, 5, 6, 10, 11, 12, 13, 14, 15, 16, 17, 18, 19, 20, 21, 22, 23, 24, 25, 26] (.take 28 (.take 29 (.take 30 (.take 31 (.alt 32 [12, 14, 15, 16, 17, 18, 19, 20, 21, 22, 23, 24, 25, 26, 27, 28, 29, 30, 31] (.take 33 (.take 34 (.take 35 (.take 36 (.alt 37 [17, 19, 20, 21, 22, 23, 24, 25, 26, 27, 28, 29, 30, 31, 32, 33, 34, 35, 36] (.take 38 (.take 39 (.take 40 (.take 41 (.alt 42 [22, 24, 25, 26, 27, 28, 29, 30, 31, 32, 33, 34, 35, 36, 37, 38, 39, 40, 41] (.take 43 (.take 44 (.take 45 (.take 46 (.alt 47 [27, 29, 30, 31, 32, 33, 34, 35, 36, 37, 38, 39, 40, 41, 42, 43, 44, 45, 46] (.alt 48 [27, 29, 30, 31, 32, 33, 34, 35, 36, 37, 38, 39, 40, 41, 42, 43, 44, 45] (.alt 49 [27, 29, 30, 31, 32, 33, 34, 35, 36, 37, 38, 39, 40, 41, 42, 43, 44, 45, 46, 47, 48] (.take 50 (.take 51 (.done))) (.yes)) (.yes)) (.alt 48 [27, 29, 30, 31, 32, 33, 34, 35, 36, 37, 38, 39, 40, 41, 42, 43, 44, 45] (.alt 47 [27, 29, 30, 31, 32, 33, 34, 35, 36, 37, 38, 39, 40, 41, 42, 43, 44, 45, 46] (.alt 49 [27, 29, 30, 31, 32, 33, 34, 35, 36, 37, 38, 39, 40, 41, 42, 43, 44, 45, 46, 47, 48] (.take 50 (.take 51 (.done))) (.yes)) (.yes)) (.yes))))))) (.yes)))))) (.yes)))))) (.yes)))))) (.yes)))))) (.yes)))))) (.yes)))))) (.yes)))))))))))))) rfl (by kernel_rfl) ?_))
    rw [Bool.and_eq_true]
    constructor
    · refine lnames_c ok3 hW e10 p10 ?_
      intro s2 V hW hl hV
      repeat (first | with_reducible (refine w_one H ?_; constructor) | simp only [rB, rP, rQ, boolA, intA, resultA, resA, reduceIte, reduceCtorEq, Nat.reduceAdd, Nat.reduceLT, Nat.reduceEqDiff, UInt8.reduceToNat, pe4, pf4, b_eqi, b_nei, b_lt, b_le, b_gt, b_ge, fn_an0, fn_an1, fn_an4, fn_an5, bc_01, bc_012, bc_015, bc_0145, bc_0147, bc_016, bc_0167, bc_017, bc_03, bc_035, bc_0347, beq_self_eq_true, bne_self_eq_false, Int.reduceBEq, Int.reduceBNe, Int.reduceLT, Int.reduceLE, Int.reduceGT, decide_true, decide_false, eqB_self, la_cons, la_nil, b_plus, ed, wk, wku, len_str, o_cvt, toU_int, b_rem, eqS_rem, rm_tt hk0, u64_int, remA_int, er, i64_int, o_cvi, toI_int, wr1, wr2, ldF, ld_9, hd_get, cells_fn, one_fn, ba_face, bs_3])
      refine same_c (hV.ext hW.below (Ext.alloc _ _)) slv_3 (by simp) ?_
      repeat (first | with_reducible (refine w_one H ?_; constructor) | simp only [rB, rP, rQ, boolA, intA, resultA, resA, reduceIte, reduceCtorEq, Nat.reduceAdd, Nat.reduceLT, Nat.reduceEqDiff, UInt8.reduceToNat, pe4, pf4, b_eqi, b_nei, b_lt, b_le, b_gt, b_ge, fn_an0, fn_an1, fn_an4, fn_an5, bc_01, bc_012, bc_015, bc_0145, bc_0147, bc_016, bc_0167, bc_017, bc_03, bc_035, bc_0347, beq_self_eq_true, bne_self_eq_false, Int.reduceBEq, Int.reduceBNe, Int.reduceLT, Int.reduceLE, Int.reduceGT, decide_true, decide_false, eqB_self, la_cons, la_nil, b_plus, ed, wk, wku, len_str, o_cvt, toU_int, b_rem, eqS_rem, rm_tt hk0, u64_int, remA_int, er, i64_int, o_cvi, toI_int, wr1, wr2, ldF, ld_9, hd_get, cells_fn, one_fn, ba_face, Tryz.results39])
      rfl
    · have n3 := hW.ne1
      repeat (first | with_reducible (refine w_one H ?_; constructor) | simp only [rB, rP, rQ, boolA, intA, resultA, resA, reduceIte, reduceCtorEq, Nat.reduceAdd, Nat.reduceLT, Nat.reduceEqDiff, UInt8.reduceToNat, pe4, pf4, b_eqi, b_nei, b_lt, b_le, b_gt, b_ge, fn_an0, fn_an1, fn_an4, fn_an5, bc_01, bc_012, bc_015, bc_0145, bc_0147, bc_016, bc_0167, bc_017, bc_03, bc_035, bc_0347, beq_self_eq_true, bne_self_eq_false, Int.reduceBEq, Int.reduceBNe, Int.reduceLT, Int.reduceLE, Int.reduceGT, decide_true, decide_false, eqB_self, la_cons, la_nil, b_plus, ed, wk, wku, len_str, o_cvt, toU_int, b_rem, eqS_rem, rm_tt hk0, u64_int, remA_int, er, i64_int, o_cvi, toI_int, wr1, wr2, ldF, ld_9, hd_get, cells_fn, one_fn, ba_face, bs_3, hW.get0, hW.get1, n3])
      refine lnames_c ok3 (hW.alloc (.cells [.str [100], .str [102], .str [109]] 9 0)) e10 p10 ?_
      intro s2 V hW hl hV
      repeat (first | with_reducible (refine w_one H ?_; constructor) | simp only [rB, rP, rQ, boolA, intA, resultA, resA, reduceIte, reduceCtorEq, Nat.reduceAdd, Nat.reduceLT, Nat.reduceEqDiff, UInt8.reduceToNat, pe4, pf4, b_eqi, b_nei, b_lt, b_le, b_gt, b_ge, fn_an0, fn_an1, fn_an4, fn_an5, bc_01, bc_012, bc_015, bc_0145, bc_0147, bc_016, bc_0167, bc_017, bc_03, bc_035, bc_0347, beq_self_eq_true, bne_self_eq_false, Int.reduceBEq, Int.reduceBNe, Int.reduceLT, Int.reduceLE, Int.reduceGT, decide_true, decide_false, eqB_self, la_cons, la_nil, b_plus, ed, wk, wku, len_str, o_cvt, toU_int, b_rem, eqS_rem, rm_tt hk0, u64_int, remA_int, er, i64_int, o_cvi, toI_int, wr1, wr2, ldF, ld_9, hd_get, cells_fn, one_fn, ba_face, hW.get0, hW.get1])
      refine same_c hV (Or.inr (Or.inr ⟨_, 0, 0, 3, true, [.str [100], .str [102], .str [109]], 0, rfl, hW.get0, by simp, rfl, by simp⟩)) (by simp) ?_
      repeat (first | with_reducible (refine w_one H ?_; constructor) | simp only [rB, rP, rQ, boolA, intA, resultA, resA, reduceIte, reduceCtorEq, Nat.reduceAdd, Nat.reduceLT, Nat.reduceEqDiff, UInt8.reduceToNat, pe4, pf4, b_eqi, b_nei, b_lt, b_le, b_gt, b_ge, fn_an0, fn_an1, fn_an4, fn_an5, bc_01, bc_012, bc_015, bc_0145, bc_0147, bc_016, bc_0167, bc_017, bc_03, bc_035, bc_0347, beq_self_eq_true, bne_self_eq_false, Int.reduceBEq, Int.reduceBNe, Int.reduceLT, Int.reduceLE, Int.reduceGT, decide_true, decide_false, eqB_self, la_cons, la_nil, b_plus, ed, wk, wku, len_str, o_cvt, toU_int, b_rem, eqS_rem, rm_tt hk0, u64_int, remA_int, er, i64_int, o_cvi, toI_int, wr1, wr2, ldF, ld_9, hd_get, cells_fn, one_fn, ba_face, Tryz.results39])
      rfl
theorem cycRun : allN 4 (fun d => allN (2 + d) (fun r => cycT (cycE (2 + d) (1 + r)) (2 + d) 0 M0)) = true := by kernel_rfl
end Go.AX
namespace Go.AX
open Go.Proofs Go.RowKit
set_option maxRecDepth 1000000
set_option linter.unusedSimpArgs false
set_option linter.unusedVariables false
theorem cyclesAll (a0 a1 : Int) {s : St} (hW : WL s M0 []) : (sem Tryz.prog).call 39 [.fn 62 [.ptr 13 0], .raw (.int .i64 a0), .raw (.int .i64 a1)] s (fun v _ => isTrue v) (fun _ _ => false) = true := by
  obtain ⟨d, hd, ed⟩ := and_lt (x := a0) (m := 3) (by decide)
  obtain ⟨r, hr, er⟩ := rem_lt (z := a1) (m := 2 + d) (by omega)
  exact cycles_c a0 a1 ed hd rfl er hr hW (allN_at (allN_at cycRun (i := d) (by omega)) (i := r) hr)
theorem cyclesWalk (a0 a1 : Int) (w : Go.World) : Calls Tryz.prog 11 #[.int .i64 a0, .int .i64 a1] w fun e w' => e = .returned (.bool true) ∧ Below w.heap.size w w' := by
  refine sem_walk (args := [.raw (.int .i64 a0), .raw (.int .i64 a1)]) (Args := [.int .i64 a0, .int .i64 a1]) (VRels.cons (by simp [VRel]) (VRels.cons (by simp [VRel]) VRels.nil)) ?_ w
  have H := ok3
  show (sem Tryz.prog).call 11 [.raw (.int .i64 a0), .raw (.int .i64 a1)] st0 _ _ = true
  refine w_call H 12 fn_11 rfl rfl ?_
  repeat (first | with_reducible (refine w_one H ?_; constructor) | simp only [rB, rP, rQ, boolA, intA, resultA, resA, reduceIte, reduceCtorEq, Nat.reduceAdd, Nat.reduceLT, Nat.reduceEqDiff, UInt8.reduceToNat, pe3, pf3, c_awake, Tryz.results11] | (with_reducible refine faceW_c ?_; intro s hW) | (with_reducible refine call_true (cyclesAll a0 a1 hW) (fun s' => ?_)))
  rfl
end Go.AX
