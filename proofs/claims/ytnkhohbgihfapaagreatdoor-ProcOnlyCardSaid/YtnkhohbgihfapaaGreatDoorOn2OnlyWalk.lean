import Derived.Test.YtnkhohbgihfapaaGreatDoorOn2H6
import Derived.Test.YtnkhohbgihfapaaGreatDoorOn2B3
import Derived.Test.YtnkhohbgihfapaaGreatDoorOn2D1
import Derived.Test.YtnkhohbgihfapaaGreatDoorOn2C4
import Derived.Test.YtnkhohbgihfapaaGreatDoorOn2H1
set_option linter.unusedVariables false
set_option linter.unusedSimpArgs false
set_option linter.defProp false
namespace Go.AX
open Go.Proofs Go.RowKit
set_option maxRecDepth 1000000
set_option maxHeartbeats 400000000
set_option linter.unusedSimpArgs false
set_option linter.unusedVariables false
theorem eq_pr {i j : Nat} {s : St} {d : Option (AV × List Nat)} : eqS TE s .eql 32 (.ptr i j) (.raw (.pointer none)) d = some (.raw (.bool false), []) := by kernel_rfl
theorem eq_mt {i j : Nat} {s : St} {d : Option (AV × List Nat)} : eqS TE s .eql 66 (.ptr i j) (.raw (.pointer none)) d = some (.raw (.bool false), []) := by kernel_rfl
theorem fa_pr1 {x : Nat} : fieldAddrA TE 70 (.ptr x 0) 1 = some (.ptr x 1) := by kernel_rfl
theorem fa_pr2 {x : Nat} : fieldAddrA TE 70 (.ptr x 0) 2 = some (.ptr x 2) := by kernel_rfl
theorem fa_mt {x : Nat} : fieldAddrA TE 117 (.ptr x 0) 0 = some (.ptr x 0) := by kernel_rfl
theorem fa_cl0 {x : Nat} : fieldAddrA TE 47 (.ptr x 0) 0 = some (.ptr x 0) := by kernel_rfl
theorem fa_cl1 {x : Nat} : fieldAddrA TE 47 (.ptr x 0) 1 = some (.ptr x 1) := by kernel_rfl
theorem fa_cl2 {x : Nat} : fieldAddrA TE 47 (.ptr x 0) 2 = some (.ptr x 2) := by kernel_rfl
theorem ld_mt (s : St) (x o : Nat) : loadA TE s 66 (.ptr x o) = ldC s x o := ld_gen (by kernel_rfl)
theorem ld_ms (s : St) (x o : Nat) : loadA TE s 115 (.ptr x o) = ldC s x o := ld_gen (by kernel_rfl)
theorem ld_sp (s : St) (x o : Nat) : loadA TE s 72 (.ptr x o) = ldC s x o := ld_gen (by kernel_rfl)
theorem ln_ms {s : St} : lenOpA TE s [115] [nilS] = some (.raw (.int .i64 0)) := by kernel_rfl
theorem ids_nilS : idsOf nilS = [] := rfl
theorem tcwd_c {s : St} (H : Ok TE Tryz.prog pr3) {M : Md} {x : Nat} {L : List (Nat × AO)} (hW : World s x M L) {cw : List Nat} (h : pathT M.T 20 M.cwd = some cw) {kr kp : AV → St → Bool} (hk : kr (.str cw) s = true) : (sem Tryz.prog).call 50 [.ptr x 0] s kr kp = true := by
  refine w_call H 10 fn_50 rfl rfl ?_
  obtain ⟨hB, ι, μ, R, hL⟩ := hW
  have hx := R.tr
  unfold trA at hx
  have hp := pathT_to R.hom h
  repeat (first | with_reducible (refine w_one H ?_; constructor) | simp only [rB, rP, rQ, boolA, intA, resultA, resA, reduceIte, reduceCtorEq, Nat.reduceAdd, Nat.reduceLT, Nat.reduceEqDiff, UInt8.reduceToNat, pe3, pf3, b_pp, eq_tn, fr_1', ld_103, hx, Tryz.results50] | (with_reducible refine path_c H R.rep hp ?_))
  exact hk
theorem bs_sp {s : St} {a : Nat} : buildSliceA TE s 71 2 [(0, .ptr a 1), (1, .ptr a 2)] = some (.slice s.nx 0 2 0 2 true, s.alloc (.cells [.ptr a 1, .ptr a 2] 72 0)) := by kernel_rfl
theorem sl_sp1 {q : Nat} : sliceOpA TE 71 (.slice q 0 2 0 2 true) none (some (.raw (.int .i64 1))) none = some (.slice q 0 1 0 2 true) := by kernel_rfl
theorem sl_sp2 {q : Nat} : sliceOpA TE 71 (.slice q 0 2 0 2 true) none (some (.raw (.int .i64 2))) none = some (.slice q 0 2 0 2 true) := by kernel_rfl
theorem ln_sp1 {s : St} {q : Nat} : lenOpA TE s [71] [.slice q 0 1 0 2 true] = some (.raw (.int .i64 1)) := by kernel_rfl
theorem ln_sp2 {s : St} {q : Nat} : lenOpA TE s [71] [.slice q 0 2 0 2 true] = some (.raw (.int .i64 2)) := by kernel_rfl
theorem ix_sp10 {q : Nat} : indexAddrA TE 71 (.slice q 0 1 0 2 true) (.raw (.int .i64 0)) = some (.ptr q 0) := by kernel_rfl
theorem ix_sp20 {q : Nat} : indexAddrA TE 71 (.slice q 0 2 0 2 true) (.raw (.int .i64 0)) = some (.ptr q 0) := by kernel_rfl
theorem ix_sp21 {q : Nat} : indexAddrA TE 71 (.slice q 0 2 0 2 true) (.raw (.int .i64 1)) = some (.ptr q 1) := by kernel_rfl
theorem bd_anS {n : Int} : buildA TE 43 [(0, .raw (.int .i64 n))] = some (.agg (anL n 0 0 0 [] nilS)) := by kernel_rfl
def pathedN (op : Int) : Int := bif decide (op = 13) then 2 else bif (decide (1 ≤ op) && decide (op ≤ 14)) || decide (op = 18) then 1 else 0
theorem pathedO_c {s : St} (H : Ok TE Tryz.prog pr3) {op : Int} {kr kp : AV → St → Bool} (hk : kr (.raw (.int .i64 (pathedN op))) s = true) : (sem Tryz.prog).call 22 [.raw (.int .i64 op)] s kr kp = true := by
  refine w_call H 15 fn_22 rfl rfl ?_
  unfold pathedN at hk
  by_cases h1 : op = 13
  · subst h1
    have g1 : ((13 : Int) == 13) = true := rfl
    repeat (first | with_reducible (refine w_one H ?_; constructor) | simp only [rB, rP, rQ, boolA, intA, resultA, resA, reduceIte, reduceCtorEq, Nat.reduceAdd, Nat.reduceLT, Nat.reduceEqDiff, UInt8.reduceToNat, pe3, pf3, b_eqi, b_ge, b_le, g1, Tryz.results22])
    exact hk
  have g1 : (op == 13) = false := by rw [beq_eq_false_iff_ne]; omega
  rw [decide_eq_false h1, cond_false] at hk
  by_cases h2 : 1 ≤ op
  · have g2 : decide (op ≥ 1) = true := decide_eq_true h2
    rw [decide_eq_true h2, Bool.true_and] at hk
    by_cases h3 : op ≤ 14
    · have g3 : decide (op ≤ 14) = true := decide_eq_true h3
      rw [g3, Bool.true_or, cond_true] at hk
      repeat (first | with_reducible (refine w_one H ?_; constructor) | simp only [rB, rP, rQ, boolA, intA, resultA, resA, reduceIte, reduceCtorEq, Nat.reduceAdd, Nat.reduceLT, Nat.reduceEqDiff, UInt8.reduceToNat, pe3, pf3, b_eqi, b_ge, b_le, g1, g2, g3, Tryz.results22])
      exact hk
    · have g3 : decide (op ≤ 14) = false := decide_eq_false h3
      rw [g3, Bool.false_or] at hk
      by_cases h4 : op = 18
      · subst h4
        have g4 : ((18 : Int) == 18) = true := rfl
        repeat (first | with_reducible (refine w_one H ?_; constructor) | simp only [rB, rP, rQ, boolA, intA, resultA, resA, reduceIte, reduceCtorEq, Nat.reduceAdd, Nat.reduceLT, Nat.reduceEqDiff, UInt8.reduceToNat, pe3, pf3, b_eqi, b_ge, b_le, g1, g2, g3, g4, Tryz.results22])
        exact hk
      · have g4 : (op == 18) = false := by rw [beq_eq_false_iff_ne]; omega
        rw [decide_eq_false h4, cond_false] at hk
        repeat (first | with_reducible (refine w_one H ?_; constructor) | simp only [rB, rP, rQ, boolA, intA, resultA, resA, reduceIte, reduceCtorEq, Nat.reduceAdd, Nat.reduceLT, Nat.reduceEqDiff, UInt8.reduceToNat, pe3, pf3, b_eqi, b_ge, b_le, g1, g2, g3, g4, Tryz.results22])
        exact hk
  · have g2 : decide (op ≥ 1) = false := decide_eq_false h2
    have g4 : (op == 18) = false := by rw [beq_eq_false_iff_ne]; omega
    rw [decide_eq_false h2, Bool.false_and, Bool.false_or, decide_eq_false (by omega : ¬ op = 18), cond_false] at hk
    repeat (first | with_reducible (refine w_one H ?_; constructor) | simp only [rB, rP, rQ, boolA, intA, resultA, resA, reduceIte, reduceCtorEq, Nat.reduceAdd, Nat.reduceLT, Nat.reduceEqDiff, UInt8.reduceToNat, pe3, pf3, b_eqi, b_ge, b_le, g1, g2, g4, Tryz.results22])
    exact hk
def anS (n : Int) : An := ⟨n, 0, 0, 0, [], []⟩
def prO (m y x : Nat) (I W : AV) : AO := .cells [.ptr m 0, .ptr y 0, .ptr x 0, I, W] 70 0
def tb1V (q : Nat) : AO := .cells [.slice q 0 1 0 1 false] 117 0
def rowV (on : Bool) (at' fr : List Nat) : AO := .cells [.str at', .str fr, .raw (.bool on)] 38 6
def mclB (p : List Nat) : Bool := match cleanL [] (47 :: p) with | (q, e) => Nat.beq e 0 && eqB q p
theorem mclean1_c {s : St} (H : Ok TE Tryz.prog pr3) {p : List Nat} (hp : p.length ≤ 1000) {kr kp : AV → St → Bool} (hk : kr (.raw (.bool (mclB p))) s = true) : (sem Tryz.prog).call 44 [.str p] s kr kp = true := by
  refine w_call H 18 fn_44 rfl rfl ?_
  have f1 : binFast .add (.str [47]) (.str p) = some (.str (47 :: p)) := b_add (by simp; omega)
  have ec := fun {r a dst k kp} => c3_clean (r := r) (a := a) (dst := dst) (s := s) (k := k) (kp := kp) (x := []) (y := 47 :: p) (by simp) rfl rfl
  unfold mclB at hk
  generalize cleanL [] (47 :: p) = x at ec hk
  obtain ⟨q, e⟩ := x
  simp only at hk
  by_cases he : e = 0
  · subst he
    have g0 : (((0 : Nat) : Int) == 0) = true := rfl
    cases hq : eqB q p with
    | true =>
      rw [hq] at hk
      repeat (first | with_reducible (refine w_one H ?_; constructor) | simp only [rB, rP, rQ, boolA, intA, resultA, resA, reduceIte, reduceCtorEq, Nat.reduceAdd, Nat.reduceLT, Nat.reduceEqDiff, UInt8.reduceToNat, pe3, pf3, b_eqi, b_eqs, f1, ec, outC, hq, g0, Tryz.results44])
      exact hk
    | false =>
      rw [hq] at hk
      repeat (first | with_reducible (refine w_one H ?_; constructor) | simp only [rB, rP, rQ, boolA, intA, resultA, resA, reduceIte, reduceCtorEq, Nat.reduceAdd, Nat.reduceLT, Nat.reduceEqDiff, UInt8.reduceToNat, pe3, pf3, b_eqi, b_eqs, f1, ec, outC, hq, g0, Tryz.results44])
      exact hk
  · have g0 : ((e : Int) == 0) = false := by rw [beq_eq_false_iff_ne]; omega
    rw [beq_ne he] at hk
    repeat (first | with_reducible (refine w_one H ?_; constructor) | simp only [rB, rP, rQ, boolA, intA, resultA, resA, reduceIte, reduceCtorEq, Nat.reduceAdd, Nat.reduceLT, Nat.reduceEqDiff, UInt8.reduceToNat, pe3, pf3, b_eqi, b_eqs, f1, ec, outC, g0, Tryz.results44])
    exact hk
def preB (p q : List Nat) : Bool := bif decide ((p.length : Int) ≥ (q.length : Int)) then eqB (p.take q.length) q else false
theorem pre_c {s : St} (H : Ok TE Tryz.prog pr3) {p q : List Nat} {kr kp : AV → St → Bool} (hk : kr (.raw (.bool (preB p q))) s = true) : (sem Tryz.prog).call 130 [.str p, .str q] s kr kp = true := by
  refine w_call H 18 fn_130 rfl rfl ?_
  unfold preB at hk
  cases hd : decide ((p.length : Int) ≥ (q.length : Int)) with
  | false =>
    rw [hd] at hk
    repeat (first | with_reducible (refine w_one H ?_; constructor) | simp only [rB, rP, rQ, boolA, intA, resultA, resA, reduceIte, reduceCtorEq, Nat.reduceAdd, Nat.reduceLT, Nat.reduceEqDiff, UInt8.reduceToNat, pe3, pf3, len_str, b_ge, hd, Tryz.results130])
    exact hk
  | true =>
    rw [hd] at hk
    have hle : q.length ≤ p.length := by have := of_decide_eq_true hd; omega
    have sl : sliceOpA TE 9 (.str p) none (some (.raw (.int .i64 (q.length : Int)))) none = some (.str (p.take q.length)) := by
      rw [sl_str, sb_hi no_cast hle]
      simp
    repeat (first | with_reducible (refine w_one H ?_; constructor) | simp only [rB, rP, rQ, boolA, intA, resultA, resA, reduceIte, reduceCtorEq, Nat.reduceAdd, Nat.reduceLT, Nat.reduceEqDiff, UInt8.reduceToNat, pe3, pf3, len_str, b_ge, b_eqs, hd, sl, Tryz.results130])
    exact hk
theorem pre2_c {s : St} (H : Ok TE Tryz.prog pr3) {p q : List Nat} {kr kp : AV → St → Bool} (hk : kr (.raw (.bool (preB p q))) s = true) : (sem Tryz.prog).call 86 [.str p, .str q] s kr kp = true := by
  refine w_call H 8 fn_86 rfl rfl ?_
  repeat (first | with_reducible (refine w_one H ?_; constructor) | simp only [rB, rP, rQ, boolA, intA, resultA, resA, reduceIte, reduceCtorEq, Nat.reduceAdd, Nat.reduceLT, Nat.reduceEqDiff, UInt8.reduceToNat, pe3, pf3, Tryz.results86] | (with_reducible refine pre_c H ?_))
  exact hk
def belB (p q : List Nat) : Bool := bif eqB q [] then true else bif eqB p q then true else preB p (q ++ [47])
theorem pbelowO_c {s : St} (H : Ok TE Tryz.prog pr3) {p q : List Nat} (hq : q.length ≤ 1000) {kr kp : AV → St → Bool} (hk : kr (.raw (.bool (belB p q))) s = true) : (sem Tryz.prog).call 45 [.str p, .str q] s kr kp = true := by
  refine w_call H 18 fn_45 rfl rfl ?_
  unfold belB at hk
  have f1 : binFast .add (.str q) (.str [47]) = some (.str (q ++ [47])) := b_add (by simp; omega)
  cases h1 : eqB q [] with
  | true =>
    rw [h1] at hk
    repeat (first | with_reducible (refine w_one H ?_; constructor) | simp only [rB, rP, rQ, boolA, intA, resultA, resA, reduceIte, reduceCtorEq, Nat.reduceAdd, Nat.reduceLT, Nat.reduceEqDiff, UInt8.reduceToNat, pe3, pf3, b_eqs, h1, Tryz.results45])
    exact hk
  | false =>
    rw [h1] at hk
    cases h2 : eqB p q with
    | true =>
      rw [h2] at hk
      repeat (first | with_reducible (refine w_one H ?_; constructor) | simp only [rB, rP, rQ, boolA, intA, resultA, resA, reduceIte, reduceCtorEq, Nat.reduceAdd, Nat.reduceLT, Nat.reduceEqDiff, UInt8.reduceToNat, pe3, pf3, b_eqs, h1, h2, Tryz.results45])
      exact hk
    | false =>
      rw [h2] at hk
      repeat (first | with_reducible (refine w_one H ?_; constructor) | simp only [rB, rP, rQ, boolA, intA, resultA, resA, reduceIte, reduceCtorEq, Nat.reduceAdd, Nat.reduceLT, Nat.reduceEqDiff, UInt8.reduceToNat, pe3, pf3, b_eqs, h1, h2, f1, Tryz.results45] | (with_reducible refine pre2_c H ?_))
      exact hk
theorem belB_len {p q : List Nat} (h : belB p q = true) : q.length ≤ p.length := by
  unfold belB at h
  cases h1 : eqB q [] with
  | true => rw [eqB_dec] at h1; rw [of_decide_eq_true h1]; simp
  | false =>
    rw [h1, cond_false] at h
    cases h2 : eqB p q with
    | true => rw [eqB_dec] at h2; rw [of_decide_eq_true h2]; simp
    | false =>
      rw [h2, cond_false] at h
      unfold preB at h
      cases hd : decide ((p.length : Int) ≥ ((q ++ [47]).length : Int)) with
      | false => rw [hd] at h; cases h
      | true => have := of_decide_eq_true hd; simp at this; omega
def restP (r : List Nat) : List Nat := bif eqB r [] then r else r.drop 1
def wk1 (at' fr p : List Nat) : List Nat := bif mclB p && belB p at' then joinP fr (restP (p.drop at'.length)) else p
def hitM (on : Bool) (at' p : List Nat) : Bool := bif mclB p && belB p at' then on else false
theorem wk1_le {at' fr p : List Nat} : (wk1 at' fr p).length ≤ p.length + fr.length + 1 := by
  unfold wk1
  cases mclB p && belB p at' with
  | false => simp only [cond_false]; omega
  | true =>
    have h1 : (restP (p.drop at'.length)).length ≤ p.length := by
      unfold restP
      cases eqB (p.drop at'.length) [] <;> simp <;> omega
    simp only [cond_true]
    generalize restP (p.drop at'.length) = r at *
    unfold joinP
    cases eqB fr [] with
    | true => simp; omega
    | false =>
      cases eqB r [] <;> simp <;> omega
theorem ln_m1 {s : St} {q : Nat} : lenOpA TE s [115] [.slice q 0 1 0 1 false] = some (.raw (.int .i64 1)) := by kernel_rfl
theorem ix_m1 {q : Nat} : indexAddrA TE 115 (.slice q 0 1 0 1 false) (.raw (.int .i64 0)) = some (.ptr q 0) := by kernel_rfl
theorem all_mo {s : St} : allocA TE s 38 = some (.ptr s.nx 0, s.alloc (.cells [.str [], .str [], .raw (.bool false)] 38 0)) := by
  have : zeroOf TE 38 = some (.agg [.str [], .str [], .raw (.bool false)]) := by kernel_rfl
  simp only [allocA, this]; rfl
theorem size_mo : sizeT TE 38 = 3 := by kernel_rfl
theorem agg_mo : (match TE.info 38 with | some ti => isAggD ti.desc && Nat.beq ti.size 3 | none => false) = true := by kernel_rfl
theorem ld_mo {s : St} {x : Nat} : loadA TE s 38 (.ptr x 0) = ldG 3 (s.h.get x) := ldG_gen agg_mo
theorem ldG_mo {a0 a1 a2 : AV} {el fz : Nat} : ldG 3 (some (.cells [a0, a1, a2] el fz)) = some (.agg [a0, a1, a2]) := (rfl)
theorem st_mo {s : St} {x : Nat} {a b : List Nat} {c : Bool} : storeA TE s 38 (.ptr x 0) (.agg [.str a, .str b, .raw (.bool c)]) = stA s x (s.h.get x) [.str a, .str b, .raw (.bool c)] := by
  have hs := size_mo
  unfold sizeT at hs
  cases ht : TE.info 38 with
  | none => rw [ht] at hs; cases hs
  | some ti =>
    rw [ht] at hs
    simp only at hs
    have hall : [AV.str a, .str b, .raw (.bool c)].all AV.one = true := rfl
    simp only [storeA, ht, hs, cells_agg, storeCellsA, hall]
    show (bif true then _ else _) = _
    simp only [cond_true, stA, getCells]
    cases s.h.get x with
    | none => rfl
    | some y => cases y <;> rfl
theorem stA_mo {s : St} {x el fz : Nat} {a b a' b' : List Nat} {c c' : Bool} : stA s x (some (.cells [.str a, .str b, .raw (.bool c)] el fz)) [.str a', .str b', .raw (.bool c')] = some { s with h := s.h.set x (.cells [.str a', .str b', .raw (.bool c')] el fz) } := (rfl)
theorem fa_mo0 {x : Nat} : fieldAddrA TE 38 (.ptr x 0) 0 = some (.ptr x 0) := by kernel_rfl
theorem fa_mo1 {x : Nat} : fieldAddrA TE 38 (.ptr x 0) 1 = some (.ptr x 1) := by kernel_rfl
theorem fa_mo2 {x : Nat} : fieldAddrA TE 38 (.ptr x 0) 2 = some (.ptr x 2) := by kernel_rfl
theorem b_nes1 {a b : List Nat} : binFast .neq (.str a) (.str b) = some (boolA (!eqB a b)) := (rfl)
theorem ids_slq {i o l c k : Nat} {x : Bool} : idsOf (.slice i o l c k x) = [] := rfl
theorem sl_at {p : List Nat} {n : Nat} (h : n ≤ p.length) : sliceOpA TE 9 (.str p) (some (.raw (.int .i64 (n : Int)))) none none = some (.str (p.drop n)) := by
  rw [sl_str, sb_lo no_cast h (Nat.le_refl _)]
  simp only
  rw [List.take_of_length_le (by simp)]
theorem ext_put {s : St} {o o' : AO} : Ext s { h := (s.alloc o).h.set s.nx o', nx := s.nx + 1 } := by
  refine ⟨Nat.le_succ _, fun i hi => ?_⟩
  have : i ≠ s.nx := by omega
  show ((s.h.set s.nx o).set s.nx o').get i = _
  rw [Tr.get_set, if_neg this, Tr.get_set, if_neg this]
theorem below_put {s : St} {o o' : AO} (hB : Below0 s) : Below0 { h := (s.alloc o).h.set s.nx o', nx := s.nx + 1 } := by
  intro i x hx
  show i < s.nx + 1
  by_cases e : i = s.nx
  · omega
  · have : ((s.h.set s.nx o).set s.nx o').get i = some x := hx
    rw [Tr.get_set, if_neg e, Tr.get_set, if_neg e] at this
    have := hB _ _ this
    omega
theorem mwalk1_c {s : St} (H : Ok TE Tryz.prog pr3) {t q : Nat} {on : Bool} {at' fr : List Nat} (hB : Below0 s) (hT : s.h.get t = some (tb1V q)) (hQ : s.h.get q = some (rowV on at' fr)) {p : List Nat} (hp : p.length ≤ 1000) (ha : at'.length ≤ 1000) (hf : fr.length ≤ 1000) {kr kp : AV → St → Bool}
    (hk : ∀ s', Ext s s' → Below0 s' → kr (.tuple [.str (wk1 at' fr p), .raw (.bool (hitM on at' p))]) s' = true) : (sem Tryz.prog).call 51 [.ptr t 0, .str p] s kr kp = true := by
  refine w_call H 78 fn_51 rfl rfl ?_
  have ht := hB _ _ hT
  have hq := hB _ _ hQ
  have m1 : (t = s.nx) = False := by simp; omega
  have m2 : (q = s.nx) = False := by simp; omega
  have m3 : (s.nx = s.nx + 1) = False := by simp
  have m4 : (s.nx + 1 = s.nx) = False := by simp
  have m5 : (t = s.nx + 1) = False := by simp; omega
  have m6 : (q = s.nx + 1) = False := by simp; omega
  unfold tb1V at hT
  unfold rowV at hQ
  have g1 : decide ((0 : Int) < 1) = true := rfl
  have g2 : decide ((1 : Int) < 1) = false := rfl
  have g3 : decide ((-1 : Int) < 0) = true := rfl
  have g4 : decide ((0 : Int) < 0) = false := rfl
  have g5 : decide ((-1 : Int) ≥ 0) = false := rfl
  have i1 : IntKind.i64.wrap (0 + 1) = 1 := rfl
  unfold wk1 hitM at hk
  repeat (first | with_reducible (refine w_one H ?_; constructor) | simp only [rB, rP, rQ, boolA, intA, resultA, resA, reduceIte, reduceCtorEq, Nat.reduceAdd, Nat.reduceLT, Nat.reduceEqDiff, UInt8.reduceToNat, pe3, pf3, b_pp, eq_mt])
  refine mclean1_c H hp ?_
  cases hm : mclB p with
  | false =>
    rw [hm] at hk
    repeat (first | with_reducible (refine w_one H ?_; constructor) | simp only [rB, rP, rQ, boolA, intA, resultA, resA, reduceIte, reduceCtorEq, Nat.reduceAdd, Nat.reduceLT, Nat.reduceEqDiff, UInt8.reduceToNat, pe3, pf3, b_pp, eq_mt, Tryz.results51])
    exact hk s (Ext.refl s) hB
  | true =>
    rw [hm] at hk
    repeat (first | with_reducible (refine w_one H ?_; constructor) | simp only [rB, rP, rQ, boolA, intA, resultA, resA, reduceIte, reduceCtorEq, Nat.reduceAdd, Nat.reduceLT, Nat.reduceEqDiff, UInt8.reduceToNat, pe3, pf3, b_pp, eq_mt, fa_mt, ld_ms, hT, ln_m1, ids_slq])
    refine w_loop H ?_
    cases hb : belB p at' with
    | false =>
      rw [hb] at hk
      repeat (first | with_reducible (refine w_one H ?_; constructor) | simp only [rB, rP, rQ, boolA, intA, resultA, resA, reduceIte, reduceCtorEq, Nat.reduceAdd, Nat.reduceLT, Nat.reduceEqDiff, UInt8.reduceToNat, pe3, pf3, b_lt, g1, ix_m1, ld_mo, ldG_mo, hQ, all_mo, st_mo, stA_mo, fa_mo0, ld_9, b_ge, g5, hb, m1, m2, b_plus, i1] | (with_reducible refine w_plan H (i := 9) (.take 0 (.take 1 (.take 2 (.alt 3 [0, 1, 2] (.take 4 (.take 5 (.take 6 (.take 7 (.take 8 (.take 9 (.take 10 (.take 11 (.take 12 (.take 13 (.take 14 (.take 15 (.take 16 (.take 17 (.take 18 (.take 19 (.take 20 (.take 21 (.take 22 (.take 23 (.done))))))))))))))))))))) (.yes))))) rfl (by kernel_rfl) ?_) | (with_reducible refine pbelowO_c H ha ?_))
      refine w_loop H ?_
      repeat (first | with_reducible (refine w_one H ?_; constructor) | simp only [rB, rP, rQ, boolA, intA, resultA, resA, reduceIte, reduceCtorEq, Nat.reduceAdd, Nat.reduceLT, Nat.reduceEqDiff, UInt8.reduceToNat, pe3, pf3, b_lt, g2, g3, Tryz.results51])
      exact hk _ ext_put (below_put hB)
    | true =>
      rw [hb] at hk
      have hle := belB_len hb
      have sa := sl_at hle
      repeat (first | with_reducible (refine w_one H ?_; constructor) | simp only [rB, rP, rQ, boolA, intA, resultA, resA, reduceIte, reduceCtorEq, Nat.reduceAdd, Nat.reduceLT, Nat.reduceEqDiff, UInt8.reduceToNat, pe3, pf3, b_lt, g1, ix_m1, ld_mo, ldG_mo, hQ, all_mo, st_mo, stA_mo, fa_mo0, ld_9, b_ge, g5, hb, m1, m2, b_plus, i1] | (with_reducible refine w_plan H (i := 9) (.take 0 (.take 1 (.take 2 (.alt 3 [0, 1, 2] (.take 4 (.take 5 (.take 6 (.take 7 (.take 8 (.take 9 (.take 10 (.take 11 (.take 12 (.take 13 (.take 14 (.take 15 (.take 16 (.take 17 (.take 18 (.take 19 (.take 20 (.take 21 (.take 22 (.take 23 (.done))))))))))))))))))))) (.yes))))) rfl (by kernel_rfl) ?_) | (with_reducible refine pbelowO_c H ha ?_))
      refine w_loop H ?_
      cases hr : eqB (p.drop at'.length) [] with
      | true =>
        have e0 : restP (p.drop at'.length) = p.drop at'.length := by unfold restP; rw [hr]; rfl
        rw [e0] at hk
        have ej := fun {r a dst s k kp} => c3_join (r := r) (a := a) (dst := dst) (s := s) (k := k) (kp := kp) (x := fr) (y := p.drop at'.length) (Nat.ble_eq.mpr (by simp; omega))
        repeat (first | with_reducible (refine w_one H ?_; constructor) | simp only [rB, rP, rQ, boolA, intA, resultA, resA, reduceIte, reduceCtorEq, Nat.reduceAdd, Nat.reduceLT, Nat.reduceEqDiff, UInt8.reduceToNat, pe3, pf3, b_lt, g2, g4, ix_m1, ld_mo, ldG_mo, hT, hQ, all_mo, st_mo, stA_mo, fa_mt, ld_ms, fa_mo0, fa_mo1, fa_mo2, ld_9, ld_4, len_str, sa, b_nes1, b_eqs, hr, m1, m2, m3, m4, m5, m6, ej, Tryz.results51] | (with_reducible refine w_plan H (i := 18) (.take 0 (.take 1 (.take 2 (.take 4 (.take 5 (.alt 3 [0, 1, 2] (.take 6 (.take 7 (.done))) (.yes))))))) rfl (by kernel_rfl) ?_))
        exact hk _ (ext_put.trans ext_put) (below_put (below_put hB))
      | false =>
        have e0 : restP (p.drop at'.length) = (p.drop at'.length).drop 1 := by unfold restP; rw [hr]; rfl
        rw [e0] at hk
        have h1 : 1 ≤ (p.drop at'.length).length := by
          rcases Nat.eq_zero_or_pos (p.drop at'.length).length with h | h
          · rw [List.eq_nil_of_length_eq_zero h] at hr
            cases hr
          · exact h
        have sb : sliceOpA TE 9 (.str (p.drop at'.length)) (some (.raw (.int .i64 1))) none none = some (.str ((p.drop at'.length).drop 1)) := sl_at h1
        have ej := fun {r a dst s k kp} => c3_join (r := r) (a := a) (dst := dst) (s := s) (k := k) (kp := kp) (x := fr) (y := (p.drop at'.length).drop 1) (Nat.ble_eq.mpr (by simp; omega))
        generalize p.drop at'.length = rest at *
        repeat (first | with_reducible (refine w_one H ?_; constructor) | simp only [rB, rP, rQ, boolA, intA, resultA, resA, reduceIte, reduceCtorEq, Nat.reduceAdd, Nat.reduceLT, Nat.reduceEqDiff, UInt8.reduceToNat, pe3, pf3, b_lt, g2, g4, ix_m1, ld_mo, ldG_mo, hT, hQ, all_mo, st_mo, stA_mo, fa_mt, ld_ms, fa_mo0, fa_mo1, fa_mo2, ld_9, ld_4, len_str, sa, sb, b_nes1, b_eqs, hr, m1, m2, m3, m4, m5, m6, ej, Tryz.results51] | (with_reducible refine w_plan H (i := 18) (.take 0 (.take 1 (.take 2 (.take 4 (.take 5 (.alt 3 [0, 1, 2] (.take 6 (.take 7 (.done))) (.yes))))))) rfl (by kernel_rfl) ?_))
        exact hk _ (ext_put.trans ext_put) (below_put (below_put hB))
def leadO (on : Bool) (at' fr : List Nat) (M : Md) (p : List Nat) : Option (List Nat × Bool) := match pathT M.T 20 M.cwd with
  | none => none
  | some cw => bif Nat.ble cw.length 1000 then (match cleanL cw p with
    | (x, e) => bif Nat.beq e 0 then some (47 :: wk1 at' fr x, hitM on at' x) else none) else none
theorem lead1_c {s : St} (H : Ok TE Tryz.prog pr3) {M : Md} {x v y m : Nat} {I W : AV} {L : List (Nat × AO)} (hW : World s x M L) {on : Bool} {at' fr : List Nat} {q0 : Nat} (hV : (v, prO m y x I W) ∈ L) (hT : (y, tb1V q0) ∈ L) (hQ : (q0, rowV on at' fr) ∈ L) (ha : at'.length ≤ 1000) (hf : fr.length ≤ 1000) {p : List Nat} {r : List Nat × Bool} (h : leadO on at' fr M p = some r) {kr kp : AV → St → Bool} (hk : ∀ s', Ext s s' → Below0 s' → kr (.tuple [.str r.1, .raw (.bool r.2), .raw (.int .i64 0)]) s' = true) :
    (sem Tryz.prog).call 23 [.ptr v 0, .str p] s kr kp = true := by
  refine w_call H 39 fn_23 rfl rfl ?_
  have hB := hW.below
  have hk0 := hk s (Ext.refl s) hB
  have gV := World.get hW hV
  have gT := World.get hW hT
  have gQ := World.get hW hQ
  simp only at gV gT gQ
  unfold prO at gV
  unfold leadO at h
  cases hcw : pathT M.T 20 M.cwd with
  | none => rw [hcw] at h; cases h
  | some cw =>
  rw [hcw] at h
  simp only at h
  cases hb : Nat.ble cw.length 1000 with
  | false => rw [hb] at h; cases h
  | true =>
  rw [hb, cond_true] at h
  have ec := fun {r a dst k kp} => c3_clean (r := r) (a := a) (dst := dst) (s := s) (k := k) (kp := kp) (x := cw) (y := p) (Nat.le_of_ble_eq_true hb) rfl rfl
  have hl := cleanL_le (x := cw) (y := p)
  generalize cleanL cw p = x at ec h hl
  obtain ⟨q, e⟩ := x
  simp only at h hl
  have hq : q.length ≤ 1000 := by omega
  have f1 : binFast .add (.str [47]) (.str (wk1 at' fr q)) = some (.str (47 :: wk1 at' fr q)) := b_add (by have := wk1_le (at' := at') (fr := fr) (p := q); simp; omega)
  by_cases he : e = 0
  · subst he
    have g0 : (((0 : Nat) : Int) == 0) = true := rfl
    cases h
    repeat (first | with_reducible (refine w_one H ?_; constructor) | simp only [rB, rP, rQ, boolA, intA, resultA, resA, reduceIte, reduceCtorEq, Nat.reduceAdd, Nat.reduceLT, Nat.reduceEqDiff, UInt8.reduceToNat, pe3, pf3, fa_pr1, fa_pr2, ld_63, ld_mt, gV, ec, outC, b_eqi, g0] | (with_reducible refine tcwd_c H hW hcw ?_))
    refine mwalk1_c H hB gT gQ hq ha hf (fun s' hE' hB' => ?_)
    repeat (first | with_reducible (refine w_one H ?_; constructor) | simp only [rB, rP, rQ, boolA, intA, resultA, resA, reduceIte, reduceCtorEq, Nat.reduceAdd, Nat.reduceLT, Nat.reduceEqDiff, UInt8.reduceToNat, pe3, pf3, f1, Tryz.results23])
    exact hk s' hE' hB'
  · rw [beq_ne he] at h
    cases h
end Go.AX
namespace Go.AX
open Go.Proofs Go.RowKit
set_option maxRecDepth 1000000
set_option maxHeartbeats 400000000
set_option linter.unusedSimpArgs false
set_option linter.unusedVariables false
def chgB (op : Int) : Bool := bif decide (op ≥ 5) then decide (op ≤ 13) else false
theorem changes_c {s : St} (H : Ok TE Tryz.prog pr3) {op : Int} {kr kp : AV → St → Bool} (hk : kr (.raw (.bool (chgB op))) s = true) : (sem Tryz.prog).call 24 [.raw (.int .i64 op)] s kr kp = true := by
  refine w_call H 9 fn_24 rfl rfl ?_
  unfold chgB at hk
  cases h1 : decide (op ≥ 5) with
  | false =>
    rw [h1] at hk
    repeat (first | with_reducible (refine w_one H ?_; constructor) | simp only [rB, rP, rQ, boolA, intA, resultA, resA, reduceIte, reduceCtorEq, Nat.reduceAdd, Nat.reduceLT, Nat.reduceEqDiff, UInt8.reduceToNat, pe3, pf3, b_ge, b_le, h1, Tryz.results24])
    exact hk
  | true =>
    rw [h1] at hk
    cases h2 : decide (op ≤ 13) with
    | false =>
      rw [h2] at hk
      repeat (first | with_reducible (refine w_one H ?_; constructor) | simp only [rB, rP, rQ, boolA, intA, resultA, resA, reduceIte, reduceCtorEq, Nat.reduceAdd, Nat.reduceLT, Nat.reduceEqDiff, UInt8.reduceToNat, pe3, pf3, b_ge, b_le, h1, h2, Tryz.results24])
      exact hk
    | true =>
      rw [h2] at hk
      repeat (first | with_reducible (refine w_one H ?_; constructor) | simp only [rB, rP, rQ, boolA, intA, resultA, resA, reduceIte, reduceCtorEq, Nat.reduceAdd, Nat.reduceLT, Nat.reduceEqDiff, UInt8.reduceToNat, pe3, pf3, b_ge, b_le, h1, h2, Tryz.results24])
      exact hk
theorem doL_c {s : St} (H : Ok TE Tryz.prog pr3) {x : Nat} {M : Md} {L : List (Nat × AO)} (hW : World s x M L) {c : Cl} (ho : c.op = 2 ∨ c.op = 3) {q : An × Md} (h : doM M c = some q) {kr kp : AV → St → Bool} (hk : Dt s x L kr q) :
    (sem Tryz.prog).call 25 [.ptr x 0, .agg (clL c)] s kr kp = true := by
  unfold doM at h
  have hb : (decide (c.op < 1) || decide (c.op > 18)) = false := by rw [Bool.or_eq_false_iff, decide_eq_false_iff_not, decide_eq_false_iff_not]; omega
  rw [hb, cond_false] at h
  cases hr : doR M c c.op.toNat with
  | none => rw [hr] at h; cases h
  | some r =>
  rw [hr] at h
  cases h
  rcases ho with e | e
  · rw [e] at hr
    exact do_look H hW (by omega) (by omega) (fun s L kr kp hW hk => do2_c H hW e hr hk) hk
  · rw [e] at hr
    exact do_look H hW (by omega) (by omega) (fun s L kr kp hW hk => do3_c H hW e hr hk) hk
theorem fro1_c {s : St} (H : Ok TE Tryz.prog pr3) {M : Md} {x v y m : Nat} {I W : AV} {L : List (Nat × AO)} (hW : World s x M L) {on : Bool} {at' fr : List Nat} {q0 : Nat} (hV : (v, prO m y x I W) ∈ L) (hT : (y, tb1V q0) ∈ L) (hQ : (q0, rowV on at' fr) ∈ L) (ha : at'.length ≤ 1000) (hf : fr.length ≤ 1000) {c : Cl} (hA : ¬ c.op = 13) (hB : ((decide (1 ≤ c.op) && decide (c.op ≤ 14)) || decide (c.op = 18)) = true) (hC : chgB c.op = true) {p : List Nat} (hr : leadO on at' fr M c.path = some (p, true)) {kr kp : AV → St → Bool} (hk : Dt s x L kr (anS 11, M)) :
    (sem Tryz.prog).call 9 [.ptr v 0, .agg (clL c)] s kr kp = true := by
  refine w_call H 60 fn_9 rfl rfl ?_
  have gV := World.get hW hV
  simp only at gV
  unfold prO at gV
  have h3 : v < s.nx := World.lt hW hV
  have m1 : (s.nx = s.nx + 1) = False := by simp
  have m2 : (s.nx + 1 = s.nx) = False := by simp
  have m3 : (v = s.nx) = False := by simp; omega
  have m4 : (v = s.nx + 1) = False := by simp; omega
  have m5 : (s.nx = s.nx + 1 + 1) = False := by simp; omega
  have m6 : (v = s.nx + 1 + 1) = False := by simp; omega
  have m7 : (s.nx + 1 + 1 = s.nx) = False := by simp; omega
  have m8 : (s.nx + 1 = s.nx + 1 + 1) = False := by simp
  have m9 : (s.nx + 1 + 1 = s.nx + 1) = False := by simp
  have nL : ∀ q ∈ L, q.1 ≠ s.nx + 1 := fun q hq => by have := World.lt hW hq; omega
  have hW3 := ((World.alloc hW (.cells (clL c) 47 0)).alloc (.cells (anL 0 0 0 0 [] nilS) 43 0)).alloc (.cells [.ptr s.nx 1, .ptr s.nx 2] 72 0)
  have fin : ∀ {s1 : St} {M1 : Md} {a : An} {V : AV} {o0 o2 : AO}, World s1 x M1 ((s.nx + 1 + 1, o2) :: (s.nx + 1, .cells (anL 0 0 0 0 [] nilS) 43 0) :: (s.nx, o0) :: L) → s.nx ≤ s1.nx → SlV s1 V a.names → ((anS 11, M) : An × Md) = (a, M1) →
      kr (.agg (anL a.status a.num a.kind a.mode a.data V)) { s1 with h := s1.h.set (s.nx + 1) (.cells (anL a.status a.num a.kind a.mode a.data V) 43 0) } = true := by
    intro s1 M1 a V o0 o2 w1 l1 hV1 hq
    cases hq
    have w2 : World s1 x M ((s.nx + 1, .cells (anL 0 0 0 0 [] nilS) 43 0) :: L) := w1.sub (fun r hr => by
      rcases List.mem_cons.mp hr with rfl | hr
      · exact List.mem_cons_of_mem _ (List.mem_cons_self ..)
      · exact List.mem_cons_of_mem _ (List.mem_cons_of_mem _ (List.mem_cons_of_mem _ hr)))
    exact hk _ V ((w2.set nL _).sub (fun r hr => List.mem_cons_of_mem _ hr)) l1 (hV1.set w2.get0 an_str _)
  have up : ∀ {x : Nat × AO} {a b d : Nat × AO}, x ∈ L → x ∈ a :: b :: d :: L := fun h => List.mem_cons_of_mem _ (List.mem_cons_of_mem _ (List.mem_cons_of_mem _ h))
  have nL0 : ∀ (o1 o2 : AO), ∀ r ∈ (s.nx + 1 + 1, o1) :: (s.nx + 1, o2) :: L, r.1 ≠ s.nx := fun o1 o2 r hr => by
    simp only [List.mem_cons] at hr
    rcases hr with rfl | rfl | hr
    · simp
      omega
    · simp
    · have := World.lt hW hr
      omega
  have put : ∀ {s1 : St} {M1 : Md} {o0 o1 o2 : AO} (o' : AO), World s1 x M1 ((s.nx + 1 + 1, o2) :: (s.nx + 1, o1) :: (s.nx, o0) :: L) → World { s1 with h := s1.h.set s.nx o' } x M1 ((s.nx + 1 + 1, o2) :: (s.nx + 1, o1) :: (s.nx, o') :: L) := by
    intro s1 M1 o0 o1 o2 o' w
    have w0 := w.sub (L' := (s.nx, _) :: (s.nx + 1 + 1, _) :: (s.nx + 1, _) :: L) (fun r hr => by
      simp only [List.mem_cons] at hr ⊢
      rcases hr with hr | hr | hr | hr
      · exact Or.inr (Or.inr (Or.inl hr))
      · exact Or.inl hr
      · exact Or.inr (Or.inl hr)
      · exact Or.inr (Or.inr (Or.inr hr)))
    have w1 := w0.set (nL0 _ _) o'
    exact w1.sub (fun r hr => by
      simp only [List.mem_cons] at hr ⊢
      rcases hr with hr | hr | hr | hr
      · exact Or.inr (Or.inl hr)
      · exact Or.inr (Or.inr (Or.inl hr))
      · exact Or.inl hr
      · exact Or.inr (Or.inr (Or.inr hr)))
  have get2 : ∀ {s1 : St} {M1 : Md} {o0 o1 o2 : AO}, World s1 x M1 ((s.nx + 1 + 1, o2) :: (s.nx + 1, o1) :: (s.nx, o0) :: L) → s1.h.get s.nx = some o0 := fun w => World.get w (q := (s.nx, _)) (List.mem_cons_of_mem _ (List.mem_cons_of_mem _ (List.mem_cons_self ..)))
  have d0 : decide ((0 : Int) < 0) = false := rfl
  have d1 : decide ((0 : Int) < 1) = true := rfl
  have d2 : decide ((1 : Int) < 1) = false := rfl
  have d3 : decide ((0 : Int) < 2) = true := rfl
  have d4 : decide ((1 : Int) < 2) = true := rfl
  have d5 : decide ((2 : Int) < 2) = false := rfl
  have z0 : ((0 : Int) != 0) = false := rfl
  have i1 : IntKind.i64.wrap (0 + 1) = 1 := rfl
  have i2 : IntKind.i64.wrap (1 + 1) = 2 := rfl
  unfold clL at hW3 ⊢
  have hn : pathedN c.op = 1 := by unfold pathedN; rw [decide_eq_false hA, hB]; rfl
  repeat (first | with_reducible (refine w_one H ?_; constructor) | simp only [rB, rP, rQ, boolA, intA, resultA, resA, reduceIte, reduceCtorEq, Nat.reduceAdd, Nat.reduceLT, Nat.reduceEqDiff, UInt8.reduceToNat, pe3, pf3, all_an, cells_agg, b_eqi, b_nei, b_lt, b_plus, b_pp, eq_pr, fa_cl0, fa_cl1, fa_cl2, bs_sp, ld_3, ld_9, ld_sp, st_9, m1, m2, m3, m4, m5, m6, m7, m8, m9, hn, d0, d1, d2, z0, i1, i2, gV, fa_pr2, ld_63, ld_cl, ldG_cl, sl_sp1, ln_sp1] | (with_reducible refine pathedO_c H ?_))
  refine w_loop H ?_
  repeat (first | with_reducible (refine w_one H ?_; constructor) | simp only [rB, rP, rQ, boolA, intA, resultA, resA, reduceIte, reduceCtorEq, Nat.reduceAdd, Nat.reduceLT, Nat.reduceEqDiff, UInt8.reduceToNat, pe3, pf3, all_an, cells_agg, b_eqi, b_nei, b_lt, b_plus, b_pp, eq_pr, fa_cl0, fa_cl1, fa_cl2, bs_sp, ld_3, ld_9, ld_sp, st_9, m1, m2, m3, m4, m5, m6, m7, m8, m9, hn, d0, d1, d2, z0, i1, i2, gV, fa_pr2, ld_63, ld_cl, ldG_cl, ix_sp10])
  refine lead1_c H hW3 (up hV) (up hT) (up hQ) ha hf hr (fun s4 hE4 hB4 => ?_)
  have hW4 := World.ext hW3 hE4 hB4
  have l4 : s.nx ≤ s4.nx := Nat.le_trans (by show s.nx ≤ s.nx + 1 + 1 + 1; omega) hE4.1
  have c0 := get2 hW4
  have c1 : s4.h.get (s.nx + 1) = some (.cells (anL 0 0 0 0 [] nilS) 43 0) := hW4.get1
  have c2 : s4.h.get (s.nx + 1 + 1) = some (.cells [.ptr s.nx 1, .ptr s.nx 2] 72 0) := hW4.get0
  have gV4 := World.get hW4 (up hV)
  simp only at gV4
  unfold prO at gV4
  repeat (first | with_reducible (refine w_one H ?_; constructor) | simp only [rB, rP, rQ, boolA, intA, resultA, resA, reduceIte, reduceCtorEq, Nat.reduceAdd, Nat.reduceLT, Nat.reduceEqDiff, UInt8.reduceToNat, pe3, pf3, all_an, cells_agg, b_eqi, b_nei, b_lt, b_plus, b_pp, eq_pr, fa_cl0, fa_cl1, fa_cl2, bs_sp, ld_3, ld_9, ld_sp, st_9, m1, m2, m3, m4, m5, m6, m7, m8, m9, hn, d0, d1, d2, z0, i1, i2, gV, fa_pr2, ld_63, ld_cl, ldG_cl, c0, c1, c2, gV4])
  refine w_loop H ?_
  repeat (first | with_reducible (refine w_one H ?_; constructor) | simp only [rB, rP, rQ, boolA, intA, resultA, resA, reduceIte, reduceCtorEq, Nat.reduceAdd, Nat.reduceLT, Nat.reduceEqDiff, UInt8.reduceToNat, pe3, pf3, all_an, cells_agg, b_eqi, b_nei, b_lt, b_plus, b_pp, eq_pr, fa_cl0, fa_cl1, fa_cl2, bs_sp, ld_3, ld_9, ld_sp, st_9, m1, m2, m3, m4, m5, m6, m7, m8, m9, hn, d0, d1, d2, z0, i1, i2, gV, fa_pr2, ld_63, ld_cl, ldG_cl, hC, c0, c1, c2, gV4, bd_anS, one_nilS, st_an, stA_an, ld_an, ldG_an, Tryz.results9] | (with_reducible refine changes_c H ?_))
  have w2 := put (.cells (clL { c with path := p }) 47 0) hW4
  exact fin (a := anS 11) w2 l4 (Or.inl ⟨rfl, rfl⟩) rfl
theorem thr1_c {s : St} (H : Ok TE Tryz.prog pr3) {M : Md} {x v y m : Nat} {I W : AV} {L : List (Nat × AO)} (hW : World s x M L) {on : Bool} {at' fr : List Nat} {q0 : Nat} (hV : (v, prO m y x I W) ∈ L) (hT : (y, tb1V q0) ∈ L) (hQ : (q0, rowV on at' fr) ∈ L) (ha : at'.length ≤ 1000) (hf : fr.length ≤ 1000) {c : Cl} (hA : ¬ c.op = 13) (hB : ((decide (1 ≤ c.op) && decide (c.op ≤ 14)) || decide (c.op = 18)) = true) (hop : c.op = 2 ∨ c.op = 3) (hC : chgB c.op = false) {p : List Nat} {o : Bool} (hr : leadO on at' fr M c.path = some (p, o)) {q : An × Md} (h : doM M { c with path := p } = some q) {kr kp : AV → St → Bool} (hk : Dt s x L kr q) :
    (sem Tryz.prog).call 9 [.ptr v 0, .agg (clL c)] s kr kp = true := by
  refine w_call H 60 fn_9 rfl rfl ?_
  have gV := World.get hW hV
  simp only at gV
  unfold prO at gV
  have h3 : v < s.nx := World.lt hW hV
  have m1 : (s.nx = s.nx + 1) = False := by simp
  have m2 : (s.nx + 1 = s.nx) = False := by simp
  have m3 : (v = s.nx) = False := by simp; omega
  have m4 : (v = s.nx + 1) = False := by simp; omega
  have m5 : (s.nx = s.nx + 1 + 1) = False := by simp; omega
  have m6 : (v = s.nx + 1 + 1) = False := by simp; omega
  have m7 : (s.nx + 1 + 1 = s.nx) = False := by simp; omega
  have m8 : (s.nx + 1 = s.nx + 1 + 1) = False := by simp
  have m9 : (s.nx + 1 + 1 = s.nx + 1) = False := by simp
  have nL : ∀ q ∈ L, q.1 ≠ s.nx + 1 := fun q hq => by have := World.lt hW hq; omega
  have hW3 := ((World.alloc hW (.cells (clL c) 47 0)).alloc (.cells (anL 0 0 0 0 [] nilS) 43 0)).alloc (.cells [.ptr s.nx 1, .ptr s.nx 2] 72 0)
  have fin : ∀ {s1 : St} {M1 : Md} {a : An} {V : AV} {o0 o2 : AO}, World s1 x M1 ((s.nx + 1 + 1, o2) :: (s.nx + 1, .cells (anL 0 0 0 0 [] nilS) 43 0) :: (s.nx, o0) :: L) → s.nx ≤ s1.nx → SlV s1 V a.names → q = (a, M1) →
      kr (.agg (anL a.status a.num a.kind a.mode a.data V)) { s1 with h := s1.h.set (s.nx + 1) (.cells (anL a.status a.num a.kind a.mode a.data V) 43 0) } = true := by
    intro s1 M1 a V o0 o2 w1 l1 hV1 hq
    subst hq
    have w2 : World s1 x M1 ((s.nx + 1, .cells (anL 0 0 0 0 [] nilS) 43 0) :: L) := w1.sub (fun r hr => by
      rcases List.mem_cons.mp hr with rfl | hr
      · exact List.mem_cons_of_mem _ (List.mem_cons_self ..)
      · exact List.mem_cons_of_mem _ (List.mem_cons_of_mem _ (List.mem_cons_of_mem _ hr)))
    exact hk _ V ((w2.set nL _).sub (fun r hr => List.mem_cons_of_mem _ hr)) l1 (hV1.set w2.get0 an_str _)
  have up : ∀ {x : Nat × AO} {a b d : Nat × AO}, x ∈ L → x ∈ a :: b :: d :: L := fun h => List.mem_cons_of_mem _ (List.mem_cons_of_mem _ (List.mem_cons_of_mem _ h))
  have nL0 : ∀ (o1 o2 : AO), ∀ r ∈ (s.nx + 1 + 1, o1) :: (s.nx + 1, o2) :: L, r.1 ≠ s.nx := fun o1 o2 r hr => by
    simp only [List.mem_cons] at hr
    rcases hr with rfl | rfl | hr
    · simp
      omega
    · simp
    · have := World.lt hW hr
      omega
  have put : ∀ {s1 : St} {M1 : Md} {o0 o1 o2 : AO} (o' : AO), World s1 x M1 ((s.nx + 1 + 1, o2) :: (s.nx + 1, o1) :: (s.nx, o0) :: L) → World { s1 with h := s1.h.set s.nx o' } x M1 ((s.nx + 1 + 1, o2) :: (s.nx + 1, o1) :: (s.nx, o') :: L) := by
    intro s1 M1 o0 o1 o2 o' w
    have w0 := w.sub (L' := (s.nx, _) :: (s.nx + 1 + 1, _) :: (s.nx + 1, _) :: L) (fun r hr => by
      simp only [List.mem_cons] at hr ⊢
      rcases hr with hr | hr | hr | hr
      · exact Or.inr (Or.inr (Or.inl hr))
      · exact Or.inl hr
      · exact Or.inr (Or.inl hr)
      · exact Or.inr (Or.inr (Or.inr hr)))
    have w1 := w0.set (nL0 _ _) o'
    exact w1.sub (fun r hr => by
      simp only [List.mem_cons] at hr ⊢
      rcases hr with hr | hr | hr | hr
      · exact Or.inr (Or.inl hr)
      · exact Or.inr (Or.inr (Or.inl hr))
      · exact Or.inl hr
      · exact Or.inr (Or.inr (Or.inr hr)))
  have get2 : ∀ {s1 : St} {M1 : Md} {o0 o1 o2 : AO}, World s1 x M1 ((s.nx + 1 + 1, o2) :: (s.nx + 1, o1) :: (s.nx, o0) :: L) → s1.h.get s.nx = some o0 := fun w => World.get w (q := (s.nx, _)) (List.mem_cons_of_mem _ (List.mem_cons_of_mem _ (List.mem_cons_self ..)))
  have d0 : decide ((0 : Int) < 0) = false := rfl
  have d1 : decide ((0 : Int) < 1) = true := rfl
  have d2 : decide ((1 : Int) < 1) = false := rfl
  have d3 : decide ((0 : Int) < 2) = true := rfl
  have d4 : decide ((1 : Int) < 2) = true := rfl
  have d5 : decide ((2 : Int) < 2) = false := rfl
  have z0 : ((0 : Int) != 0) = false := rfl
  have i1 : IntKind.i64.wrap (0 + 1) = 1 := rfl
  have i2 : IntKind.i64.wrap (1 + 1) = 2 := rfl
  unfold clL at hW3 ⊢
  have hn : pathedN c.op = 1 := by unfold pathedN; rw [decide_eq_false hA, hB]; rfl
  repeat (first | with_reducible (refine w_one H ?_; constructor) | simp only [rB, rP, rQ, boolA, intA, resultA, resA, reduceIte, reduceCtorEq, Nat.reduceAdd, Nat.reduceLT, Nat.reduceEqDiff, UInt8.reduceToNat, pe3, pf3, all_an, cells_agg, b_eqi, b_nei, b_lt, b_plus, b_pp, eq_pr, fa_cl0, fa_cl1, fa_cl2, bs_sp, ld_3, ld_9, ld_sp, st_9, m1, m2, m3, m4, m5, m6, m7, m8, m9, hn, d0, d1, d2, z0, i1, i2, gV, fa_pr2, ld_63, ld_cl, ldG_cl, sl_sp1, ln_sp1] | (with_reducible refine pathedO_c H ?_))
  refine w_loop H ?_
  repeat (first | with_reducible (refine w_one H ?_; constructor) | simp only [rB, rP, rQ, boolA, intA, resultA, resA, reduceIte, reduceCtorEq, Nat.reduceAdd, Nat.reduceLT, Nat.reduceEqDiff, UInt8.reduceToNat, pe3, pf3, all_an, cells_agg, b_eqi, b_nei, b_lt, b_plus, b_pp, eq_pr, fa_cl0, fa_cl1, fa_cl2, bs_sp, ld_3, ld_9, ld_sp, st_9, m1, m2, m3, m4, m5, m6, m7, m8, m9, hn, d0, d1, d2, z0, i1, i2, gV, fa_pr2, ld_63, ld_cl, ldG_cl, ix_sp10])
  refine lead1_c H hW3 (up hV) (up hT) (up hQ) ha hf hr (fun s4 hE4 hB4 => ?_)
  have hW4 := World.ext hW3 hE4 hB4
  have l4 : s.nx ≤ s4.nx := Nat.le_trans (by show s.nx ≤ s.nx + 1 + 1 + 1; omega) hE4.1
  have c0 := get2 hW4
  have c1 : s4.h.get (s.nx + 1) = some (.cells (anL 0 0 0 0 [] nilS) 43 0) := hW4.get1
  have c2 : s4.h.get (s.nx + 1 + 1) = some (.cells [.ptr s.nx 1, .ptr s.nx 2] 72 0) := hW4.get0
  have gV4 := World.get hW4 (up hV)
  simp only at gV4
  unfold prO at gV4
  repeat (first | with_reducible (refine w_one H ?_; constructor) | simp only [rB, rP, rQ, boolA, intA, resultA, resA, reduceIte, reduceCtorEq, Nat.reduceAdd, Nat.reduceLT, Nat.reduceEqDiff, UInt8.reduceToNat, pe3, pf3, all_an, cells_agg, b_eqi, b_nei, b_lt, b_plus, b_pp, eq_pr, fa_cl0, fa_cl1, fa_cl2, bs_sp, ld_3, ld_9, ld_sp, st_9, m1, m2, m3, m4, m5, m6, m7, m8, m9, hn, d0, d1, d2, z0, i1, i2, gV, fa_pr2, ld_63, ld_cl, ldG_cl, c0, c1, c2, gV4])
  refine w_loop H ?_
  cases o
  all_goals
    repeat (first | with_reducible (refine w_one H ?_; constructor) | simp only [rB, rP, rQ, boolA, intA, resultA, resA, reduceIte, reduceCtorEq, Nat.reduceAdd, Nat.reduceLT, Nat.reduceEqDiff, UInt8.reduceToNat, pe3, pf3, all_an, cells_agg, b_eqi, b_nei, b_lt, b_plus, b_pp, eq_pr, fa_cl0, fa_cl1, fa_cl2, bs_sp, ld_3, ld_9, ld_sp, st_9, m1, m2, m3, m4, m5, m6, m7, m8, m9, hn, d0, d1, d2, z0, i1, i2, gV, fa_pr2, ld_63, ld_cl, ldG_cl, hC, c0, c1, c2, gV4] | (with_reducible refine w_plan H (i := 15) (.take 0 (.take 1 (.take 2 (.take 3 (.take 4 (.alt 5 [0, 1, 2, 3, 4] (.alt 6 [0, 1, 2, 3, 4, 5] (.done) (.yes)) (.yes))))))) rfl (by kernel_rfl) ?_) | (with_reducible refine changes_c H ?_))
    have w2 := put (.cells (clL { c with path := p }) 47 0) hW4
    refine doL_c H w2 hop h (c := { c with path := p }) ?_
    intro s1 V w1 l1 hV1
    have k1 : s1.h.get (s.nx + 1) = some (.cells (anL 0 0 0 0 [] nilS) 43 0) := w1.get1
    repeat (first | with_reducible (refine w_one H ?_; constructor) | simp only [rB, rP, rQ, boolA, intA, resultA, resA, reduceIte, reduceCtorEq, Nat.reduceAdd, Nat.reduceLT, Nat.reduceEqDiff, UInt8.reduceToNat, pe3, pf3, k1, st_an hV1.cells1.2, stA_an, ld_an, ldG_an, Tryz.results9])
    exact fin w1 (Nat.le_trans l4 l1) hV1 rfl
theorem fro2_c {s : St} (H : Ok TE Tryz.prog pr3) {M : Md} {x v y m : Nat} {I W : AV} {L : List (Nat × AO)} (hW : World s x M L) {on : Bool} {at' fr : List Nat} {q0 : Nat} (hV : (v, prO m y x I W) ∈ L) (hT : (y, tb1V q0) ∈ L) (hQ : (q0, rowV on at' fr) ∈ L) (ha : at'.length ≤ 1000) (hf : fr.length ≤ 1000) {c : Cl} (hA : c.op = 13) (hC : chgB c.op = true) {p q2 : List Nat} {o2 : Bool} (hr : leadO on at' fr M c.path = some (p, true)) (hr2 : leadO on at' fr M c.path2 = some (q2, o2)) {kr kp : AV → St → Bool} (hk : Dt s x L kr (anS 11, M)) :
    (sem Tryz.prog).call 9 [.ptr v 0, .agg (clL c)] s kr kp = true := by
  refine w_call H 60 fn_9 rfl rfl ?_
  have gV := World.get hW hV
  simp only at gV
  unfold prO at gV
  have h3 : v < s.nx := World.lt hW hV
  have m1 : (s.nx = s.nx + 1) = False := by simp
  have m2 : (s.nx + 1 = s.nx) = False := by simp
  have m3 : (v = s.nx) = False := by simp; omega
  have m4 : (v = s.nx + 1) = False := by simp; omega
  have m5 : (s.nx = s.nx + 1 + 1) = False := by simp; omega
  have m6 : (v = s.nx + 1 + 1) = False := by simp; omega
  have m7 : (s.nx + 1 + 1 = s.nx) = False := by simp; omega
  have m8 : (s.nx + 1 = s.nx + 1 + 1) = False := by simp
  have m9 : (s.nx + 1 + 1 = s.nx + 1) = False := by simp
  have nL : ∀ q ∈ L, q.1 ≠ s.nx + 1 := fun q hq => by have := World.lt hW hq; omega
  have hW3 := ((World.alloc hW (.cells (clL c) 47 0)).alloc (.cells (anL 0 0 0 0 [] nilS) 43 0)).alloc (.cells [.ptr s.nx 1, .ptr s.nx 2] 72 0)
  have fin : ∀ {s1 : St} {M1 : Md} {a : An} {V : AV} {o0 o2 : AO}, World s1 x M1 ((s.nx + 1 + 1, o2) :: (s.nx + 1, .cells (anL 0 0 0 0 [] nilS) 43 0) :: (s.nx, o0) :: L) → s.nx ≤ s1.nx → SlV s1 V a.names → ((anS 11, M) : An × Md) = (a, M1) →
      kr (.agg (anL a.status a.num a.kind a.mode a.data V)) { s1 with h := s1.h.set (s.nx + 1) (.cells (anL a.status a.num a.kind a.mode a.data V) 43 0) } = true := by
    intro s1 M1 a V o0 o2 w1 l1 hV1 hq
    cases hq
    have w2 : World s1 x M ((s.nx + 1, .cells (anL 0 0 0 0 [] nilS) 43 0) :: L) := w1.sub (fun r hr => by
      rcases List.mem_cons.mp hr with rfl | hr
      · exact List.mem_cons_of_mem _ (List.mem_cons_self ..)
      · exact List.mem_cons_of_mem _ (List.mem_cons_of_mem _ (List.mem_cons_of_mem _ hr)))
    exact hk _ V ((w2.set nL _).sub (fun r hr => List.mem_cons_of_mem _ hr)) l1 (hV1.set w2.get0 an_str _)
  have up : ∀ {x : Nat × AO} {a b d : Nat × AO}, x ∈ L → x ∈ a :: b :: d :: L := fun h => List.mem_cons_of_mem _ (List.mem_cons_of_mem _ (List.mem_cons_of_mem _ h))
  have nL0 : ∀ (o1 o2 : AO), ∀ r ∈ (s.nx + 1 + 1, o1) :: (s.nx + 1, o2) :: L, r.1 ≠ s.nx := fun o1 o2 r hr => by
    simp only [List.mem_cons] at hr
    rcases hr with rfl | rfl | hr
    · simp
      omega
    · simp
    · have := World.lt hW hr
      omega
  have put : ∀ {s1 : St} {M1 : Md} {o0 o1 o2 : AO} (o' : AO), World s1 x M1 ((s.nx + 1 + 1, o2) :: (s.nx + 1, o1) :: (s.nx, o0) :: L) → World { s1 with h := s1.h.set s.nx o' } x M1 ((s.nx + 1 + 1, o2) :: (s.nx + 1, o1) :: (s.nx, o') :: L) := by
    intro s1 M1 o0 o1 o2 o' w
    have w0 := w.sub (L' := (s.nx, _) :: (s.nx + 1 + 1, _) :: (s.nx + 1, _) :: L) (fun r hr => by
      simp only [List.mem_cons] at hr ⊢
      rcases hr with hr | hr | hr | hr
      · exact Or.inr (Or.inr (Or.inl hr))
      · exact Or.inl hr
      · exact Or.inr (Or.inl hr)
      · exact Or.inr (Or.inr (Or.inr hr)))
    have w1 := w0.set (nL0 _ _) o'
    exact w1.sub (fun r hr => by
      simp only [List.mem_cons] at hr ⊢
      rcases hr with hr | hr | hr | hr
      · exact Or.inr (Or.inl hr)
      · exact Or.inr (Or.inr (Or.inl hr))
      · exact Or.inl hr
      · exact Or.inr (Or.inr (Or.inr hr)))
  have get2 : ∀ {s1 : St} {M1 : Md} {o0 o1 o2 : AO}, World s1 x M1 ((s.nx + 1 + 1, o2) :: (s.nx + 1, o1) :: (s.nx, o0) :: L) → s1.h.get s.nx = some o0 := fun w => World.get w (q := (s.nx, _)) (List.mem_cons_of_mem _ (List.mem_cons_of_mem _ (List.mem_cons_self ..)))
  have d0 : decide ((0 : Int) < 0) = false := rfl
  have d1 : decide ((0 : Int) < 1) = true := rfl
  have d2 : decide ((1 : Int) < 1) = false := rfl
  have d3 : decide ((0 : Int) < 2) = true := rfl
  have d4 : decide ((1 : Int) < 2) = true := rfl
  have d5 : decide ((2 : Int) < 2) = false := rfl
  have z0 : ((0 : Int) != 0) = false := rfl
  have i1 : IntKind.i64.wrap (0 + 1) = 1 := rfl
  have i2 : IntKind.i64.wrap (1 + 1) = 2 := rfl
  unfold clL at hW3 ⊢
  have hn : pathedN c.op = 2 := by unfold pathedN; rw [decide_eq_true hA]; rfl
  repeat (first | with_reducible (refine w_one H ?_; constructor) | simp only [rB, rP, rQ, boolA, intA, resultA, resA, reduceIte, reduceCtorEq, Nat.reduceAdd, Nat.reduceLT, Nat.reduceEqDiff, UInt8.reduceToNat, pe3, pf3, all_an, cells_agg, b_eqi, b_nei, b_lt, b_plus, b_pp, eq_pr, fa_cl0, fa_cl1, fa_cl2, bs_sp, ld_3, ld_9, ld_sp, st_9, m1, m2, m3, m4, m5, m6, m7, m8, m9, hn, d0, d1, d2, z0, i1, i2, gV, fa_pr2, ld_63, ld_cl, ldG_cl, d3, d4, d5, sl_sp2, ln_sp2] | (with_reducible refine pathedO_c H ?_))
  refine w_loop H ?_
  repeat (first | with_reducible (refine w_one H ?_; constructor) | simp only [rB, rP, rQ, boolA, intA, resultA, resA, reduceIte, reduceCtorEq, Nat.reduceAdd, Nat.reduceLT, Nat.reduceEqDiff, UInt8.reduceToNat, pe3, pf3, all_an, cells_agg, b_eqi, b_nei, b_lt, b_plus, b_pp, eq_pr, fa_cl0, fa_cl1, fa_cl2, bs_sp, ld_3, ld_9, ld_sp, st_9, m1, m2, m3, m4, m5, m6, m7, m8, m9, hn, d0, d1, d2, z0, i1, i2, gV, fa_pr2, ld_63, ld_cl, ldG_cl, d3, d4, d5, ix_sp20, ix_sp21])
  refine lead1_c H hW3 (up hV) (up hT) (up hQ) ha hf hr (fun s4 hE4 hB4 => ?_)
  have hW4 := World.ext hW3 hE4 hB4
  have l4 : s.nx ≤ s4.nx := Nat.le_trans (by show s.nx ≤ s.nx + 1 + 1 + 1; omega) hE4.1
  have c0 := get2 hW4
  have c1 : s4.h.get (s.nx + 1) = some (.cells (anL 0 0 0 0 [] nilS) 43 0) := hW4.get1
  have c2 : s4.h.get (s.nx + 1 + 1) = some (.cells [.ptr s.nx 1, .ptr s.nx 2] 72 0) := hW4.get0
  have gV4 := World.get hW4 (up hV)
  simp only at gV4
  unfold prO at gV4
  repeat (first | with_reducible (refine w_one H ?_; constructor) | simp only [rB, rP, rQ, boolA, intA, resultA, resA, reduceIte, reduceCtorEq, Nat.reduceAdd, Nat.reduceLT, Nat.reduceEqDiff, UInt8.reduceToNat, pe3, pf3, all_an, cells_agg, b_eqi, b_nei, b_lt, b_plus, b_pp, eq_pr, fa_cl0, fa_cl1, fa_cl2, bs_sp, ld_3, ld_9, ld_sp, st_9, m1, m2, m3, m4, m5, m6, m7, m8, m9, hn, d0, d1, d2, z0, i1, i2, gV, fa_pr2, ld_63, ld_cl, ldG_cl, d3, d4, d5, ix_sp20, ix_sp21, c0, c1, c2, gV4])
  refine w_loop H ?_
  repeat (first | with_reducible (refine w_one H ?_; constructor) | simp only [rB, rP, rQ, boolA, intA, resultA, resA, reduceIte, reduceCtorEq, Nat.reduceAdd, Nat.reduceLT, Nat.reduceEqDiff, UInt8.reduceToNat, pe3, pf3, all_an, cells_agg, b_eqi, b_nei, b_lt, b_plus, b_pp, eq_pr, fa_cl0, fa_cl1, fa_cl2, bs_sp, ld_3, ld_9, ld_sp, st_9, m1, m2, m3, m4, m5, m6, m7, m8, m9, hn, d0, d1, d2, z0, i1, i2, gV, fa_pr2, ld_63, ld_cl, ldG_cl, d3, d4, d5, ix_sp20, ix_sp21, c0, c1, c2, gV4])
  have w2 := put (.cells (clL { c with path := p }) 47 0) hW4
  refine lead1_c H w2 (up hV) (up hT) (up hQ) ha hf hr2 (fun s5 hE5 hB5 => ?_)
  have hW5 := World.ext w2 hE5 hB5
  have l5 : s.nx ≤ s5.nx := Nat.le_trans l4 hE5.1
  have e0 := get2 hW5
  unfold clL at e0
  have e1 : s5.h.get (s.nx + 1) = some (.cells (anL 0 0 0 0 [] nilS) 43 0) := hW5.get1
  have e2 : s5.h.get (s.nx + 1 + 1) = some (.cells [.ptr s.nx 1, .ptr s.nx 2] 72 0) := hW5.get0
  have gV5 := World.get hW5 (up hV)
  simp only at gV5
  unfold prO at gV5
  repeat (first | with_reducible (refine w_one H ?_; constructor) | simp only [rB, rP, rQ, boolA, intA, resultA, resA, reduceIte, reduceCtorEq, Nat.reduceAdd, Nat.reduceLT, Nat.reduceEqDiff, UInt8.reduceToNat, pe3, pf3, all_an, cells_agg, b_eqi, b_nei, b_lt, b_plus, b_pp, eq_pr, fa_cl0, fa_cl1, fa_cl2, bs_sp, ld_3, ld_9, ld_sp, st_9, m1, m2, m3, m4, m5, m6, m7, m8, m9, hn, d0, d1, d2, z0, i1, i2, gV, fa_pr2, ld_63, ld_cl, ldG_cl, d3, d4, d5, ix_sp20, ix_sp21, e0, e1, e2, gV5])
  refine w_loop H ?_
  repeat (first | with_reducible (refine w_one H ?_; constructor) | simp only [rB, rP, rQ, boolA, intA, resultA, resA, reduceIte, reduceCtorEq, Nat.reduceAdd, Nat.reduceLT, Nat.reduceEqDiff, UInt8.reduceToNat, pe3, pf3, all_an, cells_agg, b_eqi, b_nei, b_lt, b_plus, b_pp, eq_pr, fa_cl0, fa_cl1, fa_cl2, bs_sp, ld_3, ld_9, ld_sp, st_9, m1, m2, m3, m4, m5, m6, m7, m8, m9, hn, d0, d1, d2, z0, i1, i2, gV, fa_pr2, ld_63, ld_cl, ldG_cl, d3, d4, d5, ix_sp20, ix_sp21, hC, e0, e1, e2, gV5, bd_anS, one_nilS, st_an, stA_an, ld_an, ldG_an, Tryz.results9] | (with_reducible refine changes_c H ?_))
  have x2 := put (.cells (clL { c with path := p, path2 := q2 }) 47 0) hW5
  exact fin (a := anS 11) x2 l5 (Or.inl ⟨rfl, rfl⟩) rfl
end Go.AX
namespace Go.AX
open Go.Proofs Go.RowKit
set_option maxRecDepth 1000000
set_option maxHeartbeats 400000000
set_option linter.unusedSimpArgs false
set_option linter.unusedVariables false
def isAggO : Option AV → Bool
  | some (.agg _) => true
  | _ => false
theorem aggO {o : Option AV} (h : isAggO o = true) : ∃ cs, o = some (.agg cs) := by
  cases o with
  | none => cases h
  | some v => cases v <;> first | exact ⟨_, rfl⟩ | cases h
theorem bd_vm : ∃ cs, buildA TE 101 [(0, nilS), (2, .raw (.int .i64 0))] = some (.agg cs) := aggO (by kernel_rfl)
theorem bd_tb : buildA TE 117 [] = some (.agg [nilS]) := by kernel_rfl
theorem b_eqSl {a b c d e : Nat} {f : Bool} : binFast .eql (.slice a b c d e f) (.raw (.slice none 0 0)) = none := (rfl)
theorem cutL_allO {l : List AV} : cutL 0 l.length l = some l := (cutL_zero (Nat.le_refl _)).trans (by rw [List.take_length])
theorem ln_ins {s : St} : lenOpA TE s [52] [nilS] = some (.raw (.int .i64 0)) := by kernel_rfl
theorem ld_52 {s : St} {x o : Nat} : loadA TE s 52 (.ptr x o) = ldO (s.h.get x) o := by rw [ld_gen (by kernel_rfl), ldC_o]
theorem mnew_c {s : St} (H : Ok TE Tryz.prog pr3) {kr kp : AV → St → Bool} (hk : kr (.ptr s.nx 0) (s.alloc (.cells [nilS] 117 0)) = true) :
    (sem Tryz.prog).call 18 [] s kr kp = true := by
  refine w_call H 3 fn_18 rfl rfl ?_
  repeat (first | with_reducible (refine w_one H ?_; constructor) | simp only [rB, rP, rQ, boolA, intA, resultA, resA, reduceIte, reduceCtorEq, Nat.reduceAdd, Nat.reduceLT, Nat.reduceEqDiff, UInt8.reduceToNat, pe3, pf3, bd_tb, cells_agg, Tryz.results18])
  exact hk
theorem containsI_c {s : St} (H : Ok TE Tryz.prog pr3) {f : AV} {kr kp : AV → St → Bool} (hk : kr (.raw (.bool false)) s = true) :
    (sem Tryz.prog).call 32 [.raw (.slice none 0 0), f] s kr kp = true := by
  refine w_call H 9 fn_32 rfl rfl ?_
  have g1 : decide ((0 : Int) < 0) = false := rfl
  have g2 : decide ((-1 : Int) ≥ 0) = false := rfl
  repeat (first | with_reducible (refine w_one H ?_; constructor) | simp only [rB, rP, rQ, boolA, intA, resultA, resA, reduceIte, reduceCtorEq, Nat.reduceAdd, Nat.reduceLT, Nat.reduceEqDiff, UInt8.reduceToNat, pe3, pf3, b_ge, g2])
  refine w_call H 19 fn_77 rfl rfl ?_
  have ln := fun {s : St} => ln_ins (s := s)
  have ii : idsOf (.raw (.slice none 0 0)) = [] := rfl
  unfold nilS at ln
  repeat (first | with_reducible (refine w_one H ?_; constructor) | simp only [rB, rP, rQ, boolA, intA, resultA, resA, reduceIte, reduceCtorEq, Nat.reduceAdd, Nat.reduceLT, Nat.reduceEqDiff, UInt8.reduceToNat, pe3, pf3, b_lt, g1, ln, ii])
  refine w_loop H ?_
  repeat (first | with_reducible (refine w_one H ?_; constructor) | simp only [rB, rP, rQ, boolA, intA, resultA, resA, reduceIte, reduceCtorEq, Nat.reduceAdd, Nat.reduceLT, Nat.reduceEqDiff, UInt8.reduceToNat, pe3, pf3, b_lt, b_ge, g1, g2, ln, ii, Tryz.results77, Tryz.results32])
  exact hk
theorem eqS_nnO {s : St} {d : Option (AV × List Nat)} : eqS TE s .eql 52 (.raw (.slice none 0 0)) (.raw (.slice none 0 0)) d = d := by kernel_rfl
theorem b_nnO : binFast .eql (.raw (.slice none 0 0)) (.raw (.slice none 0 0)) = none := (rfl)
theorem sp_nn {a : Ac} {dst : Option Tmp} {x y : Operand} {ty : TypeId} {pos : String} {after : Array Edge} (hx : a.eval x = .raw (.slice none 0 0)) (hy : a.eval y = .raw (.slice none 0 0)) :
    stepPure TE a ⟨dst, .binOp .eql 52 x y 52, ty, pos, after, none⟩ = some (.raw (.bool true), []) := by
  have h1 : valAt a x = .slice none 0 0 := by simp [valAt, hx, toVal]
  have h2 : valAt a y = .slice none 0 0 := by simp [valAt, hy, toVal]
  have hall : (Op.operands (.binOp .eql 52 x y 52)).toList.all (fun x => (toVal (a.eval x)).isSome) = true := by
    show (List.all [x, y] (fun x => (toVal (a.eval x)).isSome)) = true
    simp only [List.all_cons, List.all_nil, hx, hy]
    rfl
  have hr : pureRun TE.P (execOp (valAt a) ⟨dst, .binOp .eql 52 x y 52, ty, pos, after, none⟩) = some (.value (.bool true)) := by
    simp only [execOp, h1, h2]
    kernel_rfl
  simp only [stepPure, hall, cond_true, hr]
  rfl
theorem cloneI_c {s : St} (H : Ok TE Tryz.prog pr3) {kr kp : AV → St → Bool} (hk : kr (.raw (.slice none 0 0)) s = true) :
    (sem Tryz.prog).call 35 [.raw (.slice none 0 0)] s kr kp = true := by
  refine w_call H 8 fn_35 rfl rfl ?_
  repeat (first | with_reducible (refine w_one H ?_; constructor) | simp only [rB, rP, rQ, boolA, intA, resultA, resA, reduceIte, reduceCtorEq, Nat.reduceAdd, Nat.reduceLT, Nat.reduceEqDiff, UInt8.reduceToNat, pe3, pf3, b_nnO, eqS_nnO, sp_nn, Tryz.results35])
  exact hk
theorem vmnew_c {s : St} (H : Ok TE Tryz.prog pr3) (hB : Below0 s) {kr kp : AV → St → Bool} (hk : ∀ s' m, Ext s s' → Below0 s' → kr (.tuple [.ptr m 0, .raw (.int .i64 0)]) s' = true) :
    (sem Tryz.prog).call 16 [nilS, .raw (.int .i64 0)] s kr kp = true := by
  refine w_call H 22 fn_16 rfl rfl ?_
  obtain ⟨cs, bv⟩ := bd_vm
  unfold nilS at bv ⊢
  have g1 : decide ((0 : Int) < 0) = false := rfl
  have g2 : decide ((0 : Int) > 20000) = false := rfl
  repeat (first | with_reducible (refine w_one H ?_; constructor) | simp only [rB, rP, rQ, boolA, intA, resultA, resA, reduceIte, reduceCtorEq, Nat.reduceAdd, Nat.reduceLT, Nat.reduceEqDiff, UInt8.reduceToNat, pe3, pf3, b_lt, b_gt, g1, g2, ld_52, bv])
  have hB1 : Below0 (s.alloc (.cells [.raw (.slice none 0 0)] 52 0)) := below_al hB _
  have hE1 : Ext s (s.alloc (.cells [.raw (.slice none 0 0)] 52 0)) := Ext.alloc s _
  have c1 : (s.alloc (.cells [.raw (.slice none 0 0)] 52 0)).h.get s.nx = some (.cells [.raw (.slice none 0 0)] 52 0) := al_same
  generalize s.alloc (.cells [.raw (.slice none 0 0)] 52 0) = s1 at *
  refine containsI_c H ?_
  repeat (first | with_reducible (refine w_one H ?_; constructor) | simp only [rB, rP, rQ, boolA, intA, resultA, resA, reduceIte, reduceCtorEq, Nat.reduceAdd, Nat.reduceLT, Nat.reduceEqDiff, UInt8.reduceToNat, pe3, pf3, b_lt, b_gt, g1, g2, ld_52, c1])
  refine cloneI_c H ?_
  have bv2 := bv
  repeat (first | with_reducible (refine w_one H ?_; constructor) | simp only [rB, rP, rQ, boolA, intA, resultA, resA, reduceIte, reduceCtorEq, Nat.reduceAdd, Nat.reduceLT, Nat.reduceEqDiff, UInt8.reduceToNat, pe3, pf3, b_lt, b_gt, g1, g2, ld_52, c1, bv, cells_agg, Tryz.results16])
  exact hk _ _ (hE1.trans (Ext.alloc _ _)) (below_al hB1 _)
theorem bs_e0 {s : St} : buildSliceA TE s 26 0 [] = some (.slice s.nx 0 0 0 0 true, s.alloc (.cells [] 25 0)) := by kernel_rfl
theorem eq_slE {q n c : Nat} {s : St} {d : Option (AV × List Nat)} : eqS TE s .eql 26 (.slice q 0 n 0 c true) (.raw (.slice none 0 0)) d = some (.raw (.bool false), []) := by kernel_rfl
theorem app_cl {s : St} {q0 q2 : Nat} {es : List En} (h0 : s.h.get q0 = some (.cells [] 25 0)) (hq2 : s.h.get q2 = some (.cells (flatE es) 25 0)) (hl : es.length = 2) :
    appendA TE s [26, 26] [.slice q0 0 0 0 0 true, .slice q2 0 2 0 2 true] = some (.slice s.nx 0 2 0 2 false, s.alloc (.cells (flatE es) 25 8)) := by
  have hfl : (flatE es).length = 8 := by rw [flatE_len, hl]
  have e1 : cutL 0 8 (flatE es) = some (flatE es) := by rw [← hfl]; exact cutL_allO
  have e0 : firstA s 4 2 (.slice q2 0 2 0 2 true) = some (flatE es) := by simp [firstA, gc_of hq2, e1]
  have e2 : (flatE es).all AV.one = true := by
    obtain ⟨a, b, rfl⟩ : ∃ a b, es = [a, b] := by
      cases es with
      | nil => cases hl
      | cons a l => cases l with
        | nil => cases hl
        | cons b l => cases l with
          | nil => exact ⟨a, b, rfl⟩
          | cons c l => simp at hl
    rfl
  rw [app_eqE]
  have b0 : Nat.beq 8 (2 * 4) = true := rfl
  simp only [lenA, e0, e2, hfl, b0, Bool.and_self, cond_true, growA, gc_of h0, el_size, el_bytes]
  rfl
theorem clone_c {s : St} (H : Ok TE Tryz.prog pr3) (hB : Below0 s) {q2 : Nat} {es : List En} (h2 : es.length = 2) (hq2 : s.h.get q2 = some (.cells (flatE es) 25 0)) {kr kp : AV → St → Bool}
    (hk : ∀ s' id, Ext s s' → Below0 s' → kr (.slice id 0 2 0 2 false) s' = true) :
    (sem Tryz.prog).call 42 [.slice q2 0 2 0 2 true] s kr kp = true := by
  refine w_call H 8 fn_42 rfl rfl ?_
  have hlt := hB _ _ hq2
  have hB1 : Below0 (s.alloc (.cells [] 25 0)) := below_al hB _
  have hE1 : Ext s (s.alloc (.cells [] 25 0)) := Ext.alloc s _
  have gq : (s.alloc (.cells [] 25 0)).h.get q2 = some (.cells (flatE es) 25 0) := (al_ne (by omega)).trans hq2
  have g0 : (s.alloc (.cells [] 25 0)).h.get s.nx = some (.cells [] 25 0) := al_same
  have ap := app_cl g0 gq h2
  repeat (first | with_reducible (refine w_one H ?_; constructor) | simp only [rB, rP, rQ, boolA, intA, resultA, resA, reduceIte, reduceCtorEq, Nat.reduceAdd, Nat.reduceLT, Nat.reduceEqDiff, UInt8.reduceToNat, pe3, pf3, b_eqSl, eq_slE, bs_e0, ap, Tryz.results42])
  exact hk _ _ (hE1.trans (Ext.alloc _ _)) (below_al hB1 _)
theorem all_im {s : St} : allocA TE s 31 = some (.ptr s.nx 0, s.alloc (.cells [.raw (.slice none 0 0)] 31 0)) := by
  have : zeroOf TE 31 = some (.agg [.raw (.slice none 0 0)]) := by kernel_rfl
  simp only [allocA, this]; rfl
theorem st_one {t : Nat} (hs : sizeT TE t = 1) {s : St} {x : Nat} {W : AV} (hW : W.one = true) : storeA TE s t (.ptr x 0) (.agg [W]) = stA s x (s.h.get x) [W] := by
  unfold sizeT at hs
  cases ht : TE.info t with
  | none => rw [ht] at hs; cases hs
  | some ti =>
    rw [ht] at hs
    simp only at hs
    have hall : ([W] : List AV).all AV.one = true := by simp [hW]
    simp only [storeA, ht, hs, cells_agg, storeCellsA]
    show (bif true then (match getCells s x with
      | some (cs, el, fz) => bif ([W] : List AV).all AV.one then (match putL cs 0 [W] with | some cs' => some { s with h := s.h.set x (.cells cs' el fz) } | none => none) else none
      | none => none) else none) = _
    rw [hall]
    simp only [cond_true, stA, getCells]
    cases s.h.get x with
    | none => rfl
    | some y => cases y <;> rfl
theorem agg_imO : (match TE.info 31 with | some ti => isAggD ti.desc && Nat.beq ti.size 1 | none => false) = true := by kernel_rfl
theorem ld_imO {s : St} {x : Nat} : loadA TE s 31 (.ptr x 0) = ldG 1 (s.h.get x) := ldG_gen agg_imO
theorem st_lyO {s : St} {x q n c : Nat} {b : Bool} : storeA TE s 28 (.ptr x 0) (.agg [.slice q 0 n 0 c b]) = stA s x (s.h.get x) [.slice q 0 n 0 c b] := st_one (by kernel_rfl) rfl
theorem st_imO {s : St} {x q n c : Nat} {b : Bool} : storeA TE s 31 (.ptr x 0) (.agg [.slice q 0 n 0 c b]) = stA s x (s.h.get x) [.slice q 0 n 0 c b] := st_one (by kernel_rfl) rfl
theorem st_lys {s : St} {x q n c : Nat} {b : Bool} : storeA TE s 29 (.ptr x 0) (.slice q 0 n 0 c b) = stC s x 0 (.slice q 0 n 0 c b) := st_gen (by kernel_rfl) rfl rfl
theorem ld_esO {s : St} {x o : Nat} : loadA TE s 26 (.ptr x o) = ldO (s.h.get x) o := by rw [ld_gen (by kernel_rfl), ldC_o]
theorem ln_ly1 {s : St} {q c : Nat} {b : Bool} : lenOpA TE s [29] [.slice q 0 1 0 c b] = some (.raw (.int .i64 1)) := by kernel_rfl
theorem ix_ly1 {q c : Nat} {b : Bool} : indexAddrA TE 29 (.slice q 0 1 0 c b) (.raw (.int .i64 0)) = some (.ptr q 0) := by kernel_rfl
theorem bd_lyO {q n c : Nat} {b : Bool} : buildA TE 28 [(0, .slice q 0 n 0 c b)] = some (.agg [.slice q 0 n 0 c b]) := by kernel_rfl
theorem bs_lyO {s : St} {q n c : Nat} {b : Bool} : buildSliceA TE s 29 1 [(0, .agg [.slice q 0 n 0 c b])] = some (.slice s.nx 0 1 0 1 true, s.alloc (.cells [.slice q 0 n 0 c b] 28 0)) := by kernel_rfl
noncomputable def elL : TI := (TE.info 28).getD default
theorem elL_size : elL.size = 1 := by kernel_rfl
theorem elL_bytes : elL.bytes = 24 := by kernel_rfl
theorem app_eqL {s : St} {V X : AV} : appendA TE s [29, 29] [V, X] = (match lenA X with
  | none => none
  | some n =>
    match firstA s 1 n X with
    | none => none
    | some new => bif Nat.beq new.length (n * 1) && new.all AV.one then growA s 28 elL V n new else none) := by kernel_rfl
theorem app_ly1 {s : St} {q : Nat} {W : AV} (hW : W.one = true) (hq : s.h.get q = some (.cells [W] 28 0)) : appendA TE s [29, 29] [.raw (.slice none 0 0), .slice q 0 1 0 1 true] = some (.slice s.nx 0 1 0 1 false, s.alloc (.cells [W] 28 2)) := by
  have e0 : firstA s 1 1 (.slice q 0 1 0 1 true) = some [W] := by simp [firstA, gc_of hq, cutL, dropL, takeL]
  have e1 : ([W] : List AV).all AV.one = true := by simp [hW]
  rw [app_eqL]
  simp only [lenA, e0, e1]
  show growA s 28 elL (.raw (.slice none 0 0)) 1 [W] = _
  simp only [growA, elL_size, elL_bytes]
  rfl
theorem below_setO {s : St} (hB : Below0 s) {a : Nat} {o : AO} (ha : a < s.nx) : Below0 { h := s.h.set a o, nx := s.nx } := by
  intro i x hx
  show i < s.nx
  by_cases e : i = a
  · omega
  · have : (s.h.set a o).get i = some x := hx
    rw [Tr.get_set, if_neg e] at this
    exact hB _ _ this
theorem copied1_c {s : St} (H : Ok TE Tryz.prog pr3) (hB : Below0 s) {q q2 : Nat} {es : List En} (h2 : es.length = 2) (hq : s.h.get q = some (.cells [.slice q2 0 2 0 2 true] 28 0)) (hq2 : s.h.get q2 = some (.cells (flatE es) 25 0)) {kr kp : AV → St → Bool}
    (hk : ∀ s' id, Ext s s' → Below0 s' → kr (.agg [.slice id 0 1 0 1 false]) s' = true) :
    (sem Tryz.prog).call 19 [.agg [.slice q 0 1 0 1 true]] s kr kp = true := by
  refine w_call H 24 fn_19 rfl rfl ?_
  have l1 := hB _ _ hq
  have l2 := hB _ _ hq2
  have g1 : decide ((0 : Int) < 1) = true := rfl
  have m1 : (q = s.nx) = False := by simp; omega
  have m2 : (q = s.nx + 1) = False := by simp; omega
  have m3 : (q = s.nx + 1 + 1) = False := by simp; omega
  have m4 : (s.nx = s.nx + 1) = False := by simp
  have m5 : (s.nx = s.nx + 1 + 1) = False := by simp; omega
  have m6 : (s.nx + 1 = s.nx + 1 + 1) = False := by simp
  repeat (first | with_reducible (refine w_one H ?_; constructor) | simp only [rB, rP, rQ, boolA, intA, resultA, resA, reduceIte, reduceCtorEq, Nat.reduceAdd, Nat.reduceLT, Nat.reduceEqDiff, UInt8.reduceToNat, pe3, pf3, cells_agg, all_im, fa_im0, ld_29, ln_ly1, m1, m2, m3, m4, m5, m6])
  refine w_loop H ?_
  have hB3 : Below0 (((s.alloc (.cells [.slice q 0 1 0 1 true] 31 0)).alloc (.cells [.raw (.slice none 0 0)] 31 0)).alloc (.cells [.raw (.slice none 0 0)] 31 0)) := below_al (below_al (below_al hB _) _) _
  have hE3 : Ext s (((s.alloc (.cells [.slice q 0 1 0 1 true] 31 0)).alloc (.cells [.raw (.slice none 0 0)] 31 0)).alloc (.cells [.raw (.slice none 0 0)] 31 0)) := ((Ext.alloc _ _).trans (Ext.alloc _ _)).trans (Ext.alloc _ _)
  have hEz : Ext s ({ h := ((((s.alloc (.cells [.slice q 0 1 0 1 true] 31 0)).alloc (.cells [.raw (.slice none 0 0)] 31 0)).alloc (.cells [.raw (.slice none 0 0)] 31 0)).alloc (.cells [.raw (.slice none 0 0)] 28 0)).h.set (s.nx + 1 + 1 + 1) (.cells [.slice q2 0 2 0 2 true] 28 0), nx := s.nx + 1 + 1 + 1 + 1 } : St) := hE3.trans ext_put
  have hBz : Below0 ({ h := ((((s.alloc (.cells [.slice q 0 1 0 1 true] 31 0)).alloc (.cells [.raw (.slice none 0 0)] 31 0)).alloc (.cells [.raw (.slice none 0 0)] 31 0)).alloc (.cells [.raw (.slice none 0 0)] 28 0)).h.set (s.nx + 1 + 1 + 1) (.cells [.slice q2 0 2 0 2 true] 28 0), nx := s.nx + 1 + 1 + 1 + 1 } : St) := below_put hB3
  have z3 : ({ h := ((((s.alloc (.cells [.slice q 0 1 0 1 true] 31 0)).alloc (.cells [.raw (.slice none 0 0)] 31 0)).alloc (.cells [.raw (.slice none 0 0)] 31 0)).alloc (.cells [.raw (.slice none 0 0)] 28 0)).h.set (s.nx + 1 + 1 + 1) (.cells [.slice q2 0 2 0 2 true] 28 0), nx := s.nx + 1 + 1 + 1 + 1 } : St).h.get (s.nx + 1 + 1) = some (.cells [.raw (.slice none 0 0)] 31 0) := by
    show ((((((s.alloc (.cells [.slice q 0 1 0 1 true] 31 0)).alloc (.cells [.raw (.slice none 0 0)] 31 0)).alloc (.cells [.raw (.slice none 0 0)] 31 0)).h.set (s.nx + 1 + 1 + 1) _).set (s.nx + 1 + 1 + 1) _).get (s.nx + 1 + 1)) = _
    rw [Tr.get_set, if_neg (by omega), Tr.get_set, if_neg (by omega)]
    exact al_same
  have z2 : ({ h := ((((s.alloc (.cells [.slice q 0 1 0 1 true] 31 0)).alloc (.cells [.raw (.slice none 0 0)] 31 0)).alloc (.cells [.raw (.slice none 0 0)] 31 0)).alloc (.cells [.raw (.slice none 0 0)] 28 0)).h.set (s.nx + 1 + 1 + 1) (.cells [.slice q2 0 2 0 2 true] 28 0), nx := s.nx + 1 + 1 + 1 + 1 } : St).h.get (s.nx + 1) = some (.cells [.raw (.slice none 0 0)] 31 0) := by
    show ((((((s.alloc (.cells [.slice q 0 1 0 1 true] 31 0)).alloc (.cells [.raw (.slice none 0 0)] 31 0)).alloc (.cells [.raw (.slice none 0 0)] 31 0)).h.set (s.nx + 1 + 1 + 1) _).set (s.nx + 1 + 1 + 1) _).get (s.nx + 1)) = _
    rw [Tr.get_set, if_neg (by omega), Tr.get_set, if_neg (by omega)]
    exact (al_ne (show s.nx + 1 ≠ s.nx + 1 + 1 by omega)).trans al_same
  have z5 : ({ h := ((((s.alloc (.cells [.slice q 0 1 0 1 true] 31 0)).alloc (.cells [.raw (.slice none 0 0)] 31 0)).alloc (.cells [.raw (.slice none 0 0)] 31 0)).alloc (.cells [.raw (.slice none 0 0)] 28 0)).h.set (s.nx + 1 + 1 + 1) (.cells [.slice q2 0 2 0 2 true] 28 0), nx := s.nx + 1 + 1 + 1 + 1 } : St).h.get (s.nx + 1 + 1 + 1) = some (.cells [.slice q2 0 2 0 2 true] 28 0) := hs_same
  have zq := (hEz.2 _ l2).trans hq2
  have zn : ({ h := ((((s.alloc (.cells [.slice q 0 1 0 1 true] 31 0)).alloc (.cells [.raw (.slice none 0 0)] 31 0)).alloc (.cells [.raw (.slice none 0 0)] 31 0)).alloc (.cells [.raw (.slice none 0 0)] 28 0)).h.set (s.nx + 1 + 1 + 1) (.cells [.slice q2 0 2 0 2 true] 28 0), nx := s.nx + 1 + 1 + 1 + 1 } : St).nx = s.nx + 1 + 1 + 1 + 1 := rfl
  have hB3 : Below0 (((s.alloc (.cells [.slice q 0 1 0 1 true] 31 0)).alloc (.cells [.raw (.slice none 0 0)] 31 0)).alloc (.cells [.raw (.slice none 0 0)] 31 0)) := below_al (below_al (below_al hB _) _) _
  have hE3 : Ext s (((s.alloc (.cells [.slice q 0 1 0 1 true] 31 0)).alloc (.cells [.raw (.slice none 0 0)] 31 0)).alloc (.cells [.raw (.slice none 0 0)] 31 0)) := ((Ext.alloc _ _).trans (Ext.alloc _ _)).trans (Ext.alloc _ _)
  have hEz : Ext s ({ h := ((((s.alloc (.cells [.slice q 0 1 0 1 true] 31 0)).alloc (.cells [.raw (.slice none 0 0)] 31 0)).alloc (.cells [.raw (.slice none 0 0)] 31 0)).alloc (.cells [.raw (.slice none 0 0)] 28 0)).h.set (s.nx + 1 + 1 + 1) (.cells [.slice q2 0 2 0 2 true] 28 0), nx := s.nx + 1 + 1 + 1 + 1 } : St) := hE3.trans ext_put
  have hBz : Below0 ({ h := ((((s.alloc (.cells [.slice q 0 1 0 1 true] 31 0)).alloc (.cells [.raw (.slice none 0 0)] 31 0)).alloc (.cells [.raw (.slice none 0 0)] 31 0)).alloc (.cells [.raw (.slice none 0 0)] 28 0)).h.set (s.nx + 1 + 1 + 1) (.cells [.slice q2 0 2 0 2 true] 28 0), nx := s.nx + 1 + 1 + 1 + 1 } : St) := below_put hB3
  have z3 : ({ h := ((((s.alloc (.cells [.slice q 0 1 0 1 true] 31 0)).alloc (.cells [.raw (.slice none 0 0)] 31 0)).alloc (.cells [.raw (.slice none 0 0)] 31 0)).alloc (.cells [.raw (.slice none 0 0)] 28 0)).h.set (s.nx + 1 + 1 + 1) (.cells [.slice q2 0 2 0 2 true] 28 0), nx := s.nx + 1 + 1 + 1 + 1 } : St).h.get (s.nx + 1 + 1) = some (.cells [.raw (.slice none 0 0)] 31 0) := by
    show ((((((s.alloc (.cells [.slice q 0 1 0 1 true] 31 0)).alloc (.cells [.raw (.slice none 0 0)] 31 0)).alloc (.cells [.raw (.slice none 0 0)] 31 0)).h.set (s.nx + 1 + 1 + 1) _).set (s.nx + 1 + 1 + 1) _).get (s.nx + 1 + 1)) = _
    rw [Tr.get_set, if_neg (by omega), Tr.get_set, if_neg (by omega)]
    exact al_same
  have z2 : ({ h := ((((s.alloc (.cells [.slice q 0 1 0 1 true] 31 0)).alloc (.cells [.raw (.slice none 0 0)] 31 0)).alloc (.cells [.raw (.slice none 0 0)] 31 0)).alloc (.cells [.raw (.slice none 0 0)] 28 0)).h.set (s.nx + 1 + 1 + 1) (.cells [.slice q2 0 2 0 2 true] 28 0), nx := s.nx + 1 + 1 + 1 + 1 } : St).h.get (s.nx + 1) = some (.cells [.raw (.slice none 0 0)] 31 0) := by
    show ((((((s.alloc (.cells [.slice q 0 1 0 1 true] 31 0)).alloc (.cells [.raw (.slice none 0 0)] 31 0)).alloc (.cells [.raw (.slice none 0 0)] 31 0)).h.set (s.nx + 1 + 1 + 1) _).set (s.nx + 1 + 1 + 1) _).get (s.nx + 1)) = _
    rw [Tr.get_set, if_neg (by omega), Tr.get_set, if_neg (by omega)]
    exact (al_ne (show s.nx + 1 ≠ s.nx + 1 + 1 by omega)).trans al_same
  have z5 : ({ h := ((((s.alloc (.cells [.slice q 0 1 0 1 true] 31 0)).alloc (.cells [.raw (.slice none 0 0)] 31 0)).alloc (.cells [.raw (.slice none 0 0)] 31 0)).alloc (.cells [.raw (.slice none 0 0)] 28 0)).h.set (s.nx + 1 + 1 + 1) (.cells [.slice q2 0 2 0 2 true] 28 0), nx := s.nx + 1 + 1 + 1 + 1 } : St).h.get (s.nx + 1 + 1 + 1) = some (.cells [.slice q2 0 2 0 2 true] 28 0) := hs_same
  have zq := (hEz.2 _ l2).trans hq2
  have zn : ({ h := ((((s.alloc (.cells [.slice q 0 1 0 1 true] 31 0)).alloc (.cells [.raw (.slice none 0 0)] 31 0)).alloc (.cells [.raw (.slice none 0 0)] 31 0)).alloc (.cells [.raw (.slice none 0 0)] 28 0)).h.set (s.nx + 1 + 1 + 1) (.cells [.slice q2 0 2 0 2 true] 28 0), nx := s.nx + 1 + 1 + 1 + 1 } : St).nx = s.nx + 1 + 1 + 1 + 1 := rfl
  have hB3 : Below0 (((s.alloc (.cells [.slice q 0 1 0 1 true] 31 0)).alloc (.cells [.raw (.slice none 0 0)] 31 0)).alloc (.cells [.raw (.slice none 0 0)] 31 0)) := below_al (below_al (below_al hB _) _) _
  have hE3 : Ext s (((s.alloc (.cells [.slice q 0 1 0 1 true] 31 0)).alloc (.cells [.raw (.slice none 0 0)] 31 0)).alloc (.cells [.raw (.slice none 0 0)] 31 0)) := ((Ext.alloc _ _).trans (Ext.alloc _ _)).trans (Ext.alloc _ _)
  have hEz : Ext s ({ h := ((((s.alloc (.cells [.slice q 0 1 0 1 true] 31 0)).alloc (.cells [.raw (.slice none 0 0)] 31 0)).alloc (.cells [.raw (.slice none 0 0)] 31 0)).alloc (.cells [.raw (.slice none 0 0)] 28 0)).h.set (s.nx + 1 + 1 + 1) (.cells [.slice q2 0 2 0 2 true] 28 0), nx := s.nx + 1 + 1 + 1 + 1 } : St) := hE3.trans ext_put
  have hBz : Below0 ({ h := ((((s.alloc (.cells [.slice q 0 1 0 1 true] 31 0)).alloc (.cells [.raw (.slice none 0 0)] 31 0)).alloc (.cells [.raw (.slice none 0 0)] 31 0)).alloc (.cells [.raw (.slice none 0 0)] 28 0)).h.set (s.nx + 1 + 1 + 1) (.cells [.slice q2 0 2 0 2 true] 28 0), nx := s.nx + 1 + 1 + 1 + 1 } : St) := below_put hB3
  have z3 : ({ h := ((((s.alloc (.cells [.slice q 0 1 0 1 true] 31 0)).alloc (.cells [.raw (.slice none 0 0)] 31 0)).alloc (.cells [.raw (.slice none 0 0)] 31 0)).alloc (.cells [.raw (.slice none 0 0)] 28 0)).h.set (s.nx + 1 + 1 + 1) (.cells [.slice q2 0 2 0 2 true] 28 0), nx := s.nx + 1 + 1 + 1 + 1 } : St).h.get (s.nx + 1 + 1) = some (.cells [.raw (.slice none 0 0)] 31 0) := by
    show ((((((s.alloc (.cells [.slice q 0 1 0 1 true] 31 0)).alloc (.cells [.raw (.slice none 0 0)] 31 0)).alloc (.cells [.raw (.slice none 0 0)] 31 0)).h.set (s.nx + 1 + 1 + 1) _).set (s.nx + 1 + 1 + 1) _).get (s.nx + 1 + 1)) = _
    rw [Tr.get_set, if_neg (by omega), Tr.get_set, if_neg (by omega)]
    exact al_same
  have z2 : ({ h := ((((s.alloc (.cells [.slice q 0 1 0 1 true] 31 0)).alloc (.cells [.raw (.slice none 0 0)] 31 0)).alloc (.cells [.raw (.slice none 0 0)] 31 0)).alloc (.cells [.raw (.slice none 0 0)] 28 0)).h.set (s.nx + 1 + 1 + 1) (.cells [.slice q2 0 2 0 2 true] 28 0), nx := s.nx + 1 + 1 + 1 + 1 } : St).h.get (s.nx + 1) = some (.cells [.raw (.slice none 0 0)] 31 0) := by
    show ((((((s.alloc (.cells [.slice q 0 1 0 1 true] 31 0)).alloc (.cells [.raw (.slice none 0 0)] 31 0)).alloc (.cells [.raw (.slice none 0 0)] 31 0)).h.set (s.nx + 1 + 1 + 1) _).set (s.nx + 1 + 1 + 1) _).get (s.nx + 1)) = _
    rw [Tr.get_set, if_neg (by omega), Tr.get_set, if_neg (by omega)]
    exact (al_ne (show s.nx + 1 ≠ s.nx + 1 + 1 by omega)).trans al_same
  have z5 : ({ h := ((((s.alloc (.cells [.slice q 0 1 0 1 true] 31 0)).alloc (.cells [.raw (.slice none 0 0)] 31 0)).alloc (.cells [.raw (.slice none 0 0)] 31 0)).alloc (.cells [.raw (.slice none 0 0)] 28 0)).h.set (s.nx + 1 + 1 + 1) (.cells [.slice q2 0 2 0 2 true] 28 0), nx := s.nx + 1 + 1 + 1 + 1 } : St).h.get (s.nx + 1 + 1 + 1) = some (.cells [.slice q2 0 2 0 2 true] 28 0) := hs_same
  have zq := (hEz.2 _ l2).trans hq2
  have zn : ({ h := ((((s.alloc (.cells [.slice q 0 1 0 1 true] 31 0)).alloc (.cells [.raw (.slice none 0 0)] 31 0)).alloc (.cells [.raw (.slice none 0 0)] 31 0)).alloc (.cells [.raw (.slice none 0 0)] 28 0)).h.set (s.nx + 1 + 1 + 1) (.cells [.slice q2 0 2 0 2 true] 28 0), nx := s.nx + 1 + 1 + 1 + 1 } : St).nx = s.nx + 1 + 1 + 1 + 1 := rfl
  repeat (first | with_reducible (refine w_one H ?_; constructor) | simp only [rB, rP, rQ, boolA, intA, resultA, resA, reduceIte, reduceCtorEq, Nat.reduceAdd, Nat.reduceLT, Nat.reduceEqDiff, UInt8.reduceToNat, pe3, pf3, cells_agg, all_im, fa_im0, ld_29, ln_ly1, b_lt, g1, ix_ly1, ld_ly, ldG_ly, hq, all_ly, st_lyO, stA_ly, m1, m2, m3, m4, m5, m6])
  generalize ({ h := ((((s.alloc (.cells [.slice q 0 1 0 1 true] 31 0)).alloc (.cells [.raw (.slice none 0 0)] 31 0)).alloc (.cells [.raw (.slice none 0 0)] 31 0)).alloc (.cells [.raw (.slice none 0 0)] 28 0)).h.set (s.nx + 1 + 1 + 1) (.cells [.slice q2 0 2 0 2 true] 28 0), nx := s.nx + 1 + 1 + 1 + 1 } : St) = σ at *
  repeat (first | with_reducible (refine w_one H ?_; constructor) | simp only [rB, rP, rQ, boolA, intA, resultA, resA, reduceIte, reduceCtorEq, Nat.reduceAdd, Nat.reduceLT, Nat.reduceEqDiff, UInt8.reduceToNat, pe3, pf3, fa_im0, ld_29, z3, z5, fa_ly0, ld_esO] | (with_reducible refine w_plan H (i := 5) (.take 0 (.take 1 (.take 2 (.take 3 (.alt 4 [2, 3] (.take 5 (.alt 6 [2, 3, 4, 5] (.alt 7 [0, 1, 2, 3, 4, 5, 6] (.take 8 (.alt 9 [0, 1, 2, 3, 4, 5, 6, 7, 8] (.done) (.yes))) (.yes)) (.yes))) (.yes)))))) rfl (by kernel_rfl) ?_))
  refine clone_c H hBz h2 zq (fun σ2 id hE2 hB2 => ?_)
  have y3 := (hE2.2 _ (hBz _ _ z3)).trans z3
  have y2 := (hE2.2 _ (hBz _ _ z2)).trans z2
  have y5 := (hE2.2 _ (hBz _ _ z5)).trans z5
  have l3 := hB2 _ _ y3
  have l5 := hB2 _ _ y5
  have n3 : (s.nx + 1 + 1 = σ2.nx) = False := by simp; omega
  have n4 : (s.nx + 1 + 1 = σ2.nx + 1) = False := by simp; omega
  have n5 : (s.nx + 1 + 1 + 1 = σ2.nx) = False := by simp; omega
  have n6 : (s.nx + 1 + 1 + 1 = σ2.nx + 1) = False := by simp; omega
  repeat (first | with_reducible (refine w_one H ?_; constructor) | simp only [rB, rP, rQ, boolA, intA, resultA, resA, reduceIte, reduceCtorEq, Nat.reduceAdd, Nat.reduceLT, Nat.reduceEqDiff, UInt8.reduceToNat, pe3, pf3, fa_im0, ld_29, z3, z5, y3, y5, fa_ly0, ld_esO, bd_lyO, bs_lyO, n3, n4, n5, n6])
  have g3 : (σ2.alloc (.cells [.slice id 0 2 0 2 false] 28 0)).h.get σ2.nx = some (.cells [.slice id 0 2 0 2 false] 28 0) := al_same
  have ap := app_ly1 (W := .slice id 0 2 0 2 false) rfl g3
  have hn3 : (σ2.alloc (.cells [.slice id 0 2 0 2 false] 28 0)).nx = σ2.nx + 1 := rfl
  have n7 : (s.nx + 1 = σ2.nx) = False := by simp; omega
  have n8 : (s.nx + 1 = σ2.nx + 1) = False := by simp; omega
  have n9 : (s.nx + 1 + 1 = s.nx + 1) = False := by simp
  have g2 : decide ((1 : Int) < 1) = false := rfl
  have i1 : IntKind.i64.wrap (0 + 1) = 1 := rfl
  rw [hn3] at ap
  repeat (first | with_reducible (refine w_one H ?_; constructor) | simp only [rB, rP, rQ, boolA, intA, resultA, resA, reduceIte, reduceCtorEq, Nat.reduceAdd, Nat.reduceLT, Nat.reduceEqDiff, UInt8.reduceToNat, pe3, pf3, fa_im0, ld_29, z3, z5, y3, y5, y2, ap, st_lys, fa_ly0, ld_esO, bd_lyO, bs_lyO, n3, n4, n5, n6, n7, n8, n9, m6, b_plus, i1])
  refine w_loop H ?_
  repeat (first | with_reducible (refine w_one H ?_; constructor) | simp only [rB, rP, rQ, boolA, intA, resultA, resA, reduceIte, reduceCtorEq, Nat.reduceAdd, Nat.reduceLT, Nat.reduceEqDiff, UInt8.reduceToNat, pe3, pf3, fa_im0, ld_29, y3, y5, y2, b_lt, g2, ld_imO, ldG_ly, st_imO, stA_ly, n3, n4, n5, n6, n7, n8, n9, m6, Tryz.results19])
  refine hk _ (σ2.nx + 1) ⟨?_, fun i hi => ?_⟩ ?_
  · show s.nx ≤ σ2.nx + 1 + 1
    omega
  · show (((((σ2.alloc _).alloc _).h.set _ _).set _ _).get i) = _
    rw [Tr.get_set, if_neg (by omega), Tr.get_set, if_neg (by omega)]
    exact ((hEz.trans hE2).trans ((Ext.alloc _ _).trans (Ext.alloc _ _))).2 i hi
  · refine below_setO (s := { h := _, nx := σ2.nx + 1 + 1 }) (below_setO (s := { h := _, nx := σ2.nx + 1 + 1 }) (below_al (below_al hB2 _) _) ?_) ?_
    · show s.nx + 1 + 1 < σ2.nx + 1 + 1
      omega
    · show s.nx + 1 < σ2.nx + 1 + 1
      omega
end Go.AX
namespace Go.AX
open Go.Proofs Go.RowKit
set_option maxRecDepth 1000000
set_option maxHeartbeats 400000000
set_option linter.unusedSimpArgs false
set_option linter.unusedVariables false
def moL (at' fr : List Nat) (on : Bool) : List AV := [.str at', .str fr, .raw (.bool on)]
theorem bsearch_c {s : St} (H : Ok TE Tryz.prog pr3) {p : List Nat} {f : AV} {kr kp : AV → St → Bool} (hk : kr (.tuple [.raw (.int .i64 0), .raw (.bool false)]) s = true) :
    (sem Tryz.prog).call 83 [nilS, .str p, f] s kr kp = true := by
  refine w_call H 49 fn_83 rfl rfl ?_
  have g1 : decide ((0 : Int) < 0) = false := rfl
  repeat (first | with_reducible (refine w_one H ?_; constructor) | simp only [rB, rP, rQ, boolA, intA, resultA, resA, reduceIte, reduceCtorEq, Nat.reduceAdd, Nat.reduceLT, Nat.reduceEqDiff, UInt8.reduceToNat, pe3, pf3, ln_ms, ids_nilS, b_lt, g1] | (with_reducible refine w_loop H ?_))
  repeat (first | with_reducible (refine w_one H ?_; constructor) | simp only [rB, rP, rQ, boolA, intA, resultA, resA, reduceIte, reduceCtorEq, Nat.reduceAdd, Nat.reduceLT, Nat.reduceEqDiff, UInt8.reduceToNat, pe3, pf3, ln_ms, ids_nilS, b_lt, g1, Tryz.results83])
  exact hk
theorem mfind_c {s : St} (H : Ok TE Tryz.prog pr3) {y : Nat} {p : List Nat} (hT : s.h.get y = some (.cells [nilS] 117 0)) {kr kp : AV → St → Bool} (hk : kr (.tuple [.raw (.int .i64 0), .raw (.bool false)]) s = true) :
    (sem Tryz.prog).call 43 [.ptr y 0, .str p] s kr kp = true := by
  refine w_call H 14 fn_43 rfl rfl ?_
  repeat (first | with_reducible (refine w_one H ?_; constructor) | simp only [rB, rP, rQ, boolA, intA, resultA, resA, reduceIte, reduceCtorEq, Nat.reduceAdd, Nat.reduceLT, Nat.reduceEqDiff, UInt8.reduceToNat, pe3, pf3, fa_mt, ld_ms, hT])
  refine bsearch_c H ?_
  repeat (first | with_reducible (refine w_one H ?_; constructor) | simp only [rB, rP, rQ, boolA, intA, resultA, resA, reduceIte, reduceCtorEq, Nat.reduceAdd, Nat.reduceLT, Nat.reduceEqDiff, UInt8.reduceToNat, pe3, pf3, Tryz.results43])
  exact hk
noncomputable def elM : TI := (TE.info 38).getD default
theorem elM_size : elM.size = 3 := by kernel_rfl
theorem elM_bytes : elM.bytes = 40 := by kernel_rfl
theorem app_eqM {s : St} {V X : AV} : appendA TE s [115, 115] [V, X] = (match lenA X with
  | none => none
  | some n =>
    match firstA s 3 n X with
    | none => none
    | some new => bif Nat.beq new.length (n * 3) && new.all AV.one then growA s 38 elM V n new else none) := by kernel_rfl
theorem app_mo {s : St} {q : Nat} {at' fr : List Nat} {on : Bool} (hq : s.h.get q = some (.cells (moL at' fr on) 38 0)) :
    appendA TE s [115, 115] [nilS, .slice q 0 1 0 1 true] = some (.slice s.nx 0 1 0 1 false, s.alloc (rowV on at' fr)) := by
  have e0 : firstA s 3 1 (.slice q 0 1 0 1 true) = some (moL at' fr on) := by simp [firstA, gc_of hq, cutL, dropL, takeL, moL]
  have e1 : (moL at' fr on).all AV.one = true := rfl
  rw [app_eqM]
  simp only [lenA, e0, e1]
  show growA s 38 elM nilS 1 (moL at' fr on) = _
  simp only [nilS, growA, elM_size, elM_bytes]
  rfl
theorem so_mo0 : sliceOpA TE 115 nilS (some (.raw (.int .i64 0))) none none = some nilS := by kernel_rfl
theorem ln_mo1 {s : St} {q : Nat} {b : Bool} : lenOpA TE s [115] [.slice q 0 1 0 1 b] = some (.raw (.int .i64 1)) := by kernel_rfl
theorem insert_c {s : St} (H : Ok TE Tryz.prog pr3) {q : Nat} {at' fr : List Nat} {on : Bool} (hq : s.h.get q = some (.cells (moL at' fr on) 38 0)) {kr kp : AV → St → Bool} (hk : kr (.slice s.nx 0 1 0 1 false) (s.alloc (rowV on at' fr)) = true) :
    (sem Tryz.prog).call 46 [nilS, .raw (.int .i64 0), .slice q 0 1 0 1 true] s kr kp = true := by
  refine w_call H 95 fn_46 rfl rfl ?_
  have ap := app_mo hq
  have g1 : ((1 : Int) == 0) = false := rfl
  have g2 : ((0 : Int) == 0) = true := rfl
  repeat (first | with_reducible (refine w_one H ?_; constructor) | simp only [rB, rP, rQ, boolA, intA, resultA, resA, reduceIte, reduceCtorEq, Nat.reduceAdd, Nat.reduceLT, Nat.reduceEqDiff, UInt8.reduceToNat, pe3, pf3, so_mo0, ln_ms, ln_mo1, ids_nilS, ids_slq, b_eqi, g1, g2, ap, Tryz.results46])
  exact hk
theorem bs_mo {s : St} {a b : List Nat} {c : Bool} : buildSliceA TE s 115 1 [(0, .agg [.str a, .str b, .raw (.bool c)])] = some (.slice s.nx 0 1 0 1 true, s.alloc (.cells (moL a b c) 38 0)) := by kernel_rfl
theorem st_msO {s : St} {x q n c : Nat} {b : Bool} : storeA TE s 115 (.ptr x 0) (.slice q 0 n 0 c b) = stC s x 0 (.slice q 0 n 0 c b) := st_gen (by kernel_rfl) rfl rfl
theorem madd_c {s : St} (H : Ok TE Tryz.prog pr3) {x y : Nat} {M : Md} {L : List (Nat × AO)} (hW : World s x M ((y, AO.cells [nilS] 117 0) :: L)) (hne : ∀ q ∈ L, q.1 ≠ y) {at' fr : List Nat} {on : Bool} (ha : at'.length ≤ 1000) (hf : fr.length ≤ 1000) (c1 : mclB at' = true) (c2 : mclB fr = true) (c3 : eqB at' [] = false) (c4 : belB fr at' = false) {kr kp : AV → St → Bool}
    (hk : ∀ s' q0, World s' x M ((y, tb1V q0) :: (q0, rowV on at' fr) :: L) → s.nx ≤ s'.nx → kr (.raw (.int .i64 0)) s' = true) :
    (sem Tryz.prog).call 20 [.ptr y 0, .agg (moL at' fr on)] s kr kp = true := by
  refine w_call H 60 fn_20 rfl rfl ?_
  have hW1 := World.alloc hW (.cells (moL at' fr on) 38 0)
  have gT := hW1.get1
  have gM := hW1.get0
  have ly : y < s.nx := World.lt hW (List.mem_cons_self ..)
  have hE1 : Ext s (s.alloc (.cells (moL at' fr on) 38 0)) := Ext.alloc s _
  have hn1 : (s.alloc (.cells (moL at' fr on) 38 0)).nx = s.nx + 1 := rfl
  have gM0 := gM
  unfold moL at gM0 ⊢
  repeat (first | with_reducible (refine w_one H ?_; constructor) | simp only [rB, rP, rQ, boolA, intA, resultA, resA, reduceIte, reduceCtorEq, Nat.reduceAdd, Nat.reduceLT, Nat.reduceEqDiff, UInt8.reduceToNat, pe3, pf3, cells_agg, b_pp, eq_mt, hn1, gM0, fa_mo0, ld_9])
  rw [show [AV.str at', .str fr, .raw (.bool on)] = moL at' fr on from rfl]
  clear gM0
  generalize s.alloc (.cells (moL at' fr on) 38 0) = s1 at *
  have gM1 : s1.h.get s.nx = some (.cells [.str at', .str fr, .raw (.bool on)] 38 0) := gM
  refine mfind_c H gT ?_
  repeat (first | with_reducible (refine w_one H ?_; constructor) | simp only [rB, rP, rQ, boolA, intA, resultA, resA, reduceIte, reduceCtorEq, Nat.reduceAdd, Nat.reduceLT, Nat.reduceEqDiff, UInt8.reduceToNat, pe3, pf3, gM1, fa_mo0, fa_mo1, ld_9])
  refine mclean1_c H ha ?_
  rw [c1]
  repeat (first | with_reducible (refine w_one H ?_; constructor) | simp only [rB, rP, rQ, boolA, intA, resultA, resA, reduceIte, reduceCtorEq, Nat.reduceAdd, Nat.reduceLT, Nat.reduceEqDiff, UInt8.reduceToNat, pe3, pf3, gM1, fa_mo0, fa_mo1, ld_9])
  refine mclean1_c H hf ?_
  rw [c2]
  repeat (first | with_reducible (refine w_one H ?_; constructor) | simp only [rB, rP, rQ, boolA, intA, resultA, resA, reduceIte, reduceCtorEq, Nat.reduceAdd, Nat.reduceLT, Nat.reduceEqDiff, UInt8.reduceToNat, pe3, pf3, gM1, fa_mo0, fa_mo1, ld_9, b_eqs, c3])
  refine pbelowO_c H ha ?_
  rw [c4]
  have g8 : decide ((0 : Int) ≥ 8) = false := rfl
  have gT1 : s1.h.get y = some (.cells [.raw (.slice none 0 0)] 117 0) := gT
  have ln := fun {s : St} => ln_ms (s := s)
  have ii : idsOf (.raw (.slice none 0 0)) = [] := rfl
  unfold nilS at ln
  have n1 : (s.nx = s1.nx) = False := by simp; omega
  have n2 : (y = s1.nx) = False := by simp; omega
  have ldm : ∀ {x : Nat} {a b : List Nat} {c : Bool} {el fz : Nat}, ldG 3 (some (.cells [.str a, .str b, .raw (.bool c)] el fz)) = some (.agg [.str a, .str b, .raw (.bool c)]) := fun {_ _ _ _ _ _} => rfl
  repeat (first | with_reducible (refine w_one H ?_; constructor) | simp only [rB, rP, rQ, boolA, intA, resultA, resA, reduceIte, reduceCtorEq, Nat.reduceAdd, Nat.reduceLT, Nat.reduceEqDiff, UInt8.reduceToNat, pe3, pf3, gM1, gT1, fa_mt, ld_ms, ln, ii, b_ge, g8, ld_mo, ldG_mo, bs_mo, n1, n2] | (with_reducible refine w_plan H (i := 8) (.take 0 (.take 1 (.take 2 (.take 3 (.take 4 (.take 5 (.take 6 (.alt 7 [6] (.alt 8 [1, 2, 3, 4, 5, 6, 7] (.take 9 (.take 10 (.alt 11 [0, 1, 2, 3, 4, 5, 6, 7, 8, 9, 10] (.done) (.yes)))) (.yes)) (.yes))))))))) rfl (by kernel_rfl) ?_))
  refine insert_c H al_same ?_
  have n3 : (s.nx = s1.nx + 1) = False := by simp; omega
  have n4 : (y = s1.nx + 1) = False := by simp; omega
  unfold rowV
  repeat (first | with_reducible (refine w_one H ?_; constructor) | simp only [rB, rP, rQ, boolA, intA, resultA, resA, reduceIte, reduceCtorEq, Nat.reduceAdd, Nat.reduceLT, Nat.reduceEqDiff, UInt8.reduceToNat, pe3, pf3, gM1, gT1, fa_mt, ld_ms, ln, ii, ld_mo, ldG_mo, bs_mo, n1, n2, n3, n4, st_msO, Tryz.results20])
  have hW3 := (World.alloc hW1 (.cells (moL at' fr on) 38 0)).alloc (rowV on at' fr)
  have hn3 : (s1.alloc (.cells (moL at' fr on) 38 0)).nx = s1.nx + 1 := rfl
  have hW4 : World _ x M ((y, AO.cells [nilS] 117 0) :: (s1.nx + 1, rowV on at' fr) :: L) := hW3.sub (fun q hq => by
    simp only [List.mem_cons] at hq ⊢
    rcases hq with hq | hq | hq
    · exact Or.inr (Or.inr (Or.inr (Or.inl hq)))
    · exact Or.inl hq
    · exact Or.inr (Or.inr (Or.inr (Or.inr hq))))
  refine hk _ (s1.nx + 1) (hW4.set (fun q hq => ?_) _) ?_
  · rcases List.mem_cons.1 hq with rfl | hq
    · show s1.nx + 1 ≠ y
      omega
    · exact hne q hq
  · show s.nx ≤ s1.nx + 1 + 1
    omega
end Go.AX
namespace Go.AX
open Go.Proofs Go.RowKit
set_option maxRecDepth 1000000
set_option maxHeartbeats 400000000
set_option linter.unusedSimpArgs false
set_option linter.unusedVariables false
def plainO : AO → Bool
  | .cells _ el _ => !(Nat.beq el 112 || Nat.beq el 106)
  | .old _ => true
  | _ => false
theorem World.withO {s : St} {x : Nat} {M : Md} {L : List (Nat × AO)} (h : World s x M L) {i : Nat} {o : AO} (hi : s.h.get i = some o) (ho : plainO o = true) : World s x M ((i, o) :: L) := by
  obtain ⟨hB, ι, μ, R, hq⟩ := h
  refine ⟨hB, ι, μ, R, fun q hm => ?_⟩
  rcases List.mem_cons.1 hm with rfl | hm
  · refine ⟨hi, ?_⟩
    rintro (e | ⟨k, hk, e | e⟩)
    · have e : i = x := e
      subst e
      rw [R.tr] at hi
      cases hi
      cases ho
    · have e : i = ι k := e
      subst e
      obtain ⟨nd, hn⟩ := T_of hk
      have := (R.nd k nd hn).1
      rw [this] at hi
      cases hi
      cases ho
    · have e : i = μ k := e
      subst e
      obtain ⟨nd, hn⟩ := T_of hk
      have h2 : s.h.get (μ k) = _ := (R.nd k nd hn).2
      rw [h2] at hi
      cases hi
      cases ho
  · exact hq q hm
theorem World.putO {s : St} {x : Nat} {M : Md} {L : List (Nat × AO)} (h : World s x M L) (o o' : AO) : World { h := (s.alloc o).h.set s.nx o', nx := s.nx + 1 } x M ((s.nx, o') :: L) :=
  (World.alloc h o).set (fun q hq => Nat.ne_of_lt (World.lt h hq)) o'
theorem numO_c {s : St} (H : Ok TE Tryz.prog pr3) {z : Int} {kr kp : AV → St → Bool} (hk : kr (.raw (.int .i64 z)) s = true) : (sem Tryz.prog).call 10 [.raw (.int .i64 z)] s kr kp = true := by
  refine w_call H 4 fn_10 rfl rfl ?_
  repeat (first | with_reducible (refine w_one H ?_; constructor) | simp only [rB, rP, rQ, boolA, intA, resultA, resA, reduceIte, reduceCtorEq, Nat.reduceAdd, Nat.reduceLT, Nat.reduceEqDiff, UInt8.reduceToNat, pe3, pf3, Tryz.results10])
  exact hk
theorem b_nesO {a b : List Nat} : binFast .neq (.str a) (.str b) = some (boolA (!eqB a b)) := (rfl)
theorem sametO_c {s : St} (H : Ok TE Tryz.prog pr3) {A B : AV} {l : List (List Nat)} (hA : SlV s A l) (hB : SlV s B l) (hl : l.length ≤ 1000000) {kr kp : AV → St → Bool} (hk : kr (.raw (.bool true)) s = true) :
    (sem Tryz.prog).call 11 [A, B] s kr kp = true := by
  refine w_call H 26 fn_11 rfl rfl ?_
  have la := hA.len
  have lb := hB.len
  have ia := hA.ids
  have ib := hB.ids
  repeat (first | with_reducible (refine w_one H ?_; constructor) | simp only [rB, rP, rQ, boolA, intA, resultA, resA, reduceIte, reduceCtorEq, Nat.reduceAdd, Nat.reduceLT, Nat.reduceEqDiff, UInt8.reduceToNat, pe3, pf3, la, lb, ia, ib, b_nei, bne_self_eq_false])
  refine w_loop_ind H (fun n t s' => ∃ k : Nat, n + k = l.length ∧ s' = s ∧ tg t 0 = A ∧ tg t 1 = B ∧ tg t 5 = .raw (.int .i64 (k : Int))) (n := l.length)
    ⟨0, rfl, rfl, by simp only [rB, rP, rQ, boolA, intA, resultA, resA, reduceIte, reduceCtorEq, Nat.reduceAdd, Nat.reduceLT, Nat.reduceEqDiff, UInt8.reduceToNat], by simp only [rB, rP, rQ, boolA, intA, resultA, resA, reduceIte, reduceCtorEq, Nat.reduceAdd, Nat.reduceLT, Nat.reduceEqDiff, UInt8.reduceToNat], by simp only [rB, rP, rQ, boolA, intA, resultA, resA, reduceIte, reduceCtorEq, Nat.reduceAdd, Nat.reduceLT, Nat.reduceEqDiff, UInt8.reduceToNat]; rfl⟩ ?_
  rintro n t s' ih ⟨k, hn, rfl, t0, t1, t5⟩
  cases n with
  | zero =>
    have g0 : decide ((k : Int) < (l.length : Int)) = false := by rw [decide_eq_false_iff_not]; omega
    repeat (first | with_reducible (refine w_one H ?_; constructor) | simp only [rB, rP, rQ, boolA, intA, resultA, resA, reduceIte, reduceCtorEq, Nat.reduceAdd, Nat.reduceLT, Nat.reduceEqDiff, UInt8.reduceToNat, pe3, pf3, t0, t1, t5, la, lb, ia, ib, b_lt, g0, Tryz.results11])
    exact hk
  | succ n =>
    have hlt : k < l.length := by omega
    have g0 : decide ((k : Int) < (l.length : Int)) = true := by rw [decide_eq_true_eq]; omega
    obtain ⟨i1, o1, x1, y1, ob1, z1⟩ := hA.idx (p := l[k]) (j := k) (List.getElem?_eq_getElem hlt)
    obtain ⟨i2, o2, x2, y2, ob2, z2⟩ := hB.idx (p := l[k]) (j := k) (List.getElem?_eq_getElem hlt)
    have y1' : ldO (s'.h.get i1) o1 = some (.str l[k]) := by rw [← ldC_o]; exact y1
    have y2' : ldO (s'.h.get i2) o2 = some (.str l[k]) := by rw [← ldC_o]; exact y2
    have w1 : ∀ b, inO (s'.h.get i1) b = b := fun b => by rw [z1]; rfl
    have w2 : ∀ b, inO (s'.h.get i2) b = b := fun b => by rw [z2]; rfl
    have ew : IntKind.i64.wrap ((k : Int) + 1) = ((k + 1 : Nat) : Int) := by
      rw [show (k : Int) + 1 = ((k + 1 : Nat) : Int) from by simp]
      exact wrap_nat (by omega)
    generalize l[k] = nm at *
    repeat (first | with_reducible (refine w_one H ?_; constructor) | simp only [rB, rP, rQ, boolA, intA, resultA, resA, reduceIte, reduceCtorEq, Nat.reduceAdd, Nat.reduceLT, Nat.reduceEqDiff, UInt8.reduceToNat, pe3, pf3, t0, t1, t5, la, lb, ia, ib, b_lt, g0, x1, x2, y1', y2', w1, w2, ld_9, b_nesO, eqB_self, b_plus, ew] | (with_reducible refine w_plan H (i := 6) (.take 0 (.take 1 (.take 2 (.take 3 (.take 4 (.take 5 (.take 6 (.take 7 (.take 8 (.done)))))))))) rfl (by kernel_rfl) ?_))
    exact ih n _ _ (by omega) ⟨k + 1, by omega, rfl, by simp only [rB, rP, rQ, boolA, intA, resultA, resA, reduceIte, reduceCtorEq, Nat.reduceAdd, Nat.reduceLT, Nat.reduceEqDiff, UInt8.reduceToNat, t0], by simp only [rB, rP, rQ, boolA, intA, resultA, resA, reduceIte, reduceCtorEq, Nat.reduceAdd, Nat.reduceLT, Nat.reduceEqDiff, UInt8.reduceToNat, t1], by simp only [rB, rP, rQ, boolA, intA, resultA, resA, reduceIte, reduceCtorEq, Nat.reduceAdd, Nat.reduceLT, Nat.reduceEqDiff, UInt8.reduceToNat]⟩
theorem oents_c {s : St} (H : Ok TE Tryz.prog pr3) {x v y m : Nat} {I W : AV} {M : Md} {L : List (Nat × AO)} (hW : World s x M L) (hV : (v, prO m y x I W) ∈ L) {es : List En} (h : entsT M.T 20 M.root [] = some es) (hl : es.length ≤ 20000) {kr kp : AV → St → Bool}
    (hk : ∀ s' V, Ext s s' → World s' x M L → ErB s.nx s' V es → kr V s' = true) : (sem Tryz.prog).call 8 [.ptr v 0] s kr kp = true := by
  refine w_call H 10 fn_8 rfl rfl ?_
  have gV := World.get hW hV
  simp only at gV
  unfold prO at gV
  repeat (first | with_reducible (refine w_one H ?_; constructor) | simp only [rB, rP, rQ, boolA, intA, resultA, resA, reduceIte, reduceCtorEq, Nat.reduceAdd, Nat.reduceLT, Nat.reduceEqDiff, UInt8.reduceToNat, pe3, pf3, b_pp, eq_pr, fa_pr2, ld_63, gV])
  refine entriesB_c H hW h hl (fun s' V hE hB' hE2 => ?_)
  repeat (first | with_reducible (refine w_one H ?_; constructor) | simp only [rB, rP, rQ, boolA, intA, resultA, resA, reduceIte, reduceCtorEq, Nat.reduceAdd, Nat.reduceLT, Nat.reduceEqDiff, UInt8.reduceToNat, pe3, pf3, Tryz.results8])
  exact hk s' V hE (hW.ext hE hB') hE2
end Go.AX
namespace Go.AX
open Go.Proofs Go.RowKit
set_option maxRecDepth 1000000
set_option maxHeartbeats 400000000
set_option linter.unusedSimpArgs false
set_option linter.unusedVariables false
theorem bd_prO {m y x id : Nat} {b : Nat} {s : St} {W : AV} {es : List En} (h : ErB b s W es) : buildA TE 70 [(0, .ptr m 0), (1, .ptr y 0), (2, .ptr x 0), (3, .agg [.slice id 0 1 0 1 false]), (4, W)] = some (.agg [.ptr m 0, .ptr y 0, .ptr x 0, .slice id 0 1 0 1 false, W]) := by
  rcases h with ⟨rfl, _⟩ | ⟨_, _, rfl, _⟩ <;> kernel_rfl
theorem onew_c {s : St} (H : Ok TE Tryz.prog pr3) (hB : Below0 s) {q q2 : Nat} {es : List En} (h2 : es.length = 2) (hq : s.h.get q = some (.cells [.slice q2 0 2 0 2 true] 28 0)) (hq2 : s.h.get q2 = some (.cells (flatE es) 25 0)) (hp : ∀ e ∈ es, e.1.length ≤ 1048575) {M : Md} (hm : mergeI [es] = some es) (ho : ofT es = some M) {kr kp : AV → St → Bool}
    (hk : ∀ s' v m y x I W, Ext s s' → World s' x M [(v, prO m y x I W), (y, .cells [nilS] 117 0)] → v ≠ y → kr (.tuple [.ptr v 0, .raw (.int .i64 0)]) s' = true) :
    (sem Tryz.prog).call 6 [.agg [.slice q 0 1 0 1 true], nilS, .raw (.int .i64 0)] s kr kp = true := by
  refine w_call H 41 fn_6 rfl rfl ?_
  have hB1 : Below0 (s.alloc (.cells [.slice q 0 1 0 1 true] 31 0)) := below_al hB _
  have hE1 : Ext s (s.alloc (.cells [.slice q 0 1 0 1 true] 31 0)) := Ext.alloc s _
  have c1 : (s.alloc (.cells [.slice q 0 1 0 1 true] 31 0)).h.get s.nx = some (.cells [.slice q 0 1 0 1 true] 31 0) := al_same
  have hn1 : (s.alloc (.cells [.slice q 0 1 0 1 true] 31 0)).nx = s.nx + 1 := rfl
  repeat (first | with_reducible (refine w_one H ?_; constructor) | simp only [rB, rP, rQ, boolA, intA, resultA, resA, reduceIte, reduceCtorEq, Nat.reduceAdd, Nat.reduceLT, Nat.reduceEqDiff, UInt8.reduceToNat, pe3, pf3, cells_agg])
  generalize s.alloc (.cells [.slice q 0 1 0 1 true] 31 0) = s1 at *
  have hq1 := (hE1.2 _ (hB _ _ hq)).trans hq
  have hq21 := (hE1.2 _ (hB _ _ hq2)).trans hq2
  have hI : LsV s1 (.slice q 0 1 0 1 true) [es] := by
    refine Or.inr (Or.inr ⟨q, 0, 0, 1, true, _, _, rfl, hq1, Or.inl ⟨_, rfl⟩, fun k es' hk => ?_⟩)
    cases k with
    | succ k => cases hk
    | zero =>
      cases hk
      refine ⟨_, rfl, Or.inr (Or.inr ⟨q2, 0, 0, 2, true, _, _, by rw [h2], hq21, Or.inl ⟨_, rfl⟩, beq_flatM, fun k e hk => by rw [Nat.zero_add]; exact cut_flatM hk⟩), Nat.le_refl _, rfl, rfl⟩
  repeat (first | with_reducible (refine w_one H ?_; constructor) | simp only [rB, rP, rQ, boolA, intA, resultA, resA, reduceIte, reduceCtorEq, Nat.reduceAdd, Nat.reduceLT, Nat.reduceEqDiff, UInt8.reduceToNat, pe3, pf3, c1, ld_imO, ldG_ly])
  refine merge_c H hB1 hI (fun es' he e h => hp e (by rw [List.mem_singleton.1 he] at h; exact h)) (fun s2 W out a1 a2 a3 a4 a5 a6 => ?_) (fun s2 a1 _ _ => by rw [hm] at a1; cases a1)
  rw [hm] at a1
  cases a1
  have g1 : ((0 : Int) != 0) = false := rfl
  repeat (first | with_reducible (refine w_one H ?_; constructor) | simp only [rB, rP, rQ, boolA, intA, resultA, resA, reduceIte, reduceCtorEq, Nat.reduceAdd, Nat.reduceLT, Nat.reduceEqDiff, UInt8.reduceToNat, pe3, pf3, b_nei, g1])
  refine vmnew_c H a3 (fun s3 m b1 b2 => ?_)
  repeat (first | with_reducible (refine w_one H ?_; constructor) | simp only [rB, rP, rQ, boolA, intA, resultA, resA, reduceIte, reduceCtorEq, Nat.reduceAdd, Nat.reduceLT, Nat.reduceEqDiff, UInt8.reduceToNat, pe3, pf3, b_nei, g1])
  have hW3 : ErB s1.nx s3 W es := a4.ext a3 b1
  refine of_c H b2 hW3.esvM (fun e he => by have := a5 e he; omega) (by omega) (fun s4 x M' o1 o2 o3 o4 => ?_) (fun s4 o1 _ _ => by rw [ho] at o1; cases o1)
  rw [ho] at o1
  cases o1
  have hE4 : Ext s1 s4 := (a2.trans b1).trans o2
  have c4 : s4.h.get s.nx = some (.cells [.slice q 0 1 0 1 true] 31 0) := (hE4.2 _ (by omega)).trans c1
  have hq4 := (hE4.2 _ (hB1 _ _ hq1)).trans hq1
  have hq24 := (hE4.2 _ (hB1 _ _ hq21)).trans hq21
  have hW4 := hW3.ext b2 o2
  have hB4 := o3.1
  repeat (first | with_reducible (refine w_one H ?_; constructor) | simp only [rB, rP, rQ, boolA, intA, resultA, resA, reduceIte, reduceCtorEq, Nat.reduceAdd, Nat.reduceLT, Nat.reduceEqDiff, UInt8.reduceToNat, pe3, pf3, c4, ld_imO, ldG_ly] | (with_reducible refine w_plan H (i := 8) (.take 0 (.take 2 (.take 3 (.take 5 (.alt 1 [] (.alt 4 [1, 3] (.take 6 (.alt 7 [0, 1, 2, 3, 4, 5, 6] (.take 8 (.take 9 (.done))) (.yes))) (.yes)) (.yes)))))) rfl (by kernel_rfl) ?_))
  refine mnew_c H ?_
  have hW5 := World.alloc o3 (.cells [nilS] 117 0)
  have hE5 : Ext s4 (s4.alloc (.cells [nilS] 117 0)) := Ext.alloc _ _
  have l4 := hB4 _ _ c4
  have nn : (s.nx = s4.nx) = False := by simp; omega
  have c5 := (hE5.2 _ l4).trans c4
  have hq5 := (hE5.2 _ (hB4 _ _ hq4)).trans hq4
  have hq25 := (hE5.2 _ (hB4 _ _ hq24)).trans hq24
  have hW5b := hW4.ext hB4 hE5
  have hn5 : (s4.alloc (.cells [nilS] 117 0)).nx = s4.nx + 1 := rfl
  repeat (first | with_reducible (refine w_one H ?_; constructor) | simp only [rB, rP, rQ, boolA, intA, resultA, resA, reduceIte, reduceCtorEq, Nat.reduceAdd, Nat.reduceLT, Nat.reduceEqDiff, UInt8.reduceToNat, pe3, pf3, c4, nn, ld_imO, ldG_ly])
  generalize s4.alloc (.cells [nilS] 117 0) = s5 at *
  refine copied1_c H hW5.1 h2 hq5 hq25 (fun s6 id e1 e2 => ?_)
  have c6 := (e1.2 _ (hW5.1 _ _ c5)).trans c5
  have hW6 := hW5.ext e1 e2
  have hW6b := hW5b.ext hW5.1 e1
  have bp := bd_prO (m := m) (y := s4.nx) (x := x) (id := id) hW6b
  have hW7 := World.alloc hW6 (prO m s4.nx x (.slice id 0 1 0 1 false) W)
  unfold prO at hW7
  repeat (first | with_reducible (refine w_one H ?_; constructor) | simp only [rB, rP, rQ, boolA, intA, resultA, resA, reduceIte, reduceCtorEq, Nat.reduceAdd, Nat.reduceLT, Nat.reduceEqDiff, UInt8.reduceToNat, pe3, pf3, c4, c5, c6, ld_imO, ldG_ly, bp, cells_agg, Tryz.results6])
  refine hk _ s6.nx m s4.nx x (.slice id 0 1 0 1 false) W ?_ hW7 ?_
  · exact ((hE1.trans hE4).trans (hE5.trans e1)).trans (Ext.alloc _ _)
  · have := e1.1
    omega
end Go.AX
namespace Go.AX
open Go.Proofs Go.RowKit
set_option maxRecDepth 1000000
set_option maxHeartbeats 400000000
set_option linter.unusedSimpArgs false
set_option linter.unusedVariables false
theorem all_atO {α : Type} {n : Nat} {f g : Nat → α} (h : (List.range n).map f = (List.range n).map g) {r : Nat} (hr : r < n) : f r = g r := by
  have e := congrArg (fun l => l[r]?) h
  simp only [List.getElem?_map, List.getElem?_range hr, Option.map_some, Option.some.injEq] at e
  exact e
def fnO (r : Nat) : List Nat := 102 :: decL r
def txO : List Nat := [116, 101, 120, 116]
def eO (f : List Nat) : List En := [([100], 1, 493, []), (100 :: 47 :: f, 2, 420, txO)]
def MO (f : List Nat) : Md := ⟨[⟨1, 493, [], [([100], 1)], none, [], 0⟩, ⟨1, 493, [], [(f, 2)], some 0, [100], 0⟩, ⟨2, 420, txO, [], some 1, f, 0⟩], 0, 0, [none, none, none, none, none, none, none, none], 2⟩
theorem o_of : (List.range 256).map (fun r => ofT (eO (fnO r))) = (List.range 256).map (fun r => some (MO (fnO r))) := by kernel_rfl
theorem o_lead : (List.range 256).map (fun r => leadO true [109] [100] (MO (fnO r)) (47 :: 109 :: 47 :: fnO r)) = (List.range 256).map (fun r => some (47 :: 100 :: 47 :: fnO r, true)) := by kernel_rfl
theorem o_lead2 : (List.range 256).map (fun r => leadO true [109] [100] (MO (fnO r)) [47, 120]) = (List.range 256).map (fun r => some ([47, 120], false)) := by kernel_rfl
theorem o_leadR : (List.range 256).map (fun r => leadO true [109] [100] (MO (fnO r)) (109 :: 47 :: fnO r)) = (List.range 256).map (fun r => some (47 :: 100 :: 47 :: fnO r, true)) := by kernel_rfl
theorem o_leadL : (List.range 256).map (fun r => leadO true [109] [100] (MO (fnO r)) [47, 109]) = (List.range 256).map (fun r => some ([47, 100], true)) := by kernel_rfl
theorem o_read : (List.range 256).map (fun r => doM (MO (fnO r)) ⟨2, 47 :: 100 :: 47 :: fnO r, [], 0, 0, 9, 0, []⟩) = (List.range 256).map (fun r => some (⟨0, 4, 0, 0, txO, []⟩, MO (fnO r))) := by kernel_rfl
theorem o_list : (List.range 256).map (fun r => doM (MO (fnO r)) ⟨3, [47, 100], [], 0, 0, 0, 0, []⟩) = (List.range 256).map (fun r => some (⟨0, 0, 0, 0, [], [fnO r]⟩, MO (fnO r))) := by kernel_rfl
theorem o_ents : (List.range 256).map (fun r => entsT (MO (fnO r)).T 20 (MO (fnO r)).root []) = (List.range 256).map (fun r => some (eO (fnO r))) := by kernel_rfl
theorem fnO_len (r : Nat) : (fnO r).length ≤ 4 := by unfold fnO; have := decL_len (n := r); simp; omega
end Go.AX
namespace Go.AX
open Go.Proofs Go.RowKit
set_option maxRecDepth 1000000
set_option maxHeartbeats 40000000
set_option linter.unusedSimpArgs false
end Go.AX
namespace Go.AX
open Go.Proofs Go.RowKit
set_option maxRecDepth 1000000
set_option maxHeartbeats 400000000
set_option linter.unusedSimpArgs false
set_option linter.unusedVariables false
theorem c4_awake {r : Tasks} {a : Ac} {dst : Option Tmp} {s : St} {k : Ac → St → Bool} {kp : AV → St → Bool} : callV pr4 r (.fn 4 []) [] a dst s k kp = putK a dst (.raw (.bool true)) s k := by
  refine c_prim (pe4 (by decide)) ?_
  unfold pr4
  rw [add_ne (by decide)]
  unfold pr3
  rw [add_same]
  rfl
theorem bd_e3O {p : List Nat} {k m : Int} : buildA TE 25 [(0, .str p), (1, .raw (.int .i64 k)), (2, .raw (.int .i64 m))] = some (agE (p, k, m, [])) := by kernel_rfl
theorem bd_e4O {p d : List Nat} {k m : Int} : buildA TE 25 [(0, .str p), (1, .raw (.int .i64 k)), (2, .raw (.int .i64 m)), (3, .str d)] = some (agE (p, k, m, d)) := by kernel_rfl
theorem bs_e2O {s : St} {e e' : En} : buildSliceA TE s 26 2 [(0, agE e), (1, agE e')] = some (.slice s.nx 0 2 0 2 true, s.alloc (.cells (flatE [e, e']) 25 0)) := by kernel_rfl
theorem bd_imO {q : Nat} : buildA TE 31 [(0, .slice q 0 1 0 1 true)] = some (.agg [.slice q 0 1 0 1 true]) := by kernel_rfl
theorem bd_moO {a b : List Nat} {c : Bool} : buildA TE 38 [(0, .str a), (1, .str b), (2, .raw (.bool c))] = some (.agg (moL a b c)) := by kernel_rfl
theorem bd_c1O {a : Int} {b : List Nat} : buildA TE 47 [(0, .raw (.int .i64 a)), (1, .str b)] = some (.agg (clL ⟨a, b, [], 0, 0, 0, 0, []⟩)) := by kernel_rfl
theorem bd_c5O {a n : Int} {b : List Nat} : buildA TE 47 [(0, .raw (.int .i64 a)), (1, .str b), (5, .raw (.int .i64 n))] = some (.agg (clL ⟨a, b, [], 0, 0, n, 0, []⟩)) := by kernel_rfl
theorem bd_c6O {a m : Int} {b c d : List Nat} : buildA TE 47 [(0, .raw (.int .i64 a)), (1, .str b), (2, .str c), (7, .str d), (6, .raw (.int .i64 m))] = some (.agg (clL ⟨a, b, c, 0, 0, 0, m, d⟩)) := by kernel_rfl
def opsO : List AV := [.raw (.int .i64 5), .raw (.int .i64 6), .raw (.int .i64 7), .raw (.int .i64 8), .raw (.int .i64 9), .raw (.int .i64 10), .raw (.int .i64 11), .raw (.int .i64 12), .raw (.int .i64 13)]
theorem bs_i9 {s : St} : buildSliceA TE s 40 9 [(0, .raw (.int .i64 5)), (1, .raw (.int .i64 6)), (2, .raw (.int .i64 7)), (3, .raw (.int .i64 8)), (4, .raw (.int .i64 9)), (5, .raw (.int .i64 10)), (6, .raw (.int .i64 11)), (7, .raw (.int .i64 12)), (8, .raw (.int .i64 13))] = some (.slice s.nx 0 9 0 9 true, s.alloc (.cells opsO 3 0)) := by kernel_rfl
theorem ix_i9 {q r : Nat} (h : r < 9) : indexAddrA TE 40 (.slice q 0 9 0 9 true) (.raw (.int .u64 (r : Int))) = some (.ptr q r) := by
  have e : indexAddrA TE 40 (.slice q 0 9 0 9 true) (.raw (.int .u64 (r : Int))) = (bif Nat.blt r 9 then some (.ptr q (0 + r * 1)) else none) := by kernel_rfl
  rw [e, Nat.blt_eq.mpr h]
  simp
theorem ld_i9 {r : Nat} (h : r < 9) {el fz : Nat} : ldO (some (.cells opsO el fz)) r = some (.raw (.int .i64 ((5 + r : Nat) : Int))) := by
  have hh : r = 0 ∨ r = 1 ∨ r = 2 ∨ r = 3 ∨ r = 4 ∨ r = 5 ∨ r = 6 ∨ r = 7 ∨ r = 8 := by omega
  rcases hh with rfl | rfl | rfl | rfl | rfl | rfl | rfl | rfl | rfl <;> rfl
theorem bs_s1O {s : St} {f : List Nat} : buildSliceA TE s 41 1 [(0, .str f)] = some (.slice s.nx 0 1 0 1 true, s.alloc (.cells [.str f] 9 0)) := by kernel_rfl
theorem fa_an0O {x : Nat} : fieldAddrA TE 43 (.ptr x 0) 0 = some (.ptr x 0) := by kernel_rfl
theorem fa_an4O {x : Nat} : fieldAddrA TE 43 (.ptr x 0) 4 = some (.ptr x 4) := by kernel_rfl
theorem fa_an5O {x : Nat} : fieldAddrA TE 43 (.ptr x 0) 5 = some (.ptr x 5) := by kernel_rfl
theorem ldO_an0O {a b c d : Int} {e : List Nat} {V : AV} {t z : Nat} : ldO (some (.cells (anL a b c d e V) t z)) 0 = some (.raw (.int .i64 a)) := (rfl)
theorem ldO_an4O {a b c d : Int} {e : List Nat} {V : AV} {t z : Nat} : ldO (some (.cells (anL a b c d e V) t z)) 4 = some (.str e) := (rfl)
theorem ldO_an5O {a b c d : Int} {e : List Nat} {V : AV} {t z : Nat} : ldO (some (.cells (anL a b c d e V) t z)) 5 = some V := (rfl)
theorem an_g0O {a b c d : Int} {e : List Nat} {V : AV} : (anL a b c d e V)[0]? = some (.raw (.int .i64 a)) := (rfl)
theorem an_g4O {a b c d : Int} {e : List Nat} {V : AV} : (anL a b c d e V)[4]? = some (.str e) := (rfl)
theorem an_g5O {a b c d : Int} {e : List Nat} {V : AV} : (anL a b c d e V)[5]? = some V := (rfl)
theorem omount_c {s : St} (H : Ok TE Tryz.prog pr3) {x v y m : Nat} {I W : AV} {M : Md} (hW : World s x M [(v, prO m y x I W), (y, .cells [nilS] 117 0)]) (hvy : v ≠ y) {at' fr : List Nat} {on : Bool} (ha : at'.length ≤ 1000) (hf : fr.length ≤ 1000) (c1 : mclB at' = true) (c2 : mclB fr = true) (c3 : eqB at' [] = false) (c4 : belB fr at' = false) {kr kp : AV → St → Bool}
    (hk : ∀ s' q0, World s' x M [(y, tb1V q0), (q0, rowV on at' fr), (v, prO m y x I W)] → kr (.raw (.int .i64 0)) s' = true) :
    (sem Tryz.prog).call 7 [.ptr v 0, .agg (moL at' fr on)] s kr kp = true := by
  refine w_call H 13 fn_7 rfl rfl ?_
  have hW1 := World.alloc hW (.cells (moL at' fr on) 38 0)
  have gV := hW1.get1
  have gM := hW1.get0
  have ly : y < s.nx := World.lt hW (List.mem_cons_of_mem _ (List.mem_cons_self ..))
  have hn1 : (s.alloc (.cells (moL at' fr on) 38 0)).nx = s.nx + 1 := rfl
  unfold prO at gV
  have gM0 := gM
  unfold moL at gM0 ⊢
  repeat (first | with_reducible (refine w_one H ?_; constructor) | simp only [rB, rP, rQ, boolA, intA, resultA, resA, reduceIte, reduceCtorEq, Nat.reduceAdd, Nat.reduceLT, Nat.reduceEqDiff, UInt8.reduceToNat, pe3, pf3, cells_agg, b_pp, eq_pr, hn1])
  rw [show [AV.str at', .str fr, .raw (.bool on)] = moL at' fr on from rfl]
  clear gM0
  generalize s.alloc (.cells (moL at' fr on) 38 0) = s1 at *
  have gM1 : s1.h.get s.nx = some (.cells [.str at', .str fr, .raw (.bool on)] 38 0) := gM
  repeat (first | with_reducible (refine w_one H ?_; constructor) | simp only [rB, rP, rQ, boolA, intA, resultA, resA, reduceIte, reduceCtorEq, Nat.reduceAdd, Nat.reduceLT, Nat.reduceEqDiff, UInt8.reduceToNat, pe3, pf3, gV, gM1, fa_pr1, ld_mt, ld_mo, ldG_mo] | (with_reducible refine w_plan H (i := 3) (.take 0 (.take 1 (.take 2 (.take 3 (.take 4 (.alt 5 [0, 1, 2, 3, 4] (.take 6 (.done)) (.yes))))))) rfl (by kernel_rfl) ?_))
  rw [show [AV.str at', .str fr, .raw (.bool on)] = moL at' fr on from rfl]
  have hW2 : World s1 x M ((y, .cells [nilS] 117 0) :: [(s.nx, .cells (moL at' fr on) 38 0), (v, prO m y x I W)]) := hW1.sub (fun q hq => by
    simp only [List.mem_cons, List.not_mem_nil, or_false] at hq ⊢
    rcases hq with hq | hq | hq
    · exact Or.inr (Or.inr hq)
    · exact Or.inl hq
    · exact Or.inr (Or.inl hq))
  refine madd_c H hW2 (fun q hq => ?_) ha hf c1 c2 c3 c4 (fun s3 q0 hW3 l3 => ?_)
  · simp only [List.mem_cons, List.not_mem_nil, or_false] at hq
    rcases hq with rfl | rfl
    · show s.nx ≠ y
      omega
    · exact hvy
  have k1 : s3.h.get s.nx = some (.cells [.str at', .str fr, .raw (.bool on)] 38 0) := World.get hW3 (q := (s.nx, .cells (moL at' fr on) 38 0)) (by simp)
  have k2 : s3.h.get v = some (prO m y x I W) := World.get hW3 (q := (v, prO m y x I W)) (by simp)
  unfold prO at k2
  repeat (first | with_reducible (refine w_one H ?_; constructor) | simp only [rB, rP, rQ, boolA, intA, resultA, resA, reduceIte, reduceCtorEq, Nat.reduceAdd, Nat.reduceLT, Nat.reduceEqDiff, UInt8.reduceToNat, pe3, pf3, gV, gM1, k1, k2, fa_pr1, ld_mt, ld_mo, ldG_mo, Tryz.results7])
  refine hk s3 q0 (hW3.sub (fun q hq => ?_))
  simp only [List.mem_cons, List.not_mem_nil, or_false] at hq ⊢
  rcases hq with hq | hq | hq
  · exact Or.inl hq
  · exact Or.inr (Or.inl hq)
  · exact Or.inr (Or.inr (Or.inr hq))
theorem fro_c {s : St} (H : Ok TE Tryz.prog pr3) {M : Md} {x v y m : Nat} {I W : AV} {L : List (Nat × AO)} (hW : World s x M L) {on : Bool} {at' fr : List Nat} {q0 : Nat} (hV : (v, prO m y x I W) ∈ L) (hT : (y, tb1V q0) ∈ L) (hQ : (q0, rowV on at' fr) ∈ L) (ha : at'.length ≤ 1000) (hf : fr.length ≤ 1000) {r : Nat} (hr9 : r < 9) {pa pb dt : List Nat} {mo : Int} {p q2 : List Nat} {o2 : Bool} (hr : leadO on at' fr M pa = some (p, true)) (hr2 : leadO on at' fr M pb = some (q2, o2)) {kr kp : AV → St → Bool} (hk : Dt s x L kr (anS 11, M)) :
    (sem Tryz.prog).call 9 [.ptr v 0, .agg (clL ⟨((5 + r : Nat) : Int), pa, pb, 0, 0, 0, mo, dt⟩)] s kr kp = true := by
  have hC : chgB ((5 + r : Nat) : Int) = true := by
    unfold chgB
    rw [decide_eq_true (by omega), cond_true]
    exact decide_eq_true (by omega)
  by_cases h8 : r = 8
  · subst h8
    exact fro2_c H hW hV hT hQ ha hf (c := ⟨((5 + 8 : Nat) : Int), pa, pb, 0, 0, 0, mo, dt⟩) rfl hC hr hr2 hk
  · refine fro1_c H hW hV hT hQ ha hf (c := ⟨((5 + r : Nat) : Int), pa, pb, 0, 0, 0, mo, dt⟩) (show ¬ ((5 + r : Nat) : Int) = 13 by omega) ?_ hC hr hk
    show (decide (1 ≤ ((5 + r : Nat) : Int)) && decide (((5 + r : Nat) : Int) ≤ 14) || decide (((5 + r : Nat) : Int) = 18)) = true
    rw [decide_eq_true (by omega), decide_eq_true (by omega)]
    rfl
theorem sameE_O (f : List Nat) : sameE (eO f) (eO f) = true := by
  unfold sameE eO
  simp [sameL, eqE, eqB_self]
theorem only_c (z op : Int) {r : Nat} (e : andI z 255 = (r : Int)) (hr : r < 256) {o : Nat} (eo : (IntKind.u64.wrap op).tmod 9 = (o : Int)) (ho : o < 9) : (sem Tryz.prog).call 3 [.raw (.int .i64 z), .raw (.int .i64 op)] st0 (fun v _ => isTrue v) (fun _ _ => false) = true := by
  have H := ok4
  refine w_call H 90 fn_3 rfl rfl ?_
  have hb : Nat.blt r 256 = true := Nat.blt_eq.mpr hr
  have hfl := fnO_len r
  have hd := decL_len (n := r)
  have f0 : binFast .add (.str [102]) (.str (decL r)) = some (.str (fnO r)) := b_add (by simp; omega)
  have f1 : binFast .add (.str [100, 47]) (.str (fnO r)) = some (.str (100 :: 47 :: fnO r)) := b_add (by simp; omega)
  have f2 : binFast .add (.str [47, 109, 47]) (.str (fnO r)) = some (.str (47 :: 109 :: 47 :: fnO r)) := b_add (by simp; omega)
  have f3 : binFast .add (.str [109, 47]) (.str (fnO r)) = some (.str (109 :: 47 :: fnO r)) := b_add (by simp; omega)
  have p0 := all_atO o_of hr
  have p1 := all_atO o_lead hr
  have p2 := all_atO o_lead2 hr
  have p3 := all_atO o_leadR hr
  have p4 := all_atO o_leadL hr
  have p5 := all_atO o_read hr
  have p6 := all_atO o_list hr
  have p7 := all_atO o_ents hr
  have pm := merge_tree p0
  generalize hM : MO (fnO r) = M at *
  generalize hf : fnO r = f at *
  have B0 : Below0 st0 := fun i o h => by cases h
  have hBz : Below0 ({ h := (((st0.alloc (.cells (flatE [([100], 1, 493, []), (100 :: 47 :: f, 2, 420, [116, 101, 120, 116])]) 25 0)).alloc (.cells [.slice 0 0 2 0 2 true] 28 0)).alloc (.cells [.raw (.slice none 0 0)] 31 0)).h.set 2 (.cells [.slice 1 0 1 0 1 true] 31 0), nx := 3 } : St) := below_put (s := (st0.alloc _).alloc _) (below_al (below_al B0 _) _)
  have zq2 : ({ h := (((st0.alloc (.cells (flatE [([100], 1, 493, []), (100 :: 47 :: f, 2, 420, [116, 101, 120, 116])]) 25 0)).alloc (.cells [.slice 0 0 2 0 2 true] 28 0)).alloc (.cells [.raw (.slice none 0 0)] 31 0)).h.set 2 (.cells [.slice 1 0 1 0 1 true] 31 0), nx := 3 } : St).h.get 0 = some (.cells (flatE (eO f)) 25 0) := by kernel_rfl
  have zq : ({ h := (((st0.alloc (.cells (flatE [([100], 1, 493, []), (100 :: 47 :: f, 2, 420, [116, 101, 120, 116])]) 25 0)).alloc (.cells [.slice 0 0 2 0 2 true] 28 0)).alloc (.cells [.raw (.slice none 0 0)] 31 0)).h.set 2 (.cells [.slice 1 0 1 0 1 true] 31 0), nx := 3 } : St).h.get 1 = some (.cells [.slice 0 0 2 0 2 true] 28 0) := by kernel_rfl
  have z2 : ({ h := (((st0.alloc (.cells (flatE [([100], 1, 493, []), (100 :: 47 :: f, 2, 420, [116, 101, 120, 116])]) 25 0)).alloc (.cells [.slice 0 0 2 0 2 true] 28 0)).alloc (.cells [.raw (.slice none 0 0)] 31 0)).h.set 2 (.cells [.slice 1 0 1 0 1 true] 31 0), nx := 3 } : St).h.get 2 = some (.cells [.slice 1 0 1 0 1 true] 31 0) := by kernel_rfl
  repeat (first | with_reducible (refine w_one H ?_; constructor) | simp only [rB, rP, rQ, boolA, intA, resultA, resA, reduceIte, reduceCtorEq, Nat.reduceAdd, Nat.reduceLT, Nat.reduceEqDiff, UInt8.reduceToNat, pe4, pf4, c4_awake, e, c_dec hb, f0, bd_e3O, f1, bd_e4O, bs_e2O, bd_lyO, bs_lyO, bd_imO, all_im, st_imO, stA_ly])
  generalize ({ h := (((st0.alloc (.cells (flatE [([100], 1, 493, []), (100 :: 47 :: f, 2, 420, [116, 101, 120, 116])]) 25 0)).alloc (.cells [.slice 0 0 2 0 2 true] 28 0)).alloc (.cells [.raw (.slice none 0 0)] 31 0)).h.set 2 (.cells [.slice 1 0 1 0 1 true] 31 0), nx := 3 } : St) = σ at *
  repeat (first | with_reducible (refine w_one H ?_; constructor) | simp only [rB, rP, rQ, boolA, intA, resultA, resA, reduceIte, reduceCtorEq, Nat.reduceAdd, Nat.reduceLT, Nat.reduceEqDiff, UInt8.reduceToNat, pe4, pf4, z2, ld_imO, ldG_ly])
  have hpl : ∀ q ∈ eO f, q.1.length ≤ 1048575 := by
    intro q hq
    simp only [eO, List.mem_cons, List.not_mem_nil, or_false] at hq
    rcases hq with rfl | rfl
    · decide
    · show (100 :: 47 :: f).length ≤ _
      simp
      omega
  refine onew_c ok3 hBz (es := eO f) rfl zq zq2 hpl pm p0 (fun s1 v m y x I W hE1 hW1 hvy => ?_)
  repeat (first | with_reducible (refine w_one H ?_; constructor) | simp only [rB, rP, rQ, boolA, intA, resultA, resA, reduceIte, reduceCtorEq, Nat.reduceAdd, Nat.reduceLT, Nat.reduceEqDiff, UInt8.reduceToNat, pe4, pf4, bd_moO])
  refine omount_c ok3 hW1 hvy (at' := [109]) (fr := [100]) (by decide) (by decide) (by kernel_rfl) (by kernel_rfl) (by kernel_rfl) (by kernel_rfl) (fun s2 q0 hW2 => ?_)
  have a3 : ([109] : List Nat).length ≤ 1000 := by decide
  have b3 : ([100] : List Nat).length ≤ 1000 := by decide
  have up : ∀ {x a : Nat × AO} {L : List (Nat × AO)}, x ∈ L → x ∈ a :: L := fun h => List.mem_cons_of_mem _ h
  have t0 : ∀ {L : List (Nat × AO)}, (y, tb1V q0) ∈ (y, tb1V q0) :: (q0, rowV true [109] [100]) :: (v, prO m y x I W) :: L := by simp
  have u0 : ∀ {L : List (Nat × AO)}, (q0, rowV true [109] [100]) ∈ (y, tb1V q0) :: (q0, rowV true [109] [100]) :: (v, prO m y x I W) :: L := by simp
  have v0 : ∀ {L : List (Nat × AO)}, (v, prO m y x I W) ∈ (y, tb1V q0) :: (q0, rowV true [109] [100]) :: (v, prO m y x I W) :: L := by simp
  repeat (first | with_reducible (refine w_one H ?_; constructor) | simp only [rB, rP, rQ, boolA, intA, resultA, resA, reduceIte, reduceCtorEq, Nat.reduceAdd, Nat.reduceLT, Nat.reduceEqDiff, UInt8.reduceToNat, pe4, pf4])
  refine oents_c ok3 hW2 v0 p7 (by simp [eO]) (fun s3 V3 hE3 hW3 hVE => ?_)
  rcases hVE with ⟨_, h⟩ | ⟨id, _, hV3, hg⟩
  · cases h
  have hV3 : V3 = .slice id 0 2 0 2 false := hV3
  subst hV3
  have hW3 := World.withO hW3 hg rfl
  have hW4 := World.alloc hW3 (.cells opsO 3 0)
  have gI := hW4.get0
  have li := ld_i9 ho (el := 3) (fz := 0)
  have xi := ix_i9 (q := s3.nx) ho
  repeat (first | with_reducible (refine w_one H ?_; constructor) | simp only [rB, rP, rQ, boolA, intA, resultA, resA, reduceIte, reduceCtorEq, Nat.reduceAdd, Nat.reduceLT, Nat.reduceEqDiff, UInt8.reduceToNat, pe4, pf4, bs_i9])
  generalize s3.alloc (.cells opsO 3 0) = s4 at *
  repeat (first | with_reducible (refine w_one H ?_; constructor) | simp only [rB, rP, rQ, boolA, intA, resultA, resA, reduceIte, reduceCtorEq, Nat.reduceAdd, Nat.reduceLT, Nat.reduceEqDiff, UInt8.reduceToNat, pe4, pf4, o_cvt, i64_int, toU_int, b_rem, eqS_rem, rm_eq (m := 9) (by decide), u64_int, remA_int, eo, xi, ld_3, gI, li, f2, bd_c6O])
  refine fro_c ok3 hW4 (up (up v0)) (up (up t0)) (up (up u0)) a3 b3 ho p1 p2 ?_
  intro s5 V5 hW5 l5 hV5
  repeat (first | with_reducible (refine w_one H ?_; constructor) | simp only [rB, rP, rQ, boolA, intA, resultA, resA, reduceIte, reduceCtorEq, Nat.reduceAdd, Nat.reduceLT, Nat.reduceEqDiff, UInt8.reduceToNat, pe4, pf4, all_an, st_an hV5.cells1.2, stA_an, f3, bd_c5O])
  refine thr1_c ok3 (World.putO hW5 (.cells (anL 0 0 0 0 [] nilS) 43 0) (.cells (anL 11 0 0 0 [] V5) 43 0)) (up (up (up v0))) (up (up (up t0))) (up (up (up u0))) a3 b3 (c := ⟨2, 109 :: 47 :: f, [], 0, 0, 9, 0, []⟩) (show ¬ (2 : Int) = 13 by decide) rfl (Or.inl rfl) rfl p3 p5 ?_
  intro s6 V6 hW6 l6 hV6
  repeat (first | with_reducible (refine w_one H ?_; constructor) | simp only [rB, rP, rQ, boolA, intA, resultA, resA, reduceIte, reduceCtorEq, Nat.reduceAdd, Nat.reduceLT, Nat.reduceEqDiff, UInt8.reduceToNat, pe4, pf4, all_an, st_an hV6.cells1.2, stA_an, bd_c1O])
  refine thr1_c ok3 (World.putO hW6 (.cells (anL 0 0 0 0 [] nilS) 43 0) (.cells (anL 0 4 0 0 txO V6) 43 0)) (up (up (up (up v0)))) (up (up (up (up t0)))) (up (up (up (up u0)))) a3 b3 (c := ⟨3, [47, 109], [], 0, 0, 0, 0, []⟩) (show ¬ (3 : Int) = 13 by decide) rfl (Or.inr rfl) rfl p4 p6 ?_
  intro s7 V7 hW7 l7 hV7
  have hW8 := World.putO hW7 (.cells (anL 0 0 0 0 [] nilS) 43 0) (.cells (anL 0 0 0 0 [] V7) 43 0)
  have hE8 : Ext s7 ({ h := (s7.alloc (.cells (anL 0 0 0 0 [] nilS) 43 0)).h.set s7.nx (.cells (anL 0 0 0 0 [] V7) 43 0), nx := s7.nx + 1 } : St) := ext_put
  have hV8 := hV7.ext hW7.1 hE8
  repeat (first | with_reducible (refine w_one H ?_; constructor) | simp only [rB, rP, rQ, boolA, intA, resultA, resA, reduceIte, reduceCtorEq, Nat.reduceAdd, Nat.reduceLT, Nat.reduceEqDiff, UInt8.reduceToNat, pe4, pf4, all_an, st_an hV7.cells1.2, stA_an])
  generalize ({ h := (s7.alloc (.cells (anL 0 0 0 0 [] nilS) 43 0)).h.set s7.nx (.cells (anL 0 0 0 0 [] V7) 43 0), nx := s7.nx + 1 } : St) = s8 at *
  refine numO_c ok3 ?_
  have k7 := World.get0 hW8
  have k6 := World.get1 hW8
  have k5 := World.get hW8 (up (up (List.mem_cons_self ..)))
  simp only at k5 k6 k7
  have z1 : ((0 : Int) == 0) = true := rfl
  have z2' : ((11 : Int) == 11) = true := rfl
  have te : eqB txO [116, 101, 120, 116] = true := rfl
  repeat (first | with_reducible (refine w_one H ?_; constructor) | simp only [rB, rP, rQ, boolA, intA, resultA, resA, reduceIte, reduceCtorEq, Nat.reduceAdd, Nat.reduceLT, Nat.reduceEqDiff, UInt8.reduceToNat, pe4, pf4, b_eqi, z1])
  refine numO_c ok3 ?_
  have bs1 := bs_s1O (s := s8) (f := f)
  have hW9 := World.alloc hW8 (.cells [.str f] 9 0)
  have hV9 := hV8.ext hW8.1 (Ext.alloc s8 (.cells [.str f] 9 0))
  have hS9 : SlV (s8.alloc (.cells [.str f] 9 0)) (.slice s8.nx 0 1 0 1 true) [f] := Or.inr (Or.inr ⟨s8.nx, 0, 0, 1, true, [.str f], 0, rfl, al_same, by simp, rfl, by simp⟩)
  repeat (first | with_reducible (refine w_one H ?_; constructor) | simp only [rB, rP, rQ, boolA, intA, resultA, resA, reduceIte, reduceCtorEq, Nat.reduceAdd, Nat.reduceLT, Nat.reduceEqDiff, UInt8.reduceToNat, pe4, pf4, b_eqi, b_eqs, z1, z2', te, k5, k6, k7, fa_an0O, fa_an4O, fa_an5O, an_g0O, an_g4O, an_g5O, ld_3, ld_9, ld_41, ldO_an0O, ldO_an4O, ldO_an5O, bs1])
  refine sametO_c ok3 hV9 hS9 (by simp) ?_
  repeat (first | with_reducible (refine w_one H ?_; constructor) | simp only [rB, rP, rQ, boolA, intA, resultA, resA, reduceIte, reduceCtorEq, Nat.reduceAdd, Nat.reduceLT, Nat.reduceEqDiff, UInt8.reduceToNat, pe4, pf4])
  refine oents_c ok3 hW9 (up (up (up (up (up (up v0)))))) p7 (by simp [eO]) (fun s10 V10 hE10 hW10 hVE10 => ?_)
  repeat (first | with_reducible (refine w_one H ?_; constructor) | simp only [rB, rP, rQ, boolA, intA, resultA, resA, reduceIte, reduceCtorEq, Nat.reduceAdd, Nat.reduceLT, Nat.reduceEqDiff, UInt8.reduceToNat, pe4, pf4])
  have kr0 := World.get hW10 (up (up (up (up (up (List.mem_cons_self ..))))))
  simp only at kr0
  have hA10 : ErB 0 s10 (.slice id 0 2 0 2 false) (eO f) := Or.inr ⟨id, Nat.zero_le _, rfl, kr0⟩
  refine sameEs_c ok3 hA10.esvM hVE10.esvM (by simp [eO]) ?_
  rw [sameE_O]
  repeat (first | with_reducible (refine w_one H ?_; constructor) | simp only [rB, rP, rQ, boolA, intA, resultA, resA, reduceIte, reduceCtorEq, Nat.reduceAdd, Nat.reduceLT, Nat.reduceEqDiff, UInt8.reduceToNat, pe4, pf4, Tryz.results3])
  rfl
end Go.AX
namespace Go.AX
open Go.Proofs Go.RowKit
set_option maxRecDepth 1000000
set_option linter.unusedSimpArgs false
set_option linter.unusedVariables false
theorem onlyWalk (a0 a1 : Int) (w : Go.World) : Calls Tryz.prog 3 #[.int .i64 a0, .int .i64 a1] w fun e w' => e = .returned (.bool true) ∧ Below w.heap.size w w' := by
  refine sem_walk (args := [.raw (.int .i64 a0), .raw (.int .i64 a1)]) (Args := [.int .i64 a0, .int .i64 a1]) (VRels.cons (by simp [VRel]) (VRels.cons (by simp [VRel]) VRels.nil)) ?_ w
  obtain ⟨k, hk, ek⟩ := and_lt (x := a0) (m := 255) (by decide)
  obtain ⟨r, hr, er⟩ := rem_lt (z := a1) (m := 9) (by decide)
  have er : (IntKind.u64.wrap a1).tmod 9 = (r : Int) := er
  exact only_c a0 a1 ek (by omega) er hr
end Go.AX
