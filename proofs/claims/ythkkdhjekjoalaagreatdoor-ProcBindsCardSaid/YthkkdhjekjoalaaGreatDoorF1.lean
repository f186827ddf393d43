import Derived.Test.YthkkdhjekjoalaaGreatDoorD2
import Derived.Test.YthkkdhjekjoalaaGreatDoorC4
import Derived.Test.YthkkdhjekjoalaaGreatDoorB3
set_option linter.unusedVariables false
set_option linter.unusedSimpArgs false
set_option linter.defProp false
namespace Go.AX
open Go.Proofs Go.RowKit
set_option maxRecDepth 1000000
set_option maxHeartbeats 40000000
set_option linter.unusedSimpArgs false
set_option linter.unusedVariables false

/-! ### A container with one mount that may be written through -/
def tb1V (q : Nat) : AO := .cells [.slice q 0 1 0 1 false] 131 0
def rowV (at' fr : List Nat) : AO := .cells [.str at', .str fr, .raw (.bool false)] 38 6
def mclB (p : List Nat) : Bool := match cleanL [] (47 :: p) with | (q, e) => Nat.beq e 0 && eqB q p
theorem mclean1_c {s : St} (H : Ok TE Tryz.prog pr3) {p : List Nat} (hp : p.length ≤ 1000) {kr kp : AV → St → Bool} (hk : kr (.raw (.bool (mclB p))) s = true) : (sem Tryz.prog).call 88 [.str p] s kr kp = true := by
  refine w_call H 18 fn_88 rfl rfl ?_
  have f1 : binFast .add (.str [47]) (.str p) = some (.str (47 :: p)) := b_add (by simp; omega)
  have ec := fun {r a dst k kp} => c3_clean (r := r) (a := a) (dst := dst) (s := s) (k := k) (kp := kp) (x := []) (y := 47 :: p) (by simp) rfl rfl
  unfold mclB at hk
  generalize cleanL [] (47 :: p) = x at ec hk
  obtain ⟨q, e⟩ := x
  simp only at hk
  by_cases he : e = 0
  · subst he
    have g0 : (((0 : Nat) : Int) == 0) = true := rfl
    cases hq : eqB q p with
    | true =>
      rw [hq] at hk
      repeat (first | with_reducible (refine w_one H ?_; constructor) | simp only [rB, rP, rQ, boolA, intA, resultA, resA, reduceIte, reduceCtorEq, Nat.reduceAdd, Nat.reduceLT, Nat.reduceEqDiff, UInt8.reduceToNat, pe3, pf3, b_eqi, b_eqs, f1, ec, outC, hq, g0, Tryz.results88])
      exact hk
    | false =>
      rw [hq] at hk
      repeat (first | with_reducible (refine w_one H ?_; constructor) | simp only [rB, rP, rQ, boolA, intA, resultA, resA, reduceIte, reduceCtorEq, Nat.reduceAdd, Nat.reduceLT, Nat.reduceEqDiff, UInt8.reduceToNat, pe3, pf3, b_eqi, b_eqs, f1, ec, outC, hq, g0, Tryz.results88])
      exact hk
  · have g0 : ((e : Int) == 0) = false := by rw [beq_eq_false_iff_ne]; omega
    rw [beq_ne he] at hk
    repeat (first | with_reducible (refine w_one H ?_; constructor) | simp only [rB, rP, rQ, boolA, intA, resultA, resA, reduceIte, reduceCtorEq, Nat.reduceAdd, Nat.reduceLT, Nat.reduceEqDiff, UInt8.reduceToNat, pe3, pf3, b_eqi, b_eqs, f1, ec, outC, g0, Tryz.results88])
    exact hk
def preB (p q : List Nat) : Bool := bif decide ((p.length : Int) ≥ (q.length : Int)) then eqB (p.take q.length) q else false
theorem pre_c {s : St} (H : Ok TE Tryz.prog pr3) {p q : List Nat} {kr kp : AV → St → Bool} (hk : kr (.raw (.bool (preB p q))) s = true) : (sem Tryz.prog).call 174 [.str p, .str q] s kr kp = true := by
  refine w_call H 18 fn_174 rfl rfl ?_
  unfold preB at hk
  cases hd : decide ((p.length : Int) ≥ (q.length : Int)) with
  | false =>
    rw [hd] at hk
    repeat (first | with_reducible (refine w_one H ?_; constructor) | simp only [rB, rP, rQ, boolA, intA, resultA, resA, reduceIte, reduceCtorEq, Nat.reduceAdd, Nat.reduceLT, Nat.reduceEqDiff, UInt8.reduceToNat, pe3, pf3, len_str, b_ge, hd, Tryz.results174])
    exact hk
  | true =>
    rw [hd] at hk
    have hle : q.length ≤ p.length := by have := of_decide_eq_true hd; omega
    have sl : sliceOpA TE 9 (.str p) none (some (.raw (.int .i64 (q.length : Int)))) none = some (.str (p.take q.length)) := by
      rw [sl_str, sb_hi no_cast hle]
      simp
    repeat (first | with_reducible (refine w_one H ?_; constructor) | simp only [rB, rP, rQ, boolA, intA, resultA, resA, reduceIte, reduceCtorEq, Nat.reduceAdd, Nat.reduceLT, Nat.reduceEqDiff, UInt8.reduceToNat, pe3, pf3, len_str, b_ge, b_eqs, hd, sl, Tryz.results174])
    exact hk
theorem pre2_c {s : St} (H : Ok TE Tryz.prog pr3) {p q : List Nat} {kr kp : AV → St → Bool} (hk : kr (.raw (.bool (preB p q))) s = true) : (sem Tryz.prog).call 130 [.str p, .str q] s kr kp = true := by
  refine w_call H 8 fn_130 rfl rfl ?_
  repeat (first | with_reducible (refine w_one H ?_; constructor) | simp only [rB, rP, rQ, boolA, intA, resultA, resA, reduceIte, reduceCtorEq, Nat.reduceAdd, Nat.reduceLT, Nat.reduceEqDiff, UInt8.reduceToNat, pe3, pf3, Tryz.results130] | (with_reducible refine pre_c H ?_))
  exact hk
def belB (p q : List Nat) : Bool := bif eqB q [] then true else bif eqB p q then true else preB p (q ++ [47])
theorem pbelow_c {s : St} (H : Ok TE Tryz.prog pr3) {p q : List Nat} (hq : q.length ≤ 1000) {kr kp : AV → St → Bool} (hk : kr (.raw (.bool (belB p q))) s = true) : (sem Tryz.prog).call 89 [.str p, .str q] s kr kp = true := by
  refine w_call H 18 fn_89 rfl rfl ?_
  unfold belB at hk
  have f1 : binFast .add (.str q) (.str [47]) = some (.str (q ++ [47])) := b_add (by simp; omega)
  cases h1 : eqB q [] with
  | true =>
    rw [h1] at hk
    repeat (first | with_reducible (refine w_one H ?_; constructor) | simp only [rB, rP, rQ, boolA, intA, resultA, resA, reduceIte, reduceCtorEq, Nat.reduceAdd, Nat.reduceLT, Nat.reduceEqDiff, UInt8.reduceToNat, pe3, pf3, b_eqs, h1, Tryz.results89])
    exact hk
  | false =>
    rw [h1] at hk
    cases h2 : eqB p q with
    | true =>
      rw [h2] at hk
      repeat (first | with_reducible (refine w_one H ?_; constructor) | simp only [rB, rP, rQ, boolA, intA, resultA, resA, reduceIte, reduceCtorEq, Nat.reduceAdd, Nat.reduceLT, Nat.reduceEqDiff, UInt8.reduceToNat, pe3, pf3, b_eqs, h1, h2, Tryz.results89])
      exact hk
    | false =>
      rw [h2] at hk
      repeat (first | with_reducible (refine w_one H ?_; constructor) | simp only [rB, rP, rQ, boolA, intA, resultA, resA, reduceIte, reduceCtorEq, Nat.reduceAdd, Nat.reduceLT, Nat.reduceEqDiff, UInt8.reduceToNat, pe3, pf3, b_eqs, h1, h2, f1, Tryz.results89] | (with_reducible refine pre2_c H ?_))
      exact hk
theorem belB_len {p q : List Nat} (h : belB p q = true) : q.length ≤ p.length := by
  unfold belB at h
  cases h1 : eqB q [] with
  | true => rw [eqB_dec] at h1; rw [of_decide_eq_true h1]; simp
  | false =>
    rw [h1, cond_false] at h
    cases h2 : eqB p q with
    | true => rw [eqB_dec] at h2; rw [of_decide_eq_true h2]; simp
    | false =>
      rw [h2, cond_false] at h
      unfold preB at h
      cases hd : decide ((p.length : Int) ≥ ((q ++ [47]).length : Int)) with
      | false => rw [hd] at h; cases h
      | true => have := of_decide_eq_true hd; simp at this; omega
def restP (r : List Nat) : List Nat := bif eqB r [] then r else r.drop 1
def wk1 (at' fr p : List Nat) : List Nat := bif mclB p && belB p at' then joinP fr (restP (p.drop at'.length)) else p
theorem wk1_le {at' fr p : List Nat} : (wk1 at' fr p).length ≤ p.length + fr.length + 1 := by
  unfold wk1
  cases mclB p && belB p at' with
  | false => simp only [cond_false]; omega
  | true =>
    have h1 : (restP (p.drop at'.length)).length ≤ p.length := by
      unfold restP
      cases eqB (p.drop at'.length) [] <;> simp <;> omega
    simp only [cond_true]
    generalize restP (p.drop at'.length) = r at *
    unfold joinP
    cases eqB fr [] with
    | true => simp; omega
    | false =>
      cases eqB r [] <;> simp <;> omega
theorem ln_m1 {s : St} {q : Nat} : lenOpA TE s [129] [.slice q 0 1 0 1 false] = some (.raw (.int .i64 1)) := by kernel_rfl
theorem ix_m1 {q : Nat} : indexAddrA TE 129 (.slice q 0 1 0 1 false) (.raw (.int .i64 0)) = some (.ptr q 0) := by kernel_rfl
theorem all_mo {s : St} : allocA TE s 38 = some (.ptr s.nx 0, s.alloc (.cells [.str [], .str [], .raw (.bool false)] 38 0)) := by
  have : zeroOf TE 38 = some (.agg [.str [], .str [], .raw (.bool false)]) := by kernel_rfl
  simp only [allocA, this]; rfl
theorem size_mo : sizeT TE 38 = 3 := by kernel_rfl
theorem agg_mo : (match TE.info 38 with | some ti => isAggD ti.desc && Nat.beq ti.size 3 | none => false) = true := by kernel_rfl
theorem ld_mo {s : St} {x : Nat} : loadA TE s 38 (.ptr x 0) = ldG 3 (s.h.get x) := ldG_gen agg_mo
theorem ldG_mo {a0 a1 a2 : AV} {el fz : Nat} : ldG 3 (some (.cells [a0, a1, a2] el fz)) = some (.agg [a0, a1, a2]) := (rfl)
theorem st_mo {s : St} {x : Nat} {a b : List Nat} {c : Bool} : storeA TE s 38 (.ptr x 0) (.agg [.str a, .str b, .raw (.bool c)]) = stA s x (s.h.get x) [.str a, .str b, .raw (.bool c)] := by
  have hs := size_mo
  unfold sizeT at hs
  cases ht : TE.info 38 with
  | none => rw [ht] at hs; cases hs
  | some ti =>
    rw [ht] at hs
    simp only at hs
    have hall : [AV.str a, .str b, .raw (.bool c)].all AV.one = true := rfl
    simp only [storeA, ht, hs, cells_agg, storeCellsA, hall]
    show (bif true then _ else _) = _
    simp only [cond_true, stA, getCells]
    cases s.h.get x with
    | none => rfl
    | some y => cases y <;> rfl
theorem stA_mo {s : St} {x el fz : Nat} {a b a' b' : List Nat} {c c' : Bool} : stA s x (some (.cells [.str a, .str b, .raw (.bool c)] el fz)) [.str a', .str b', .raw (.bool c')] = some { s with h := s.h.set x (.cells [.str a', .str b', .raw (.bool c')] el fz) } := (rfl)
theorem fa_mo0 {x : Nat} : fieldAddrA TE 38 (.ptr x 0) 0 = some (.ptr x 0) := by kernel_rfl
theorem fa_mo1 {x : Nat} : fieldAddrA TE 38 (.ptr x 0) 1 = some (.ptr x 1) := by kernel_rfl
theorem fa_mo2 {x : Nat} : fieldAddrA TE 38 (.ptr x 0) 2 = some (.ptr x 2) := by kernel_rfl
theorem b_nes1 {a b : List Nat} : binFast .neq (.str a) (.str b) = some (boolA (!eqB a b)) := (rfl)
theorem ids_slq {i o l c k : Nat} {x : Bool} : idsOf (.slice i o l c k x) = [] := rfl
theorem sl_at {p : List Nat} {n : Nat} (h : n ≤ p.length) : sliceOpA TE 9 (.str p) (some (.raw (.int .i64 (n : Int)))) none none = some (.str (p.drop n)) := by
  rw [sl_str, sb_lo no_cast h (Nat.le_refl _)]
  simp only
  rw [List.take_of_length_le (by simp)]
theorem ext_put {s : St} {o o' : AO} : Ext s { h := (s.alloc o).h.set s.nx o', nx := s.nx + 1 } := by
  refine ⟨Nat.le_succ _, fun i hi => ?_⟩
  have : i ≠ s.nx := by omega
  show ((s.h.set s.nx o).set s.nx o').get i = _
  rw [Tr.get_set, if_neg this, Tr.get_set, if_neg this]
theorem below_put {s : St} {o o' : AO} (hB : Below0 s) : Below0 { h := (s.alloc o).h.set s.nx o', nx := s.nx + 1 } := by
  intro i x hx
  show i < s.nx + 1
  by_cases e : i = s.nx
  · omega
  · have : ((s.h.set s.nx o).set s.nx o').get i = some x := hx
    rw [Tr.get_set, if_neg e, Tr.get_set, if_neg e] at this
    have := hB _ _ this
    omega
theorem mwalk1_c {s : St} (H : Ok TE Tryz.prog pr3) {t q : Nat} {at' fr : List Nat} (hB : Below0 s) (hT : s.h.get t = some (tb1V q)) (hQ : s.h.get q = some (rowV at' fr)) {p : List Nat} (hp : p.length ≤ 1000) (ha : at'.length ≤ 1000) (hf : fr.length ≤ 1000) {kr kp : AV → St → Bool}
    (hk : ∀ s', Ext s s' → Below0 s' → kr (.tuple [.str (wk1 at' fr p), .raw (.bool false)]) s' = true) : (sem Tryz.prog).call 95 [.ptr t 0, .str p] s kr kp = true := by
  refine w_call H 78 fn_95 rfl rfl ?_
  have ht := hB _ _ hT
  have hq := hB _ _ hQ
  have m1 : (t = s.nx) = False := by simp; omega
  have m2 : (q = s.nx) = False := by simp; omega
  have m3 : (s.nx = s.nx + 1) = False := by simp
  have m4 : (s.nx + 1 = s.nx) = False := by simp
  have m5 : (t = s.nx + 1) = False := by simp; omega
  have m6 : (q = s.nx + 1) = False := by simp; omega
  unfold tb1V at hT
  unfold rowV at hQ
  have g1 : decide ((0 : Int) < 1) = true := rfl
  have g2 : decide ((1 : Int) < 1) = false := rfl
  have g3 : decide ((-1 : Int) < 0) = true := rfl
  have g4 : decide ((0 : Int) < 0) = false := rfl
  have g5 : decide ((-1 : Int) ≥ 0) = false := rfl
  have i1 : IntKind.i64.wrap (0 + 1) = 1 := rfl
  unfold wk1 at hk
  repeat (first | with_reducible (refine w_one H ?_; constructor) | simp only [rB, rP, rQ, boolA, intA, resultA, resA, reduceIte, reduceCtorEq, Nat.reduceAdd, Nat.reduceLT, Nat.reduceEqDiff, UInt8.reduceToNat, pe3, pf3, b_pp, eq_mt])
  refine mclean1_c H hp ?_
  cases hm : mclB p with
  | false =>
    rw [hm] at hk
    repeat (first | with_reducible (refine w_one H ?_; constructor) | simp only [rB, rP, rQ, boolA, intA, resultA, resA, reduceIte, reduceCtorEq, Nat.reduceAdd, Nat.reduceLT, Nat.reduceEqDiff, UInt8.reduceToNat, pe3, pf3, b_pp, eq_mt, Tryz.results95])
    exact hk s (Ext.refl s) hB
  | true =>
    rw [hm] at hk
    repeat (first | with_reducible (refine w_one H ?_; constructor) | simp only [rB, rP, rQ, boolA, intA, resultA, resA, reduceIte, reduceCtorEq, Nat.reduceAdd, Nat.reduceLT, Nat.reduceEqDiff, UInt8.reduceToNat, pe3, pf3, b_pp, eq_mt, fa_mt, ld_ms, hT, ln_m1, ids_slq])
    refine w_loop H ?_
    cases hb : belB p at' with
    | false =>
      rw [hb] at hk
      repeat (first | with_reducible (refine w_one H ?_; constructor) | simp only [rB, rP, rQ, boolA, intA, resultA, resA, reduceIte, reduceCtorEq, Nat.reduceAdd, Nat.reduceLT, Nat.reduceEqDiff, UInt8.reduceToNat, pe3, pf3, b_lt, g1, ix_m1, ld_mo, ldG_mo, hQ, all_mo, st_mo, stA_mo, fa_mo0, ld_9, b_ge, g5, hb, m1, m2, b_plus, i1] | (with_reducible refine w_plan H (i := 9) (.take 0 (.take 1 (.take 2 (.alt 3 [0, 1, 2] (.take 4 (.take 5 (.take 6 (.take 7 (.take 8 (.take 9 (.take 10 (.take 11 (.take 12 (.take 13 (.take 14 (.take 15 (.take 16 (.take 17 (.take 18 (.take 19 (.take 20 (.take 21 (.take 22 (.take 23 (.done))))))))))))))))))))) (.yes))))) rfl (by kernel_rfl) ?_) | (with_reducible refine pbelow_c H ha ?_))
      refine w_loop H ?_
      repeat (first | with_reducible (refine w_one H ?_; constructor) | simp only [rB, rP, rQ, boolA, intA, resultA, resA, reduceIte, reduceCtorEq, Nat.reduceAdd, Nat.reduceLT, Nat.reduceEqDiff, UInt8.reduceToNat, pe3, pf3, b_lt, g2, g3, Tryz.results95])
      exact hk _ ext_put (below_put hB)
    | true =>
      rw [hb] at hk
      have hle := belB_len hb
      have sa := sl_at hle
      repeat (first | with_reducible (refine w_one H ?_; constructor) | simp only [rB, rP, rQ, boolA, intA, resultA, resA, reduceIte, reduceCtorEq, Nat.reduceAdd, Nat.reduceLT, Nat.reduceEqDiff, UInt8.reduceToNat, pe3, pf3, b_lt, g1, ix_m1, ld_mo, ldG_mo, hQ, all_mo, st_mo, stA_mo, fa_mo0, ld_9, b_ge, g5, hb, m1, m2, b_plus, i1] | (with_reducible refine w_plan H (i := 9) (.take 0 (.take 1 (.take 2 (.alt 3 [0, 1, 2] (.take 4 (.take 5 (.take 6 (.take 7 (.take 8 (.take 9 (.take 10 (.take 11 (.take 12 (.take 13 (.take 14 (.take 15 (.take 16 (.take 17 (.take 18 (.take 19 (.take 20 (.take 21 (.take 22 (.take 23 (.done))))))))))))))))))))) (.yes))))) rfl (by kernel_rfl) ?_) | (with_reducible refine pbelow_c H ha ?_))
      refine w_loop H ?_
      cases hr : eqB (p.drop at'.length) [] with
      | true =>
        have e0 : restP (p.drop at'.length) = p.drop at'.length := by unfold restP; rw [hr]; rfl
        rw [e0] at hk
        have ej := fun {r a dst s k kp} => c3_join (r := r) (a := a) (dst := dst) (s := s) (k := k) (kp := kp) (x := fr) (y := p.drop at'.length) (Nat.ble_eq.mpr (by simp; omega))
        repeat (first | with_reducible (refine w_one H ?_; constructor) | simp only [rB, rP, rQ, boolA, intA, resultA, resA, reduceIte, reduceCtorEq, Nat.reduceAdd, Nat.reduceLT, Nat.reduceEqDiff, UInt8.reduceToNat, pe3, pf3, b_lt, g2, g4, ix_m1, ld_mo, ldG_mo, hT, hQ, all_mo, st_mo, stA_mo, fa_mt, ld_ms, fa_mo0, fa_mo1, fa_mo2, ld_9, ld_4, len_str, sa, b_nes1, b_eqs, hr, m1, m2, m3, m4, m5, m6, ej, Tryz.results95] | (with_reducible refine w_plan H (i := 18) (.take 0 (.take 1 (.take 2 (.take 4 (.take 5 (.alt 3 [0, 1, 2] (.take 6 (.take 7 (.done))) (.yes))))))) rfl (by kernel_rfl) ?_))
        exact hk _ (ext_put.trans ext_put) (below_put (below_put hB))
      | false =>
        have e0 : restP (p.drop at'.length) = (p.drop at'.length).drop 1 := by unfold restP; rw [hr]; rfl
        rw [e0] at hk
        have h1 : 1 ≤ (p.drop at'.length).length := by
          rcases Nat.eq_zero_or_pos (p.drop at'.length).length with h | h
          · rw [List.eq_nil_of_length_eq_zero h] at hr
            cases hr
          · exact h
        have sb : sliceOpA TE 9 (.str (p.drop at'.length)) (some (.raw (.int .i64 1))) none none = some (.str ((p.drop at'.length).drop 1)) := sl_at h1
        have ej := fun {r a dst s k kp} => c3_join (r := r) (a := a) (dst := dst) (s := s) (k := k) (kp := kp) (x := fr) (y := (p.drop at'.length).drop 1) (Nat.ble_eq.mpr (by simp; omega))
        generalize p.drop at'.length = rest at *
        repeat (first | with_reducible (refine w_one H ?_; constructor) | simp only [rB, rP, rQ, boolA, intA, resultA, resA, reduceIte, reduceCtorEq, Nat.reduceAdd, Nat.reduceLT, Nat.reduceEqDiff, UInt8.reduceToNat, pe3, pf3, b_lt, g2, g4, ix_m1, ld_mo, ldG_mo, hT, hQ, all_mo, st_mo, stA_mo, fa_mt, ld_ms, fa_mo0, fa_mo1, fa_mo2, ld_9, ld_4, len_str, sa, sb, b_nes1, b_eqs, hr, m1, m2, m3, m4, m5, m6, ej, Tryz.results95] | (with_reducible refine w_plan H (i := 18) (.take 0 (.take 1 (.take 2 (.take 4 (.take 5 (.alt 3 [0, 1, 2] (.take 6 (.take 7 (.done))) (.yes))))))) rfl (by kernel_rfl) ?_))
        exact hk _ (ext_put.trans ext_put) (below_put (below_put hB))
def leadM1 (at' fr : List Nat) (M : Md) (p : List Nat) : Option (List Nat ⊕ Int) := match pathT M.T 20 M.cwd with
  | none => none
  | some cw => bif Nat.ble cw.length 1000 then (match cleanL cw p with
    | (x, e) => bif Nat.beq e 0 then some (.inl (47 :: wk1 at' fr x)) else bif Nat.beq e 402 || Nat.beq e 403 then some (.inr 8) else some (.inr 5)) else none
theorem lead1_c {s : St} (H : Ok TE Tryz.prog pr3) {M : Md} {L : List (Nat × AO)} (hW : World s 6 M L) {at' fr : List Nat} {q0 : Nat} (hV : (12, prV) ∈ L) (hT : (8, tb1V q0) ∈ L) (hQ : (q0, rowV at' fr) ∈ L) (ha : at'.length ≤ 1000) (hf : fr.length ≤ 1000) {p : List Nat} {r : List Nat ⊕ Int} (h : leadM1 at' fr M p = some r) {kr kp : AV → St → Bool} (hk : ∀ s', Ext s s' → Below0 s' → kr (leadV r) s' = true) :
    (sem Tryz.prog).call 59 [.ptr 12 0, .str p] s kr kp = true := by
  refine w_call H 39 fn_59 rfl rfl ?_
  have hB := hW.below
  have hk0 := hk s (Ext.refl s) hB
  have gV := World.get hW hV
  have gT := World.get hW hT
  have gQ := World.get hW hQ
  simp only at gV gT gQ
  unfold prV at gV
  unfold leadM1 at h
  cases hcw : pathT M.T 20 M.cwd with
  | none => rw [hcw] at h; cases h
  | some cw =>
  rw [hcw] at h
  simp only at h
  cases hb : Nat.ble cw.length 1000 with
  | false => rw [hb] at h; cases h
  | true =>
  rw [hb, cond_true] at h
  have ec := fun {r a dst k kp} => c3_clean (r := r) (a := a) (dst := dst) (s := s) (k := k) (kp := kp) (x := cw) (y := p) (Nat.le_of_ble_eq_true hb) rfl rfl
  have hl := cleanL_le (x := cw) (y := p)
  generalize cleanL cw p = x at ec h hl
  obtain ⟨q, e⟩ := x
  simp only at h hl
  have hq : q.length ≤ 1000 := by omega
  have f1 : binFast .add (.str [47]) (.str (wk1 at' fr q)) = some (.str (47 :: wk1 at' fr q)) := b_add (by have := wk1_le (at' := at') (fr := fr) (p := q); simp; omega)
  by_cases he : e = 0
  · subst he
    have g0 : (((0 : Nat) : Int) == 0) = true := rfl
    cases h
    repeat (first | with_reducible (refine w_one H ?_; constructor) | simp only [rB, rP, rQ, boolA, intA, resultA, resA, reduceIte, reduceCtorEq, Nat.reduceAdd, Nat.reduceLT, Nat.reduceEqDiff, UInt8.reduceToNat, pe3, pf3, fa_pr1, fa_pr2, ld_71, ld_mt, gV, ec, outC, b_eqi, g0] | (with_reducible refine tcwd_c H hW hcw ?_))
    refine mwalk1_c H hB gT gQ hq ha hf (fun s' hE' hB' => ?_)
    repeat (first | with_reducible (refine w_one H ?_; constructor) | simp only [rB, rP, rQ, boolA, intA, resultA, resA, reduceIte, reduceCtorEq, Nat.reduceAdd, Nat.reduceLT, Nat.reduceEqDiff, UInt8.reduceToNat, pe3, pf3, f1, Tryz.results59])
    exact hk s' hE' hB'
  rw [beq_ne he, cond_false] at h
  have g0 : ((e : Int) == 0) = false := by rw [beq_eq_false_iff_ne]; omega
  by_cases q1 : e = 402
  · subst q1
    have g1 : (((402 : Nat) : Int) == 402) = true := rfl
    cases h
    repeat (first | with_reducible (refine w_one H ?_; constructor) | simp only [rB, rP, rQ, boolA, intA, resultA, resA, reduceIte, reduceCtorEq, Nat.reduceAdd, Nat.reduceLT, Nat.reduceEqDiff, UInt8.reduceToNat, pe3, pf3, fa_pr1, fa_pr2, ld_71, ld_mt, gV, ec, outC, b_eqi, g0, g1, Tryz.results59] | (with_reducible refine tcwd_c H hW hcw ?_))
    exact hk0
  have g1 : ((e : Int) == 402) = false := by rw [beq_eq_false_iff_ne]; omega
  by_cases q2 : e = 403
  · subst q2
    have g2 : (((403 : Nat) : Int) == 403) = true := rfl
    cases h
    repeat (first | with_reducible (refine w_one H ?_; constructor) | simp only [rB, rP, rQ, boolA, intA, resultA, resA, reduceIte, reduceCtorEq, Nat.reduceAdd, Nat.reduceLT, Nat.reduceEqDiff, UInt8.reduceToNat, pe3, pf3, fa_pr1, fa_pr2, ld_71, ld_mt, gV, ec, outC, b_eqi, g0, g1, g2, Tryz.results59] | (with_reducible refine tcwd_c H hW hcw ?_))
    exact hk0
  have g2 : ((e : Int) == 403) = false := by rw [beq_eq_false_iff_ne]; omega
  rw [beq_ne q1, beq_ne q2] at h
  cases h
  repeat (first | with_reducible (refine w_one H ?_; constructor) | simp only [rB, rP, rQ, boolA, intA, resultA, resA, reduceIte, reduceCtorEq, Nat.reduceAdd, Nat.reduceLT, Nat.reduceEqDiff, UInt8.reduceToNat, pe3, pf3, fa_pr1, fa_pr2, ld_71, ld_mt, gV, ec, outC, b_eqi, g0, g1, g2, Tryz.results59] | (with_reducible refine tcwd_c H hW hcw ?_))
  exact hk0
end Go.AX
namespace Go.AX
open Go.Proofs Go.RowKit
set_option maxRecDepth 1000000
set_option maxHeartbeats 40000000
set_option linter.unusedSimpArgs false
set_option linter.unusedVariables false

/-! ### A call of a container with one mount -/
def prB (at' fr : List Nat) (M : Md) (c : Cl) : Option (An × Md) := bif decide (c.op = 13) then (match leadM1 at' fr M c.path with
    | none => none
    | some (.inr n) => some (anS n, M)
    | some (.inl p) => match leadM1 at' fr M c.path2 with
      | none => none
      | some (.inr n) => some (anS n, M)
      | some (.inl q) => doM M { c with path := p, path2 := q })
  else bif (decide (1 ≤ c.op) && decide (c.op ≤ 14)) || decide (c.op = 18) then (match leadM1 at' fr M c.path with
    | none => none
    | some (.inr n) => some (anS n, M)
    | some (.inl p) => doM M { c with path := p })
  else none
theorem lead1_ne {at' fr : List Nat} {M : Md} {p : List Nat} {n : Int} (h : leadM1 at' fr M p = some (.inr n)) : (n != 0) = true := by
  unfold leadM1 at h
  split at h
  · cases h
  · rename_i cw _
    cases hb : Nat.ble cw.length 1000 with
    | false => rw [hb] at h; cases h
    | true =>
      rw [hb, cond_true] at h
      generalize cleanL cw p = x at h
      obtain ⟨q, e⟩ := x
      simp only at h
      cases h1 : Nat.beq e 0 with
      | true => rw [h1] at h; cases h
      | false =>
        rw [h1, cond_false] at h
        cases h2 : (Nat.beq e 402 || Nat.beq e 403) with
        | true => rw [h2] at h; cases h; rfl
        | false => rw [h2] at h; cases h; rfl
theorem pcall1_c {s : St} (H : Ok TE Tryz.prog pr3) {M : Md} {L : List (Nat × AO)} (hW : World s 6 M L) {at' fr : List Nat} {q0 : Nat} (hV : (12, prV) ∈ L) (hT : (8, tb1V q0) ∈ L) (hQ : (q0, rowV at' fr) ∈ L) (ha : at'.length ≤ 1000) (hf : fr.length ≤ 1000) {c : Cl} {q : An × Md} (h : prB at' fr M c = some q) {kr kp : AV → St → Bool} (hk : Dt s 6 L kr q) :
    (sem Tryz.prog).call 27 [.ptr 12 0, .agg (clL c)] s kr kp = true := by
  refine w_call H 60 fn_27 rfl rfl ?_
  have gV := World.get hW hV
  simp only at gV
  unfold prV at gV
  have h3 : 12 < s.nx := World.lt hW hV
  have m1 : (s.nx = s.nx + 1) = False := by simp
  have m2 : (s.nx + 1 = s.nx) = False := by simp
  have m3 : (12 = s.nx) = False := by simp; omega
  have m4 : (12 = s.nx + 1) = False := by simp; omega
  have m5 : (s.nx = s.nx + 1 + 1) = False := by simp; omega
  have m6 : (12 = s.nx + 1 + 1) = False := by simp; omega
  have m7 : (s.nx + 1 + 1 = s.nx) = False := by simp; omega
  have m8 : (s.nx + 1 = s.nx + 1 + 1) = False := by simp
  have m9 : (s.nx + 1 + 1 = s.nx + 1) = False := by simp
  have nL : ∀ q ∈ L, q.1 ≠ s.nx + 1 := fun q hq => by have := World.lt hW hq; omega
  have hW3 := ((World.alloc hW (.cells (clL c) 47 0)).alloc (.cells (anL 0 0 0 0 [] nilS) 43 0)).alloc (.cells [.ptr s.nx 1, .ptr s.nx 2] 80 0)
  have fin : ∀ {s1 : St} {M1 : Md} {a : An} {V : AV} {o0 o2 : AO}, World s1 6 M1 ((s.nx + 1 + 1, o2) :: (s.nx + 1, .cells (anL 0 0 0 0 [] nilS) 43 0) :: (s.nx, o0) :: L) → s.nx ≤ s1.nx → SlV s1 V a.names → q = (a, M1) →
      kr (.agg (anL a.status a.num a.kind a.mode a.data V)) { s1 with h := s1.h.set (s.nx + 1) (.cells (anL a.status a.num a.kind a.mode a.data V) 43 0) } = true := by
    intro s1 M1 a V o0 o2 w1 l1 hV1 hq
    subst hq
    have w2 : World s1 6 M1 ((s.nx + 1, .cells (anL 0 0 0 0 [] nilS) 43 0) :: L) := w1.sub (fun r hr => by
      rcases List.mem_cons.mp hr with rfl | hr
      · exact List.mem_cons_of_mem _ (List.mem_cons_self ..)
      · exact List.mem_cons_of_mem _ (List.mem_cons_of_mem _ (List.mem_cons_of_mem _ hr)))
    exact hk _ V ((w2.set nL _).sub (fun r hr => List.mem_cons_of_mem _ hr)) l1 (hV1.set w2.get0 an_str _)
  have up : ∀ {x : Nat × AO} {a b d : Nat × AO}, x ∈ L → x ∈ a :: b :: d :: L := fun h => List.mem_cons_of_mem _ (List.mem_cons_of_mem _ (List.mem_cons_of_mem _ h))
  have nL0 : ∀ (o1 o2 : AO), ∀ r ∈ (s.nx + 1 + 1, o1) :: (s.nx + 1, o2) :: L, r.1 ≠ s.nx := fun o1 o2 r hr => by
    simp only [List.mem_cons] at hr
    rcases hr with rfl | rfl | hr
    · simp
      omega
    · simp
    · have := World.lt hW hr
      omega
  have put : ∀ {s1 : St} {M1 : Md} {o0 o1 o2 : AO} (o' : AO), World s1 6 M1 ((s.nx + 1 + 1, o2) :: (s.nx + 1, o1) :: (s.nx, o0) :: L) → World { s1 with h := s1.h.set s.nx o' } 6 M1 ((s.nx + 1 + 1, o2) :: (s.nx + 1, o1) :: (s.nx, o') :: L) := by
    intro s1 M1 o0 o1 o2 o' w
    have w0 := w.sub (L' := (s.nx, _) :: (s.nx + 1 + 1, _) :: (s.nx + 1, _) :: L) (fun r hr => by
      simp only [List.mem_cons] at hr ⊢
      rcases hr with hr | hr | hr | hr
      · exact Or.inr (Or.inr (Or.inl hr))
      · exact Or.inl hr
      · exact Or.inr (Or.inl hr)
      · exact Or.inr (Or.inr (Or.inr hr)))
    have w1 := w0.set (nL0 _ _) o'
    exact w1.sub (fun r hr => by
      simp only [List.mem_cons] at hr ⊢
      rcases hr with hr | hr | hr | hr
      · exact Or.inr (Or.inl hr)
      · exact Or.inr (Or.inr (Or.inl hr))
      · exact Or.inl hr
      · exact Or.inr (Or.inr (Or.inr hr)))
  have get2 : ∀ {s1 : St} {M1 : Md} {o0 o1 o2 : AO}, World s1 6 M1 ((s.nx + 1 + 1, o2) :: (s.nx + 1, o1) :: (s.nx, o0) :: L) → s1.h.get s.nx = some o0 := fun w => World.get w (q := (s.nx, _)) (List.mem_cons_of_mem _ (List.mem_cons_of_mem _ (List.mem_cons_self ..)))
  have d0 : decide ((0 : Int) < 0) = false := rfl
  have d1 : decide ((0 : Int) < 1) = true := rfl
  have d2 : decide ((1 : Int) < 1) = false := rfl
  have d3 : decide ((0 : Int) < 2) = true := rfl
  have d4 : decide ((1 : Int) < 2) = true := rfl
  have d5 : decide ((2 : Int) < 2) = false := rfl
  have z0 : ((0 : Int) != 0) = false := rfl
  have i1 : IntKind.i64.wrap (0 + 1) = 1 := rfl
  have i2 : IntKind.i64.wrap (1 + 1) = 2 := rfl
  unfold clL at hW3 ⊢
  unfold prB at h
  by_cases hA : c.op = 13
  · have hn : pathedN c.op = 2 := by unfold pathedN; rw [decide_eq_true hA]; rfl
    rw [decide_eq_true hA, cond_true] at h
    repeat (first | with_reducible (refine w_one H ?_; constructor) | simp only [rB, rP, rQ, boolA, intA, resultA, resA, reduceIte, reduceCtorEq, Nat.reduceAdd, Nat.reduceLT, Nat.reduceEqDiff, UInt8.reduceToNat, pe3, pf3, all_an, cells_agg, b_eqi, b_nei, b_lt, b_plus, b_pp, eq_pr, fa_cl0, fa_cl1, fa_cl2, bs_sp, ld_3, ld_9, ld_sp, st_9, m1, m2, m3, m4, m5, m6, m7, m8, m9, hn, d0, d1, d2, z0, i1, i2, gV, fa_pr2, ld_71, ld_cl, ldG_cl, d3, d4, d5, sl_sp2, ln_sp2] | (with_reducible refine pathed_c H ?_))
    cases hr : leadM1 at' fr M c.path with
    | none => rw [hr] at h; cases h
    | some r =>
    rw [hr] at h
    refine w_loop H ?_
    repeat (first | with_reducible (refine w_one H ?_; constructor) | simp only [rB, rP, rQ, boolA, intA, resultA, resA, reduceIte, reduceCtorEq, Nat.reduceAdd, Nat.reduceLT, Nat.reduceEqDiff, UInt8.reduceToNat, pe3, pf3, all_an, cells_agg, b_eqi, b_nei, b_lt, b_plus, b_pp, eq_pr, fa_cl0, fa_cl1, fa_cl2, bs_sp, ld_3, ld_9, ld_sp, st_9, m1, m2, m3, m4, m5, m6, m7, m8, m9, hn, d0, d1, d2, z0, i1, i2, gV, fa_pr2, ld_71, ld_cl, ldG_cl, d3, d4, d5, ix_sp20, ix_sp21])
    refine lead1_c H hW3 (up hV) (up hT) (up hQ) ha hf hr (fun s4 hE4 hB4 => ?_)
    have hW4 := World.ext hW3 hE4 hB4
    have l4 : s.nx ≤ s4.nx := Nat.le_trans (by show s.nx ≤ s.nx + 1 + 1 + 1; omega) hE4.1
    have c0 := get2 hW4
    have c1 : s4.h.get (s.nx + 1) = some (.cells (anL 0 0 0 0 [] nilS) 43 0) := hW4.get1
    have c2 : s4.h.get (s.nx + 1 + 1) = some (.cells [.ptr s.nx 1, .ptr s.nx 2] 80 0) := hW4.get0
    have gV4 := World.get hW4 (up hV)
    simp only at gV4
    unfold prV at gV4
    cases r with
    | inr n =>
      cases h
      have g0 := lead1_ne hr
      unfold leadV
      repeat (first | with_reducible (refine w_one H ?_; constructor) | simp only [rB, rP, rQ, boolA, intA, resultA, resA, reduceIte, reduceCtorEq, Nat.reduceAdd, Nat.reduceLT, Nat.reduceEqDiff, UInt8.reduceToNat, pe3, pf3, all_an, cells_agg, b_eqi, b_nei, b_lt, b_plus, b_pp, eq_pr, fa_cl0, fa_cl1, fa_cl2, bs_sp, ld_3, ld_9, ld_sp, st_9, m1, m2, m3, m4, m5, m6, m7, m8, m9, hn, d0, d1, d2, z0, i1, i2, gV, fa_pr2, ld_71, ld_cl, ldG_cl, d3, d4, d5, ix_sp20, ix_sp21, g0, bd_anS, one_nilS, c0, c1, c2, gV4, st_an, stA_an, ld_an, ldG_an, Tryz.results27])
      exact fin (a := anS n) hW4 l4 (Or.inl ⟨rfl, rfl⟩) rfl
    | inl p =>
      unfold leadV
      repeat (first | with_reducible (refine w_one H ?_; constructor) | simp only [rB, rP, rQ, boolA, intA, resultA, resA, reduceIte, reduceCtorEq, Nat.reduceAdd, Nat.reduceLT, Nat.reduceEqDiff, UInt8.reduceToNat, pe3, pf3, all_an, cells_agg, b_eqi, b_nei, b_lt, b_plus, b_pp, eq_pr, fa_cl0, fa_cl1, fa_cl2, bs_sp, ld_3, ld_9, ld_sp, st_9, m1, m2, m3, m4, m5, m6, m7, m8, m9, hn, d0, d1, d2, z0, i1, i2, gV, fa_pr2, ld_71, ld_cl, ldG_cl, d3, d4, d5, ix_sp20, ix_sp21, c0, c1, c2, gV4])
      refine w_loop H ?_
      repeat (first | with_reducible (refine w_one H ?_; constructor) | simp only [rB, rP, rQ, boolA, intA, resultA, resA, reduceIte, reduceCtorEq, Nat.reduceAdd, Nat.reduceLT, Nat.reduceEqDiff, UInt8.reduceToNat, pe3, pf3, all_an, cells_agg, b_eqi, b_nei, b_lt, b_plus, b_pp, eq_pr, fa_cl0, fa_cl1, fa_cl2, bs_sp, ld_3, ld_9, ld_sp, st_9, m1, m2, m3, m4, m5, m6, m7, m8, m9, hn, d0, d1, d2, z0, i1, i2, gV, fa_pr2, ld_71, ld_cl, ldG_cl, d3, d4, d5, ix_sp20, ix_sp21, c0, c1, c2, gV4])
      have w2 := put (.cells (clL { c with path := p }) 47 0) hW4
      cases hr2 : leadM1 at' fr M c.path2 with
      | none => simp only [hr2] at h; cases h
      | some r2 =>
      simp only [hr2] at h
      refine lead1_c H w2 (up hV) (up hT) (up hQ) ha hf hr2 (fun s5 hE5 hB5 => ?_)
      have hW5 := World.ext w2 hE5 hB5
      have l5 : s.nx ≤ s5.nx := Nat.le_trans l4 hE5.1
      have e0 := get2 hW5
      unfold clL at e0
      have e1 : s5.h.get (s.nx + 1) = some (.cells (anL 0 0 0 0 [] nilS) 43 0) := hW5.get1
      have e2 : s5.h.get (s.nx + 1 + 1) = some (.cells [.ptr s.nx 1, .ptr s.nx 2] 80 0) := hW5.get0
      have gV5 := World.get hW5 (up hV)
      simp only at gV5
      unfold prV at gV5
      cases r2 with
      | inr n =>
        cases h
        have g0 := lead1_ne hr2
        unfold leadV
        repeat (first | with_reducible (refine w_one H ?_; constructor) | simp only [rB, rP, rQ, boolA, intA, resultA, resA, reduceIte, reduceCtorEq, Nat.reduceAdd, Nat.reduceLT, Nat.reduceEqDiff, UInt8.reduceToNat, pe3, pf3, all_an, cells_agg, b_eqi, b_nei, b_lt, b_plus, b_pp, eq_pr, fa_cl0, fa_cl1, fa_cl2, bs_sp, ld_3, ld_9, ld_sp, st_9, m1, m2, m3, m4, m5, m6, m7, m8, m9, hn, d0, d1, d2, z0, i1, i2, gV, fa_pr2, ld_71, ld_cl, ldG_cl, d3, d4, d5, ix_sp20, ix_sp21, g0, bd_anS, one_nilS, e0, e1, e2, gV5, st_an, stA_an, ld_an, ldG_an, Tryz.results27])
        exact fin (a := anS n) hW5 l5 (Or.inl ⟨rfl, rfl⟩) rfl
      | inl q2 =>
        unfold leadV
        repeat (first | with_reducible (refine w_one H ?_; constructor) | simp only [rB, rP, rQ, boolA, intA, resultA, resA, reduceIte, reduceCtorEq, Nat.reduceAdd, Nat.reduceLT, Nat.reduceEqDiff, UInt8.reduceToNat, pe3, pf3, all_an, cells_agg, b_eqi, b_nei, b_lt, b_plus, b_pp, eq_pr, fa_cl0, fa_cl1, fa_cl2, bs_sp, ld_3, ld_9, ld_sp, st_9, m1, m2, m3, m4, m5, m6, m7, m8, m9, hn, d0, d1, d2, z0, i1, i2, gV, fa_pr2, ld_71, ld_cl, ldG_cl, d3, d4, d5, ix_sp20, ix_sp21, e0, e1, e2, gV5])
        refine w_loop H ?_
        repeat (first | with_reducible (refine w_one H ?_; constructor) | simp only [rB, rP, rQ, boolA, intA, resultA, resA, reduceIte, reduceCtorEq, Nat.reduceAdd, Nat.reduceLT, Nat.reduceEqDiff, UInt8.reduceToNat, pe3, pf3, all_an, cells_agg, b_eqi, b_nei, b_lt, b_plus, b_pp, eq_pr, fa_cl0, fa_cl1, fa_cl2, bs_sp, ld_3, ld_9, ld_sp, st_9, m1, m2, m3, m4, m5, m6, m7, m8, m9, hn, d0, d1, d2, z0, i1, i2, gV, fa_pr2, ld_71, ld_cl, ldG_cl, d3, d4, d5, ix_sp20, ix_sp21, e0, e1, e2, gV5] | (with_reducible refine w_plan H (i := 15) (.take 0 (.take 1 (.take 2 (.take 3 (.take 4 (.alt 5 [0, 1, 2, 3, 4] (.alt 6 [0, 1, 2, 3, 4, 5] (.done) (.yes)) (.yes))))))) rfl (by kernel_rfl) ?_))
        have x2 := put (.cells (clL { c with path := p, path2 := q2 }) 47 0) hW5
        refine do_c H x2 h (c := { c with path := p, path2 := q2 }) ?_
        intro s1 V w1 l1 hV1
        have k1 : s1.h.get (s.nx + 1) = some (.cells (anL 0 0 0 0 [] nilS) 43 0) := w1.get1
        repeat (first | with_reducible (refine w_one H ?_; constructor) | simp only [rB, rP, rQ, boolA, intA, resultA, resA, reduceIte, reduceCtorEq, Nat.reduceAdd, Nat.reduceLT, Nat.reduceEqDiff, UInt8.reduceToNat, pe3, pf3, k1, st_an hV1.cells1.2, stA_an, ld_an, ldG_an, Tryz.results27])
        exact fin w1 (Nat.le_trans l5 l1) hV1 rfl
  rw [decide_eq_false hA, cond_false] at h
  cases hB : ((decide (1 ≤ c.op) && decide (c.op ≤ 14)) || decide (c.op = 18)) with
  | true =>
    have hn : pathedN c.op = 1 := by unfold pathedN; rw [decide_eq_false hA, hB]; rfl
    rw [hB, cond_true] at h
    repeat (first | with_reducible (refine w_one H ?_; constructor) | simp only [rB, rP, rQ, boolA, intA, resultA, resA, reduceIte, reduceCtorEq, Nat.reduceAdd, Nat.reduceLT, Nat.reduceEqDiff, UInt8.reduceToNat, pe3, pf3, all_an, cells_agg, b_eqi, b_nei, b_lt, b_plus, b_pp, eq_pr, fa_cl0, fa_cl1, fa_cl2, bs_sp, ld_3, ld_9, ld_sp, st_9, m1, m2, m3, m4, m5, m6, m7, m8, m9, hn, d0, d1, d2, z0, i1, i2, gV, fa_pr2, ld_71, ld_cl, ldG_cl, sl_sp1, ln_sp1] | (with_reducible refine pathed_c H ?_))
    cases hr : leadM1 at' fr M c.path with
    | none => rw [hr] at h; cases h
    | some r =>
    rw [hr] at h
    refine w_loop H ?_
    repeat (first | with_reducible (refine w_one H ?_; constructor) | simp only [rB, rP, rQ, boolA, intA, resultA, resA, reduceIte, reduceCtorEq, Nat.reduceAdd, Nat.reduceLT, Nat.reduceEqDiff, UInt8.reduceToNat, pe3, pf3, all_an, cells_agg, b_eqi, b_nei, b_lt, b_plus, b_pp, eq_pr, fa_cl0, fa_cl1, fa_cl2, bs_sp, ld_3, ld_9, ld_sp, st_9, m1, m2, m3, m4, m5, m6, m7, m8, m9, hn, d0, d1, d2, z0, i1, i2, gV, fa_pr2, ld_71, ld_cl, ldG_cl, ix_sp10])
    refine lead1_c H hW3 (up hV) (up hT) (up hQ) ha hf hr (fun s4 hE4 hB4 => ?_)
    have hW4 := World.ext hW3 hE4 hB4
    have l4 : s.nx ≤ s4.nx := Nat.le_trans (by show s.nx ≤ s.nx + 1 + 1 + 1; omega) hE4.1
    have c0 := get2 hW4
    have c1 : s4.h.get (s.nx + 1) = some (.cells (anL 0 0 0 0 [] nilS) 43 0) := hW4.get1
    have c2 : s4.h.get (s.nx + 1 + 1) = some (.cells [.ptr s.nx 1, .ptr s.nx 2] 80 0) := hW4.get0
    have gV4 := World.get hW4 (up hV)
    simp only at gV4
    unfold prV at gV4
    cases r with
    | inr n =>
      cases h
      have g0 := lead1_ne hr
      unfold leadV
      repeat (first | with_reducible (refine w_one H ?_; constructor) | simp only [rB, rP, rQ, boolA, intA, resultA, resA, reduceIte, reduceCtorEq, Nat.reduceAdd, Nat.reduceLT, Nat.reduceEqDiff, UInt8.reduceToNat, pe3, pf3, all_an, cells_agg, b_eqi, b_nei, b_lt, b_plus, b_pp, eq_pr, fa_cl0, fa_cl1, fa_cl2, bs_sp, ld_3, ld_9, ld_sp, st_9, m1, m2, m3, m4, m5, m6, m7, m8, m9, hn, d0, d1, d2, z0, i1, i2, gV, fa_pr2, ld_71, ld_cl, ldG_cl, g0, bd_anS, one_nilS, c0, c1, c2, gV4, st_an, stA_an, ld_an, ldG_an, Tryz.results27])
      exact fin (a := anS n) hW4 l4 (Or.inl ⟨rfl, rfl⟩) rfl
    | inl p =>
      unfold leadV
      repeat (first | with_reducible (refine w_one H ?_; constructor) | simp only [rB, rP, rQ, boolA, intA, resultA, resA, reduceIte, reduceCtorEq, Nat.reduceAdd, Nat.reduceLT, Nat.reduceEqDiff, UInt8.reduceToNat, pe3, pf3, all_an, cells_agg, b_eqi, b_nei, b_lt, b_plus, b_pp, eq_pr, fa_cl0, fa_cl1, fa_cl2, bs_sp, ld_3, ld_9, ld_sp, st_9, m1, m2, m3, m4, m5, m6, m7, m8, m9, hn, d0, d1, d2, z0, i1, i2, gV, fa_pr2, ld_71, ld_cl, ldG_cl, c0, c1, c2, gV4])
      refine w_loop H ?_
      repeat (first | with_reducible (refine w_one H ?_; constructor) | simp only [rB, rP, rQ, boolA, intA, resultA, resA, reduceIte, reduceCtorEq, Nat.reduceAdd, Nat.reduceLT, Nat.reduceEqDiff, UInt8.reduceToNat, pe3, pf3, all_an, cells_agg, b_eqi, b_nei, b_lt, b_plus, b_pp, eq_pr, fa_cl0, fa_cl1, fa_cl2, bs_sp, ld_3, ld_9, ld_sp, st_9, m1, m2, m3, m4, m5, m6, m7, m8, m9, hn, d0, d1, d2, z0, i1, i2, gV, fa_pr2, ld_71, ld_cl, ldG_cl, c0, c1, c2, gV4] | (with_reducible refine w_plan H (i := 15) (.take 0 (.take 1 (.take 2 (.take 3 (.take 4 (.alt 5 [0, 1, 2, 3, 4] (.alt 6 [0, 1, 2, 3, 4, 5] (.done) (.yes)) (.yes))))))) rfl (by kernel_rfl) ?_))
      have w2 := put (.cells (clL { c with path := p }) 47 0) hW4
      refine do_c H w2 h (c := { c with path := p }) ?_
      intro s1 V w1 l1 hV1
      have k1 : s1.h.get (s.nx + 1) = some (.cells (anL 0 0 0 0 [] nilS) 43 0) := w1.get1
      repeat (first | with_reducible (refine w_one H ?_; constructor) | simp only [rB, rP, rQ, boolA, intA, resultA, resA, reduceIte, reduceCtorEq, Nat.reduceAdd, Nat.reduceLT, Nat.reduceEqDiff, UInt8.reduceToNat, pe3, pf3, k1, st_an hV1.cells1.2, stA_an, ld_an, ldG_an, Tryz.results27])
      exact fin w1 (Nat.le_trans l4 l1) hV1 rfl
  | false => rw [hB] at h; cases h
end Go.AX
namespace Go.AX
open Go.Proofs Go.RowKit
set_option maxRecDepth 1000000
set_option maxHeartbeats 40000000
set_option linter.unusedSimpArgs false
set_option linter.unusedVariables false

/-! ### A tree's entries -/
/-- Blocks that the walk over a tree leaves alone: all but rows of entries and what holds one. -/
def okO : AO → Bool
  | .cells _ el _ => !(Nat.beq el 26 || Nat.beq el 25)
  | _ => true
def Fx (s s' : St) : Prop := s.nx ≤ s'.nx ∧ ∀ i o, s.h.get i = some o → okO o = true → s'.h.get i = some o
theorem Fx.refl (s : St) : Fx s s := ⟨Nat.le_refl _, fun _ _ h _ => h⟩
theorem Fx.trans {s s' s'' : St} (h : Fx s s') (h' : Fx s' s'') : Fx s s'' := ⟨Nat.le_trans h.1 h'.1, fun i o e k => h'.2 i o (h.2 i o e k) k⟩
theorem Fx.of {s s' : St} (hB : Below0 s) (h : Ext s s') : Fx s s' := ⟨h.1, fun i o e _ => (h.2 i (hB _ _ e)).trans e⟩
theorem RepT.fx {s s' : St} {T : Nodes} (h : RepT s T) (f : Fx s s') : RepT s' T := fun i nd hi => ⟨f.2 _ _ (h i nd hi).1 rfl, f.2 _ _ (h i nd hi).2 rfl⟩
theorem SlV.fx {s s' : St} {V : AV} {names : List (List Nat)} (h : SlV s V names) (f : Fx s s') : SlV s' V names := by
  rcases h with h | h | ⟨id, off, ci, cap, ex, cs, fz, h1, h2, h3⟩
  · exact Or.inl h
  · exact Or.inr (Or.inl h)
  · exact Or.inr (Or.inr ⟨id, off, ci, cap, ex, cs, fz, h1, f.2 _ _ h2 rfl, h3⟩)
abbrev En := List Nat × Int × Int × List Nat
def enOf (p : List Nat) (nd : Nd) : En := (p, nd.kind, nd.mode, nd.data)
def flatE : List En → List AV
  | [] => []
  | e :: l => .str e.1 :: .raw (.int .i64 e.2.1) :: .raw (.int .i64 e.2.2.1) :: .str e.2.2.2 :: flatE l
theorem flatE_len : ∀ {l : List En}, (flatE l).length = l.length * 4
  | [] => rfl
  | e :: l => by simp only [flatE, List.length_cons, flatE_len (l := l)]; omega
theorem flatE_app : ∀ {l r : List En}, flatE (l ++ r) = flatE l ++ flatE r
  | [], _ => rfl
  | e :: l, r => by simp only [List.cons_append, flatE, flatE_app (l := l)]
def Er (s : St) (V : AV) (acc : List En) : Prop := (V = nilS ∧ acc = []) ∨ ∃ id, V = .slice id 0 acc.length 0 acc.length false ∧ s.h.get id = some (.cells (flatE acc) 25 8)
noncomputable def elE : TI := (TE.info 25).getD default
theorem el_size : elE.size = 4 := by kernel_rfl
theorem el_bytes : elE.bytes = 48 := by kernel_rfl
theorem app_eqE {s : St} {V X : AV} : appendA TE s [26, 26] [V, X] = (match lenA X with
  | none => none
  | some n =>
    match firstA s 4 n X with
    | none => none
    | some new => bif Nat.beq new.length (n * 4) && new.all AV.one then growA s 25 elE V n new else none) := by kernel_rfl
theorem er_app {s : St} (hB : Below0 s) {V : AV} {acc : List En} (h : Er s V acc) (hl : acc.length ≤ 20000) {e : En} {q : Nat} (hq : s.h.get q = some (.cells (flatE [e]) 25 0)) :
    ∃ V' s', appendA TE s [26, 26] [V, .slice q 0 1 0 1 true] = some (V', s') ∧ Er s' V' (acc ++ [e]) ∧ Fx s s' ∧ Below0 s' ∧ (∀ i o, s.h.get i = some o → (match o with | .cells _ el _ => Nat.beq el 25 | _ => false) = false → s'.h.get i = some o) ∧ V'.cells = [V'] ∧ V'.one = true := by
  have e0 : firstA s 4 1 (.slice q 0 1 0 1 true) = some (flatE [e]) := by simp [firstA, gc_of hq, flatE, cutL, dropL, takeL]
  have e1 : (flatE [e]).all AV.one = true := rfl
  rw [app_eqE]
  simp only [lenA, e0, e1]
  show ∃ V' s', growA s 25 elE V 1 (flatE [e]) = some (V', s') ∧ _
  rcases h with ⟨rfl, rfl⟩ | ⟨id, rfl, hg⟩
  · refine ⟨.slice s.nx 0 1 0 1 false, s.alloc (.cells (flatE [e]) 25 8), ?_, Or.inr ⟨s.nx, rfl, al_same⟩, Fx.of hB (Ext.alloc s _), ?_, fun i o hi _ => (al_ne (by have := hB _ _ hi; omega)).trans hi, rfl, rfl⟩
    · simp only [nilS, growA, el_size, el_bytes]
      rfl
    · intro i x hx
      show i < s.nx + 1
      by_cases e : i = s.nx
      · omega
      · have := hB _ _ ((al_ne e).symm.trans hx)
        omega
  · have b1 : Nat.ble (acc.length + 1) acc.length = false := by rw [← Bool.not_eq_true, Nat.ble_eq]; omega
    have b2 : Nat.ble ((acc.length + 1) * 48) 1048576 = true := Nat.ble_eq.mpr (by omega)
    have b3 : Nat.ble (acc.length + 1) 1048576 = true := Nat.ble_eq.mpr (by omega)
    have b4 : cutL 0 (acc.length * 4) (flatE acc) = some (flatE acc) := by rw [← flatE_len]; exact cutL_zero (Nat.le_refl _) |>.trans (by rw [List.take_length])
    have hid := hB _ _ hg
    refine ⟨.slice s.nx 0 (acc.length + 1) 0 (acc.length + 1) false, { h := (s.h.del id).set s.nx (.cells (flatE acc ++ flatE [e]) 25 8), nx := s.nx + 1 }, ?_, Or.inr ⟨s.nx, by simp, ?_⟩, ?_, ?_, ?_, rfl, rfl⟩
    · simp only [growA, gc_of hg, b1, cond_false, el_size, el_bytes, b2, b3, b4, Bool.and_self, cond_true, Nat.zero_mul]
      rfl
    · rw [flatE_app]
      exact hs_same
    · refine ⟨Nat.le_succ _, fun i o hi ho => ?_⟩
      have hi' := hB _ _ hi
      have n1 : i ≠ id := by
        intro e
        subst e
        rw [hg] at hi
        cases hi
        cases ho
      show ((s.h.del id).set s.nx _).get i = _
      rw [hs_ne (by omega), Tr.get_del, if_neg n1]
      exact hi
    · intro i x hx
      show i < s.nx + 1
      by_cases e : i = s.nx
      · omega
      · have hx' : ((s.h.del id).set s.nx (.cells (flatE acc ++ flatE [_]) 25 8)).get i = some x := hx
        rw [hs_ne e, Tr.get_del] at hx'
        by_cases e2 : i = id
        · rw [if_pos e2] at hx'
          cases hx'
        · rw [if_neg e2] at hx'
          have := hB _ _ hx'
          omega
    · intro i o hi ho
      have hi' := hB _ _ hi
      have n1 : i ≠ id := by
        intro e
        subst e
        rw [hg] at hi
        cases hi
        cases ho
      show ((s.h.del id).set s.nx _).get i = _
      rw [hs_ne (by omega), Tr.get_del, if_neg n1]
      exact hi
theorem bd_en {p d : List Nat} {k m : Int} : buildA TE 25 [(0, .str p), (1, .raw (.int .i64 k)), (2, .raw (.int .i64 m)), (3, .str d)] = some (.agg [.str p, .raw (.int .i64 k), .raw (.int .i64 m), .str d]) := by kernel_rfl
theorem bs_en {s : St} {p d : List Nat} {k m : Int} : buildSliceA TE s 26 1 [(0, .agg [.str p, .raw (.int .i64 k), .raw (.int .i64 m), .str d])] = some (.slice s.nx 0 1 0 1 true, s.alloc (.cells [.str p, .raw (.int .i64 k), .raw (.int .i64 m), .str d] 25 0)) := by kernel_rfl
theorem ent1_c {s : St} (H : Ok TE Tryz.prog pr3) (hB : Below0 s) {oid : Nat} {V : AV} {acc : List En} (ho : s.h.get oid = some (.cells [V] 26 0)) (hV : Er s V acc) (hl : acc.length ≤ 20000) {x : Nat} {nd : Nd} (hn : NRep s x nd) {p : List Nat} {kr kp : AV → St → Bool}
    (hk : ∀ s' V', Fx s s' → Below0 s' → s'.h.get oid = some (.cells [V'] 26 0) → Er s' V' (acc ++ [enOf p nd]) → kr (.tuple []) s' = true) :
    (sem Tryz.prog).call 92 [.str p, .ptr x 0, .ptr oid 0] s kr kp = true := by
  refine w_call H 22 fn_92 rfl rfl ?_
  have hn1 := hn.1
  unfold ndA at hn1
  have hoid := hB _ _ ho
  have hx := hB _ _ hn1
  have m1 : (oid = s.nx) = False := by simp; omega
  have m2 : (x = s.nx) = False := by simp; omega
  have hVV : beqA V V = true := by
    rcases hV with ⟨rfl, _⟩ | ⟨id, rfl, _⟩
    · rfl
    · simp [beqA]
  have hB1 : Below0 (s.alloc (.cells (flatE [enOf p nd]) 25 0)) := by
    intro i y hy
    show i < s.nx + 1
    by_cases e : i = s.nx
    · omega
    · have := hB _ _ ((al_ne e).symm.trans hy)
      omega
  have hV1 : Er (s.alloc (.cells (flatE [enOf p nd]) 25 0)) V acc := by
    rcases hV with h | ⟨id, h1, h2⟩
    · exact Or.inl h
    · exact Or.inr ⟨id, h1, (al_ne (by have := hB _ _ h2; omega)).trans h2⟩
  obtain ⟨V', s', ea, hV', hF, hB', hkeep, w1, w2⟩ := er_app hB1 hV1 hl (e := enOf p nd) (q := s.nx) al_same
  have ho1 : s'.h.get oid = some (.cells [V] 26 0) := hkeep _ _ ((al_ne (by omega)).trans ho) rfl
  simp only [flatE, enOf] at ea
  repeat (first | with_reducible (refine w_one H ?_; constructor) | simp only [rB, rP, rQ, boolA, intA, resultA, resA, reduceIte, reduceCtorEq, Nat.reduceAdd, Nat.reduceLT, Nat.reduceEqDiff, UInt8.reduceToNat, pe3, pf3, ld_26, ho, hn1, fa_0, fa_1, fa_2, ld_3, ld_9, bd_en, bs_en, hVV, m1, m2, ea, st_26 _ _ _ _ w1 w2, ho1, Tryz.results92] | (with_reducible refine w_plan H (i := 0) (.take 0 (.take 1 (.take 2 (.take 3 (.take 4 (.take 5 (.take 6 (.take 7 (.take 8 (.take 9 (.take 10 (.take 11 (.take 12 (.take 13 (.take 14 (.alt 15 [1, 2, 3, 4, 5, 6, 7, 8, 9, 10, 11, 12, 13, 14] (.alt 16 [0, 1, 2, 3, 4, 5, 6, 7, 8, 9, 10, 11, 12, 13, 14, 15] (.alt 17 [0, 1, 2, 3, 4, 5, 6, 7, 8, 9, 10, 11, 12, 13, 14, 15, 16] (.done) (.yes)) (.yes)) (.yes))))))))))))))))) rfl (by kernel_rfl) ?_))
  have F1 := (Fx.of hB (Ext.alloc s (.cells (flatE [enOf p nd]) 25 0))).trans hF
  refine hk _ V' ⟨F1.1, fun i o hi ho' => ?_⟩ (fun i y hy => ?_) hs_same ?_
  · have n1 : i ≠ oid := by
      intro e
      subst e
      rw [ho] at hi
      cases hi
      cases ho'
    show (s'.h.set oid _).get i = _
    rw [hs_ne n1]
    exact F1.2 i o hi ho'
  · show i < s'.nx
    by_cases e : i = oid
    · rw [e]
      exact hB' _ _ ho1
    · have hy' : (s'.h.set oid (.cells [V'] 26 0)).get i = some y := hy
      rw [hs_ne e] at hy'
      exact hB' _ _ hy'
  · rcases hV' with h | ⟨id, h1, h2⟩
    · exact Or.inl h
    · refine Or.inr ⟨id, h1, ?_⟩
      show (s'.h.set oid _).get id = _
      rw [hs_ne (fun e => ?_)]
      · exact h2
      · rw [e, ho1] at h2
        simp only [Option.some.injEq, AO.cells.injEq] at h2
        exact absurd h2.2.1 (by decide)
def entsL (T : Nodes) (below : Nat → List Nat → Option (List En)) (kids : List (List Nat × Nat)) (p : List Nat) : List (List Nat) → Option (List En)
  | [] => some []
  | nm :: l => match lookK nm kids with
    | none => none
    | some j => bif Nat.ble (p.length + nm.length) 1000000 then (match T j with
      | none => none
      | some nd => match below j (joinP p nm) with
        | none => none
        | some es => match entsL T below kids p l with
          | none => none
          | some r => some (enOf (joinP p nm) nd :: (es ++ r)))
      else none
def entsT (T : Nodes) : Nat → Nat → List Nat → Option (List En)
  | 0, _, _ => none
  | f + 1, i, p => match T i with
    | none => none
    | some nd => match sortK nd.kids with
      | none => none
      | some names => entsL T (entsT T f) nd.kids p names
theorem ents_c (H : Ok TE Tryz.prog pr3) {T : Nodes} {oid : Nat} : ∀ {f i : Nat} {p : List Nat} {es acc : List En} {V : AV} {s : St} {kr kp : AV → St → Bool}, entsT T f i p = some es → RepT s T → Below0 s → s.h.get oid = some (.cells [V] 26 0) → Er s V acc → acc.length + es.length ≤ 20000 →
    (∀ s' V', Fx s s' → Below0 s' → s'.h.get oid = some (.cells [V'] 26 0) → Er s' V' (acc ++ es) → kr (.tuple []) s' = true) →
    (sem Tryz.prog).call 91 [.ptr i 0, .str p, .fn 92 [.ptr oid 0]] s kr kp = true
  | 0, _, _, _, _, _, _, _, _, h, _, _, _, _, _, _ => by cases h
  | f + 1, i, p, es, acc, V0, s, kr, kp, h, hT, hB, ho, hV0, hlen, hk => by
    simp only [entsT] at h
    cases hi : T i with
    | none => rw [hi] at h; cases h
    | some nd =>
    rw [hi] at h
    simp only at h
    cases hso : sortK nd.kids with
    | none => rw [hso] at h; cases h
    | some names =>
    rw [hso] at h
    simp only at h
    refine w_call H 38 fn_91 rfl rfl ?_
    repeat (first | with_reducible (refine w_one H ?_; constructor) | simp only [rB, rP, rQ, boolA, intA, resultA, resA, reduceIte, reduceCtorEq, Nat.reduceAdd, Nat.reduceLT, Nat.reduceEqDiff, UInt8.reduceToNat, pe3, pf3])
    refine names_c H hB (hT i nd hi) hso (fun V s1 hV hE hB1 => ?_)
    have vl := hV.len
    have vi := hV.ids
    have hnl : names.length ≤ 1000000 := by
      unfold sortK at hso
      cases hc : (incB (sortL (nd.kids.map (·.1))) && Nat.ble (sortL (nd.kids.map (·.1))).length 1000000 && shortL (sortL (nd.kids.map (·.1)))) with
      | false => rw [hc] at hso; cases hso
      | true =>
        rw [hc] at hso
        simp only [cond_true, Option.some.injEq] at hso
        subst hso
        simp only [Bool.and_eq_true] at hc
        exact Nat.le_of_ble_eq_true hc.1.2
    have ho1 : s1.h.get oid = some (.cells [V0] 26 0) := (hE.2 _ (hB _ _ ho)).trans ho
    have hV1 : Er s1 V0 acc := by
      rcases hV0 with h | ⟨id, h1, h2⟩
      · exact Or.inl h
      · exact Or.inr ⟨id, h1, (hE.2 _ (hB _ _ h2)).trans h2⟩
    have hF1 := Fx.of hB hE
    repeat (first | with_reducible (refine w_one H ?_; constructor) | simp only [rB, rP, rQ, boolA, intA, resultA, resA, reduceIte, reduceCtorEq, Nat.reduceAdd, Nat.reduceLT, Nat.reduceEqDiff, UInt8.reduceToNat, pe3, pf3, vl, vi])
    refine w_loop_ind H (fun n t s' => ∃ (k : Nat) (V2 : AV) (acc2 rest : List En), n + k = names.length ∧ tg t 0 = .ptr i 0 ∧ tg t 1 = .str p ∧ tg t 2 = .fn 92 [.ptr oid 0] ∧ tg t 10 = V ∧ tg t 11 = .raw (.int .i64 (names.length : Int)) ∧ tg t 12 = .raw (.int .i64 (k : Int)) ∧ Fx s1 s' ∧ Below0 s' ∧ s'.h.get oid = some (.cells [V2] 26 0) ∧ Er s' V2 acc2 ∧ entsL T (entsT T f) nd.kids p (names.drop k) = some rest ∧ acc ++ es = acc2 ++ rest)
      ⟨0, V0, acc, es, rfl, by simp only [rB, rP, rQ, boolA, intA, resultA, resA, reduceIte, reduceCtorEq, Nat.reduceAdd, Nat.reduceLT, Nat.reduceEqDiff, UInt8.reduceToNat], by simp only [rB, rP, rQ, boolA, intA, resultA, resA, reduceIte, reduceCtorEq, Nat.reduceAdd, Nat.reduceLT, Nat.reduceEqDiff, UInt8.reduceToNat], by simp only [rB, rP, rQ, boolA, intA, resultA, resA, reduceIte, reduceCtorEq, Nat.reduceAdd, Nat.reduceLT, Nat.reduceEqDiff, UInt8.reduceToNat], by simp only [rB, rP, rQ, boolA, intA, resultA, resA, reduceIte, reduceCtorEq, Nat.reduceAdd, Nat.reduceLT, Nat.reduceEqDiff, UInt8.reduceToNat], by simp only [rB, rP, rQ, boolA, intA, resultA, resA, reduceIte, reduceCtorEq, Nat.reduceAdd, Nat.reduceLT, Nat.reduceEqDiff, UInt8.reduceToNat], by simp only [rB, rP, rQ, boolA, intA, resultA, resA, reduceIte, reduceCtorEq, Nat.reduceAdd, Nat.reduceLT, Nat.reduceEqDiff, UInt8.reduceToNat]; rfl, Fx.refl s1, hB1, ho1, hV1, h, rfl⟩ ?_
    rintro n t s2 ih ⟨k, V2, acc2, rest, hk0, t0, t1, t2, t10, t11, t12, hF2, hB2, ho2, hV2, hb, hac⟩
    cases n with
    | zero =>
      have g0 : decide ((k : Int) < (names.length : Int)) = false := by rw [decide_eq_false_iff_not]; omega
      rw [List.drop_eq_nil_of_le (by omega)] at hb
      simp only [entsL, Option.some.injEq] at hb
      subst hb
      rw [List.append_nil] at hac
      subst hac
      repeat (first | with_reducible (refine w_one H ?_; constructor) | simp only [rB, rP, rQ, boolA, intA, resultA, resA, reduceIte, reduceCtorEq, Nat.reduceAdd, Nat.reduceLT, Nat.reduceEqDiff, UInt8.reduceToNat, pe3, pf3, t0, t1, t2, t10, t11, t12, b_lt, g0, Tryz.results91])
      exact hk s2 V2 (hF1.trans hF2) hB2 ho2 hV2
    | succ n =>
      have hlt : k < names.length := by omega
      have g0 : decide ((k : Int) < (names.length : Int)) = true := by rw [decide_eq_true_eq]; omega
      rw [List.drop_eq_getElem_cons hlt] at hb
      obtain ⟨id, o, x1, x2, ob, x3⟩ := (hV.fx hF2).idx (p := names[k]) (j := k) (List.getElem?_eq_getElem hlt)
      have x2' : ldO (s2.h.get id) o = some (.str names[k]) := by rw [← ldC_o]; exact x2
      have x4' : ∀ b, inO (s2.h.get id) b = b := fun b => by rw [x3]; rfl
      generalize names[k] = nm at *
      simp only [entsL] at hb
      have hT2 := (hT.fx hF1).fx hF2
      obtain ⟨hn, hm⟩ := hT2 i nd hi
      have lk := lk_kid (p := nm) hm
      cases hlk : lookK nm nd.kids with
      | none => rw [hlk] at hb; cases hb
      | some j =>
      rw [hlk] at hb lk
      simp only at hb
      cases hbd : Nat.ble (p.length + nm.length) 1000000 with
      | false => rw [hbd] at hb; cases hb
      | true =>
      rw [hbd, cond_true] at hb
      cases hj : T j with
      | none => rw [hj] at hb; cases hb
      | some jd =>
      rw [hj] at hb
      simp only at hb
      cases he : entsT T f j (joinP p nm) with
      | none => rw [he] at hb; cases hb
      | some es1 =>
      rw [he] at hb
      simp only at hb
      cases hr : entsL T (entsT T f) nd.kids p (names.drop (k + 1)) with
      | none => rw [hr] at hb; cases hb
      | some r =>
      rw [hr] at hb
      simp only [Option.some.injEq] at hb
      subst hb
      have hlen2 : acc2.length + (es1.length + r.length) + 1 ≤ 20000 := by
        have := congrArg List.length hac
        simp only [List.length_append, List.length_cons] at this
        omega
      have ej := fun {r a dst k kp} => c3_join (r := r) (a := a) (dst := dst) (s := s2) (k := k) (kp := kp) hbd
      repeat (first | with_reducible (refine w_one H ?_; constructor) | simp only [rB, rP, rQ, boolA, intA, resultA, resA, reduceIte, reduceCtorEq, Nat.reduceAdd, Nat.reduceLT, Nat.reduceEqDiff, UInt8.reduceToNat, pe3, pf3, t0, t1, t2, t10, t11, t12, b_lt, g0, x1, ld_9, x2', x4', ej, fa_3, ld_121, hn, hm, ndA, lk, kidA])
      refine ent1_c H hB2 ho2 hV2 (by omega) (hT2 j jd hj) (fun s3 V3 hF3 hB3 ho3 hV3 => ?_)
      obtain ⟨hn3, hm3⟩ := (hT2.fx hF3) i nd hi
      have lk3 := lk_kid (p := nm) hm3
      rw [hlk] at lk3
      repeat (first | with_reducible (refine w_one H ?_; constructor) | simp only [rB, rP, rQ, boolA, intA, resultA, resA, reduceIte, reduceCtorEq, Nat.reduceAdd, Nat.reduceLT, Nat.reduceEqDiff, UInt8.reduceToNat, pe3, pf3, t0, t1, t2, t10, t11, t12, fa_3, ld_121, hn3, hm3, ndA, lk3, kidA])
      refine ents_c H he (hT2.fx hF3) hB3 ho3 hV3 (by simp; omega) (fun s4 V4 hF4 hB4 ho4 hV4 => ?_)
      have ew : IntKind.i64.wrap ((k : Int) + 1) = ((k + 1 : Nat) : Int) := by
        rw [show (k : Int) + 1 = ((k + 1 : Nat) : Int) from by simp]
        exact wrap_nat (by omega)
      repeat (first | with_reducible (refine w_one H ?_; constructor) | simp only [rB, rP, rQ, boolA, intA, resultA, resA, reduceIte, reduceCtorEq, Nat.reduceAdd, Nat.reduceLT, Nat.reduceEqDiff, UInt8.reduceToNat, pe3, pf3, t0, t1, t2, t10, t11, t12, b_plus, ew])
      exact ih n _ _ (Nat.lt_succ_self n) ⟨k + 1, V4, _, r, by omega, by simp only [rB, rP, rQ, boolA, intA, resultA, resA, reduceIte, reduceCtorEq, Nat.reduceAdd, Nat.reduceLT, Nat.reduceEqDiff, UInt8.reduceToNat, t0], by simp only [rB, rP, rQ, boolA, intA, resultA, resA, reduceIte, reduceCtorEq, Nat.reduceAdd, Nat.reduceLT, Nat.reduceEqDiff, UInt8.reduceToNat, t1], by simp only [rB, rP, rQ, boolA, intA, resultA, resA, reduceIte, reduceCtorEq, Nat.reduceAdd, Nat.reduceLT, Nat.reduceEqDiff, UInt8.reduceToNat, t2], by simp only [rB, rP, rQ, boolA, intA, resultA, resA, reduceIte, reduceCtorEq, Nat.reduceAdd, Nat.reduceLT, Nat.reduceEqDiff, UInt8.reduceToNat, t10], by simp only [rB, rP, rQ, boolA, intA, resultA, resA, reduceIte, reduceCtorEq, Nat.reduceAdd, Nat.reduceLT, Nat.reduceEqDiff, UInt8.reduceToNat, t11], by simp only [rB, rP, rQ, boolA, intA, resultA, resA, reduceIte, reduceCtorEq, Nat.reduceAdd, Nat.reduceLT, Nat.reduceEqDiff, UInt8.reduceToNat], (hF2.trans hF3).trans hF4, hB4, ho4, hV4, hr, by rw [hac]; simp⟩
/-- A tree that lies there is still there. -/
theorem World.fx {s s' : St} {x : Nat} {M : Md} {L : List (Nat × AO)} (h : World s x M L) (hL : ∀ q ∈ L, okO q.2 = true) (f : Fx s s') (hB' : Below0 s') : World s' x M L := by
  obtain ⟨hB, ι, μ, R, hq⟩ := h
  refine ⟨hB', ι, μ, ⟨fun k nd hk => ⟨f.2 _ _ (R.nd k nd hk).1 rfl, f.2 _ _ (R.nd k nd hk).2 rfl⟩, f.2 _ _ R.tr rfl, R.ij, R.mj, R.kd, R.up, R.rt, R.cw, R.f8, R.fd, R.mn, R.da⟩, fun q hm => ⟨f.2 _ _ (hq q hm).1 (hL q hm), (hq q hm).2⟩⟩
theorem eq_tn2 {s : St} {i j : Nat} {d : Option (AV × List Nat)} : eqS TE s .eql 71 (.ptr i j) (.raw (.pointer none)) d = some (.raw (.bool false), []) := by kernel_rfl
theorem fr_0' {x : Nat} : fieldAddrA TE 120 (.ptr x 0) 0 = some (.ptr x 0) := by kernel_rfl
theorem all_es {s : St} : allocA TE s 26 = some (.ptr s.nx 0, s.alloc (.cells [nilS] 26 0)) := by
  have : zeroOf TE 26 = some nilS := by kernel_rfl
  simp only [allocA, this]; rfl
theorem entsL_to {i : Nat → Nat} {T0 T : Nodes} (H : Hom i T0 T) {below below' : Nat → List Nat → Option (List En)} (hb : ∀ j p b, below j p = some b → below' (i j) p = some b) {kids : List (List Nat × Nat)} {p : List Nat} : ∀ {l : List (List Nat)} {es : List En}, entsL T0 below kids p l = some es → entsL T below' (kidsTo i kids) p l = some es
  | [], es, h => h
  | nm :: l, es, h => by
    simp only [entsL, lookK_to] at h ⊢
    cases hl : lookK nm kids with
    | none => rw [hl] at h; cases h
    | some j =>
      rw [hl] at h
      simp only [Option.map_some] at h ⊢
      cases hx : Nat.ble (p.length + nm.length) 1000000 with
      | false => rw [hx] at h; cases h
      | true =>
        rw [hx] at h
        simp only [cond_true] at h ⊢
        cases hj : T0 j with
        | none => rw [hj] at h; cases h
        | some nd =>
          obtain ⟨mp, hm⟩ := H j nd hj
          rw [hj] at h
          rw [hm]
          simp only at h ⊢
          cases hq : below j (joinP p nm) with
          | none => rw [hq] at h; cases h
          | some e1 =>
            rw [hq] at h
            rw [hb _ _ _ hq]
            simp only at h ⊢
            cases hr : entsL T0 below kids p l with
            | none => rw [hr] at h; cases h
            | some r =>
              rw [hr] at h
              rw [entsL_to H hb hr]
              exact h
theorem entsT_to {i : Nat → Nat} {T0 T : Nodes} (H : Hom i T0 T) : ∀ {f k : Nat} {p : List Nat} {es : List En}, entsT T0 f k p = some es → entsT T f (i k) p = some es
  | 0, _, _, _, h => by cases h
  | f + 1, k, p, es, h => by
    simp only [entsT] at h ⊢
    cases hk : T0 k with
    | none => rw [hk] at h; cases h
    | some nd =>
      obtain ⟨mp, hm⟩ := H k nd hk
      rw [hk] at h
      rw [hm]
      simp only [to_kids, sortK_to] at h ⊢
      cases hs : sortK nd.kids with
      | none => rw [hs] at h; cases h
      | some names => rw [hs] at h; exact entsL_to H (fun j p b hj => entsT_to H hj) h
theorem entries_c {s : St} (H : Ok TE Tryz.prog pr3) {x : Nat} {M : Md} {L : List (Nat × AO)} (hW : World s x M L) (hL : ∀ q ∈ L, okO q.2 = true) {es : List En} (h : entsT M.T 20 M.root [] = some es) (hl : es.length ≤ 20000) {kr kp : AV → St → Bool}
    (hk : ∀ s' V, World s' x M L → s.nx ≤ s'.nx → Er s' V es → kr V s' = true) :
    (sem Tryz.prog).call 57 [.ptr x 0] s kr kp = true := by
  refine w_call H 13 fn_57 rfl rfl ?_
  have hW1 := (World.alloc hW (.cells [nilS] 26 0)).sub (L' := L) (fun q hq => List.mem_cons_of_mem _ hq)
  have hW' := hW
  obtain ⟨hB, ι, μ, R, hq⟩ := hW'
  have hx := R.tr
  unfold trA at hx
  have hxl := hB _ _ hx
  have m1 : (x = s.nx) = False := by simp; omega
  have hp := entsT_to R.hom h
  have hT := R.rep.ext hB (Ext.alloc s (.cells [nilS] 26 0))
  repeat (first | with_reducible (refine w_one H ?_; constructor) | simp only [rB, rP, rQ, boolA, intA, resultA, resA, reduceIte, reduceCtorEq, Nat.reduceAdd, Nat.reduceLT, Nat.reduceEqDiff, UInt8.reduceToNat, pe3, pf3, b_pp, eq_tn2, fr_0', ld_117, hx, all_es, m1])
  refine ents_c H hp hT hW1.1 al_same (Or.inl ⟨rfl, rfl⟩) (by simpa using hl) (fun s' V hF hB' ho hV => ?_)
  repeat (first | with_reducible (refine w_one H ?_; constructor) | simp only [rB, rP, rQ, boolA, intA, resultA, resA, reduceIte, reduceCtorEq, Nat.reduceAdd, Nat.reduceLT, Nat.reduceEqDiff, UInt8.reduceToNat, pe3, pf3, ld_26, ho, Tryz.results57])
  exact hk s' V (hW1.fx hL hF hB') (Nat.le_trans (Nat.le_succ _) hF.1) hV
end Go.AX
namespace Go.AX
open Go.Proofs Go.RowKit
set_option maxRecDepth 1000000
set_option maxHeartbeats 400000000
set_option linter.unusedSimpArgs false
set_option linter.unusedVariables false

/-! ### A bind, plain -/
theorem all_at {α : Type} {n : Nat} {f g : Nat → α} (h : (List.range n).map f = (List.range n).map g) {r : Nat} (hr : r < n) : f r = g r := by
  have e := congrArg (fun l => l[r]?) h
  simp only [List.getElem?_map, List.getElem?_range hr, Option.map_some, Option.some.injEq] at e
  exact e
def atB : List Nat := [109, 47, 120]
def frB : List Nat := [100]
def fN' (r : Nat) : List Nat := 102 :: decL r
def fds8 : List (Option Nat) := [none, none, none, none, none, none, none, none]
def MB0 : Md := ⟨[⟨1, 493, [], [([100], 1)], none, [], 0⟩, ⟨1, 493, [], [], some 0, [100], 0⟩], 0, 0, fds8, 1⟩
def MB1 (f d : List Nat) : Md := ⟨[⟨1, 493, [], [([100], 1)], none, [], 0⟩, ⟨1, 493, [], [(f, 2)], some 0, [100], 0⟩, ⟨2, 420, d, [], some 1, f, 0⟩], 0, 0, fds8, 2⟩
def oth : List Nat := [111, 116, 104, 101, 114]
def MB2 (d : List Nat) : Md := ⟨[⟨1, 493, [], [([100], 1)], none, [], 0⟩, ⟨1, 493, [], [(oth, 2)], some 0, [100], 0⟩, ⟨2, 420, d, [], some 1, oth, 0⟩], 0, 0, fds8, 2⟩
theorem b_make' : (List.range 256).map (fun r => prB atB frB MB0 ⟨5, 109 :: 47 :: 120 :: 47 :: fN' r, [], 0, 0, 0, 420, []⟩) = (List.range 256).map (fun r => some (an0, MB1 (fN' r) [])) := by kernel_rfl
theorem b_leadW' {d : List Nat} : (List.range 256).map (fun r => leadM1 atB frB (MB1 (fN' r) d) (47 :: 109 :: 47 :: 120 :: 47 :: 46 :: 46 :: 47 :: 120 :: 47 :: fN' r)) = (List.range 256).map (fun r => some (.inl (47 :: 100 :: 47 :: fN' r))) := by kernel_rfl
theorem b_leadR' {d : List Nat} : (List.range 256).map (fun r => leadM1 atB frB (MB1 (fN' r) d) (100 :: 47 :: fN' r)) = (List.range 256).map (fun r => some (.inl (47 :: 100 :: 47 :: fN' r))) := by kernel_rfl
theorem b_find' {d : List Nat} : (List.range 256).map (fun r => findT (MB1 (fN' r) d).T 0 0 (47 :: 100 :: 47 :: fN' r) true) = (List.range 256).map (fun r => some (.inl 2)) := by kernel_rfl
theorem b_rn' {d : List Nat} : (List.range 256).map (fun r => prB atB frB (MB1 (fN' r) d) ⟨13, 47 :: 100 :: 47 :: fN' r, [47, 109, 47, 120, 47, 111, 116, 104, 101, 114], 0, 0, 0, 0, []⟩) = (List.range 256).map (fun r => some (an0, MB2 d)) := by kernel_rfl
theorem b_stat {d : List Nat} : prB atB frB (MB2 d) ⟨1, [47, 100, 47, 111, 116, 104, 101, 114], [], 0, 0, 0, 0, []⟩ = some (⟨0, (d.length : Int), 2, 420, [], []⟩, MB2 d) := by kernel_rfl
theorem b_ents {d : List Nat} : entsT (MB2 d).T 20 (MB2 d).root [] = some [([100], 1, 493, []), ([100, 47, 111, 116, 104, 101, 114], 2, 420, d)] := by kernel_rfl
theorem b_write {r : Nat} (hr : r < 256) {t : List Nat} (ht : t.length ≤ 500) : prB atB frB (MB1 (fN' r) []) ⟨8, 47 :: 109 :: 47 :: 120 :: 47 :: 46 :: 46 :: 47 :: 120 :: 47 :: fN' r, [], 0, 0, 0, 0, t⟩ = some (⟨0, (t.length : Int), 0, 0, [], []⟩, MB1 (fN' r) t) := by
  have hl := all_at (b_leadW' (d := [])) hr
  have hf := all_at (b_find' (d := [])) hr
  unfold prB
  show (bif decide ((8 : Int) = 13) then _ else bif true then (match leadM1 atB frB (MB1 (fN' r) []) (47 :: 109 :: 47 :: 120 :: 47 :: 46 :: 46 :: 47 :: 120 :: 47 :: fN' r) with
    | none => none
    | some (.inr n) => some (anS n, MB1 (fN' r) [])
    | some (.inl p) => doM (MB1 (fN' r) []) ⟨8, p, [], 0, 0, 0, 0, t⟩) else none) = _
  rw [hl]
  show doM (MB1 (fN' r) []) ⟨8, 47 :: 100 :: 47 :: fN' r, [], 0, 0, 0, 0, t⟩ = _
  have hw : writeT [] 0 t = .inl t := by
    unfold writeT
    have b1 : Nat.blt 512 t.length = false := by
      cases hb : Nat.blt 512 t.length with
      | false => rfl
      | true => have := Nat.blt_eq.mp hb; omega
    have b2 : decide ((0 : Int) > 1024 - (t.length : Int)) = false := by rw [decide_eq_false_iff_not]; omega
    rw [b1, b2]
    show (bif Nat.blt 0 t.length then Sum.inl (sizedL [] 0 ++ t ++ List.drop _ []) else Sum.inl []) = _
    cases t with
    | nil => rfl
    | cons x l =>
      have : Nat.blt 0 (x :: l).length = true := Nat.blt_eq.mpr (by simp)
      rw [this, List.drop_nil, List.append_nil]
      rfl
  have hT : (MB1 (fN' r) []).T 2 = some ⟨2, 420, [], [], some 1, fN' r, 0⟩ := rfl
  show (match do8 (MB1 (fN' r) []) ⟨8, 47 :: 100 :: 47 :: fN' r, [], 0, 0, 0, 0, t⟩ with | none => none | some q => some (outM (MB1 (fN' r) []) q)) = _
  have : do8 (MB1 (fN' r) []) ⟨8, 47 :: 100 :: 47 :: fN' r, [], 0, 0, 0, 0, t⟩ = some (.inr (⟨0, (t.length : Int), 0, 0, [], []⟩, MB1 (fN' r) t)) := by
    have hf' : findT (MB1 (fN' r) []).T (MB1 (fN' r) []).root (MB1 (fN' r) []).cwd (47 :: 100 :: 47 :: fN' r) true = some (.inl 2) := hf
    unfold do8
    simp only [Nat.ble_eq.mpr (by omega : t.length ≤ 1000000), cond_true, hf', hT, hw, Nat.ble_eq.mpr (by omega : t.length ≤ 40000)]
    rfl
  rw [this]
  rfl
theorem b_read {r : Nat} (hr : r < 256) {t : List Nat} (ht : t.length ≤ 500) : prB atB frB (MB1 (fN' r) t) ⟨2, 100 :: 47 :: fN' r, [], 0, 0, 512, 0, []⟩ = some (⟨0, (t.length : Int), 0, 0, t, []⟩, MB1 (fN' r) t) := by
  have hl := all_at (b_leadR' (d := t)) hr
  have hf := all_at (b_find' (d := t)) hr
  unfold prB
  show (bif decide ((2 : Int) = 13) then _ else bif true then (match leadM1 atB frB (MB1 (fN' r) t) (100 :: 47 :: fN' r) with
    | none => none
    | some (.inr n) => some (anS n, MB1 (fN' r) t)
    | some (.inl p) => doM (MB1 (fN' r) t) ⟨2, p, [], 0, 0, 512, 0, []⟩) else none) = _
  rw [hl]
  show doM (MB1 (fN' r) t) ⟨2, 47 :: 100 :: 47 :: fN' r, [], 0, 0, 512, 0, []⟩ = _
  have hw : readT t 0 512 = .inl t := by
    unfold readT
    show Sum.inl ((t.drop (min 0 t.length)).take (min 512 (t.length - min 0 t.length))) = _
    have e1 : min 0 t.length = 0 := by omega
    have e2 : min 512 (t.length - 0) = t.length := by omega
    rw [e1, e2, List.drop_zero, List.take_length]
  have hT : (MB1 (fN' r) t).T 2 = some ⟨2, 420, t, [], some 1, fN' r, 0⟩ := rfl
  show (match do2 (MB1 (fN' r) t) ⟨2, 47 :: 100 :: 47 :: fN' r, [], 0, 0, 512, 0, []⟩ with | none => none | some q => some (outM (MB1 (fN' r) t) q)) = _
  have : do2 (MB1 (fN' r) t) ⟨2, 47 :: 100 :: 47 :: fN' r, [], 0, 0, 512, 0, []⟩ = some (.inr (⟨0, (t.length : Int), 0, 0, t, []⟩, MB1 (fN' r) t)) := by
    have hf' : findT (MB1 (fN' r) t).T (MB1 (fN' r) t).root (MB1 (fN' r) t).cwd (47 :: 100 :: 47 :: fN' r) true = some (.inl 2) := hf
    unfold do2
    simp only [hf', hT, hw]
    rfl
  rw [this]
  rfl
end Go.AX
namespace Go.AX
/-! ### The first calls of ProcBinds -/
def bo1 : AO := .map []
def bo2 : AO := .cells [(vi 1), (vi 493), (.str []), (.map 4), vp, (.str [])] 126 0
def bo3 : AO := .cells [(.ptr 5 0), (.ptr 5 0), vp, vp, vp, vp, vp, vp, vp, vp, (vi 0)] 120 0
def bo4 : AO := .cells [(vs 0 0)] 131 0
def bo5 : AO := .cells [(.ptr 3 0), (.ptr 8 0), (.ptr 6 0), (vs 0 0), (vs 0 0)] 78 0
def bo6 : AO := .map [((.str [100]), (.ptr 22 0))]
def bo7 : AO := .cells [(.ptr 5 0), (.ptr 5 0), vp, vp, vp, vp, vp, vp, vp, vp, (vi 1)] 120 0
def bo8 : AO := .cells [(vi 1), (vi 493), (.str []), (.map 21), (.ptr 5 0), (.str [100])] 126 0
def bo9 : AO := .cells [(vi 0), (vi 0), (vi 0), (vi 0), (.str []), (vs 0 0)] 43 0
def bcut0 : Cut := ⟨24, [(.agg [(vs 0 0)]), (vs 0 0), (vi 0)], [], 0, (.tuple [(.ptr 12 0), (vi 0)]), [(4, bo1), (5, bo2), (6, bo3), (8, bo4), (12, bo5)], 13⟩
def bcut1 : Cut := ⟨27, [(.ptr 12 0), (.agg [(vi 6), (.str [47, 100]), (.str []), (vi 0), (vi 0), (vi 0), (vi 493), (.str [])])], [(4, bo1), (5, bo2), (6, bo3), (8, bo4), (12, bo5)], 13, (.agg [(vi 0), (vi 0), (vi 0), (vi 0), (.str []), (vs 0 0)]), [(4, bo6), (5, bo2), (6, bo7), (8, bo4), (12, bo5), (21, bo1), (22, bo8)], 23⟩
def bcut2 : Cut := ⟨25, [(.ptr 12 0), (.agg [(.str [109, 47, 120]), (.str [100]), (vb false)])], [(4, bo6), (5, bo2), (6, bo7), (8, bo4), (12, bo5), (21, bo1), (22, bo8), (23, bo9)], 24, (vi 0), [(4, bo6), (5, bo2), (6, bo7), (8, .cells [(.slice 27 0 1 0 1 false)] 131 0), (12, bo5), (21, bo1), (22, bo8), (23, bo9), (27, .cells [(.str [109, 47, 120]), (.str [100]), (vb false)] 38 6)], 28⟩
end Go.AX
namespace Go.AX
open Go.Proofs Go.RowKit
set_option maxRecDepth 1000000
set_option maxHeartbeats 400000000
set_option linter.unusedSimpArgs false
set_option linter.unusedVariables false

/-! ### Its first calls, run -/
theorem acut_c {P : Program} {e : Env} {pr : Prims} (H : Ok e P pr) {c : Cut} (h : c.ran pr e = true) {s : St} (hn : c.nx = s.nx) (hs : inT s.h c.l = true) {kr kp : AV → St → Bool} (hk : kr c.v { h := hL c.l', nx := c.nx' } = true) : (sem P).call c.f c.args s kr kp = true := by
  refine sem_call.2 fun w0 w E Args R Rp hv hs' hr hp => ?_
  have hsub : Sim w0 E { h := hL c.l, nx := c.nx } w := hn ▸ hs'.sub hs
  unfold Cut.ran at h
  rw [fS_eq] at h
  refine sem_call.1 (sem_max_call (evY_sound H 3000) h) w0 w E Args R Rp hv hsub (fun E' v s V w' g1 g2 g3 g4 => ?_) (fun _ _ _ _ _ _ _ _ g => by cases g)
  simp only [Cut.fin, Bool.and_eq_true] at g4
  obtain ⟨k1, k2, k3⟩ := g4
  exact hr E' c.v _ V w' g1 (beqA_eq _ _ k1 ▸ g2) (Nat.eq_of_beq_eq_true k2 ▸ g3.sub k3) hk
theorem brun0 : bcut0.ran pr2 TE = true := by kernel_rfl
theorem brun1 : bcut1.ran pr2 TE = true := by kernel_rfl
theorem brun2 : bcut2.ran pr2 TE = true := by kernel_rfl
def S1 : St := { h := hL bcut0.l', nx := 13 }
def S2 : St := { h := hL bcut1.l', nx := 23 }
def S3 : St := { h := hL bcut2.l', nx := 28 }
theorem bnew_c {kr kp : AV → St → Bool} (hk : kr (.tuple [.ptr 12 0, .raw (.int .i64 0)]) S1 = true) : (sem Tryz.prog).call 24 [.agg [nilS], nilS, .raw (.int .i64 0)] st0 kr kp = true := acut_c (ok2 ok0) brun0 (c := bcut0) rfl rfl hk
theorem bmk_c {kr kp : AV → St → Bool} (hk : kr (.agg (anL 0 0 0 0 [] nilS)) S2 = true) : (sem Tryz.prog).call 27 [.ptr 12 0, .agg (clL ⟨6, [47, 100], [], 0, 0, 0, 493, []⟩)] S1 kr kp = true := acut_c (ok2 ok0) brun1 (c := bcut1) rfl (by kernel_rfl) hk
theorem bmt_c {kr kp : AV → St → Bool} (hk : kr (.raw (.int .i64 0)) S3 = true) : (sem Tryz.prog).call 25 [.ptr 12 0, .agg [.str [109, 47, 120], .str [100], .raw (.bool false)]]
    { h := (S2.alloc (.cells (anL 0 0 0 0 [] nilS) 43 0)).h.set S2.nx (.cells (anL 0 0 0 0 [] nilS) 43 0), nx := S2.nx + 1 } kr kp = true := acut_c (ok2 ok0) brun2 (c := bcut2) rfl (by kernel_rfl) hk
def L3 : List (Nat × AO) := [(12, prV), (8, tb1V 27), (27, rowV [109, 47, 120] [100]), (23, .cells (anL 0 0 0 0 [] nilS) 43 0)]
theorem s3_below : belowB 28 1 0 S3.h = true := by kernel_rfl
theorem bw3 : World S3 6 MB0 L3 := by
  have two : ∀ {k : Nat}, k < MB0.nodes.length → k = 0 ∨ k = 1 := fun {k} h => by simp [MB0] at h; omega
  refine ⟨fun i o ho => ?_, fun k => bif Nat.beq k 0 then 5 else 22, fun k => bif Nat.beq k 0 then 4 else 21, ⟨?_, ?_, ?_, ?_, ?_, ?_, ?_, ?_, ?_, ?_, ?_, ?_⟩, ?_⟩
  · have := belowB_lt S3.h 1 0 s3_below i o ho
    show i < 28
    omega
  · intro k nd h
    rcases two (T_lt h) with rfl | rfl <;> cases h <;> exact ⟨by kernel_rfl, by kernel_rfl⟩
  · kernel_rfl
  · intro j k hj hk e
    rcases two hj with rfl | rfl <;> rcases two hk with rfl | rfl <;> first | rfl | cases e
  · intro j k hj hk e
    rcases two hj with rfl | rfl <;> rcases two hk with rfl | rfl <;> first | rfl | cases e
  · intro k nd h q hq
    rcases two (T_lt h) with rfl | rfl <;> cases h
    · simp only [List.mem_singleton] at hq
      subst hq
      decide
    · cases hq
  · intro k nd u h hu
    rcases two (T_lt h) with rfl | rfl <;> cases h <;> cases hu
    decide
  · decide
  · decide
  · rfl
  · intro o ho k hk
    have : o = none := by simpa [MB0, fds8] using ho
    rw [this] at hk
    cases hk
  · decide
  · intro k nd h
    rcases two (T_lt h) with rfl | rfl <;> cases h <;> decide
  · intro q hq
    have own : ∀ i, (i = 12 ∨ i = 8 ∨ i = 27 ∨ i = 23) → ¬ Own 6 MB0 (fun k => bif Nat.beq k 0 then 5 else 22) (fun k => bif Nat.beq k 0 then 4 else 21) i := by
      rintro i hi (e | ⟨k, hk, e | e⟩)
      · omega
      · rcases two hk with rfl | rfl
        · have : i = 5 := e
          omega
        · have : i = 22 := e
          omega
      · rcases two hk with rfl | rfl
        · have : i = 4 := e
          omega
        · have : i = 21 := e
          omega
    simp only [L3, List.mem_cons, List.not_mem_nil, or_false] at hq
    rcases hq with rfl | rfl | rfl | rfl
    · exact ⟨by kernel_rfl, own _ (by simp)⟩
    · exact ⟨by kernel_rfl, own _ (by simp)⟩
    · exact ⟨by kernel_rfl, own _ (by simp)⟩
    · exact ⟨by kernel_rfl, own _ (by simp)⟩
end Go.AX
