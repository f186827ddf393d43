import Derived.Test.YtliabkjjnkemlaaGreatSC1
import Derived.Test.YtliabkjjnkemlaaGreatSA3
set_option linter.unusedVariables false
set_option linter.unusedSimpArgs false
set_option linter.defProp false
namespace Go.AX
open Go.Proofs Go.RowKit
set_option maxRecDepth 1000000
set_option linter.unusedSimpArgs false
def hasB (b : List Nat) (c : Nat) : Bool := match findByte b c 0 with | some _ => true | none => false
theorem sindex_c {s : St} (H : Ok TE Tryz.prog pr3) {b : List Nat} {c : Nat} (hc : c < 256) {kr kp : AV → St → Bool} (hk : kr (.raw (.int .i64 (idxI b c))) s = true) : (sem Tryz.prog).call 85 [.str b, .str [c]] s kr kp = true := by
  refine w_call H 8 fn_85 rfl rfl ?_
  repeat (first | with_reducible (refine w_one H ?_; constructor) | simp only [rB, rP, rQ, boolA, intA, resultA, resA, reduceIte, reduceCtorEq, Nat.reduceAdd, Nat.reduceLT, Nat.reduceEqDiff, UInt8.reduceToNat, pe3, pf3, Tryz.results85] | (with_reducible refine index_c ok0 hc ?_))
  exact hk
theorem contains_c {s : St} (H : Ok TE Tryz.prog pr3) {b : List Nat} {c : Nat} (hc : c < 256) {kr kp : AV → St → Bool} (hk : kr (.raw (.bool (hasB b c))) s = true) : (sem Tryz.prog).call 70 [.str b, .str [c]] s kr kp = true := by
  refine w_call H 9 fn_70 rfl rfl ?_
  unfold hasB at hk
  cases h : findByte b c 0 with
  | some i =>
    rw [h] at hk
    have e0 : idxI b c = (i : Int) := by simp [idxI, h]
    have e1 : decide ((i : Int) ≥ 0) = true := by simp
    repeat (first | with_reducible (refine w_one H ?_; constructor) | simp only [rB, rP, rQ, boolA, intA, resultA, resA, reduceIte, reduceCtorEq, Nat.reduceAdd, Nat.reduceLT, Nat.reduceEqDiff, UInt8.reduceToNat, pe3, pf3, e0, e1, b_ge, Tryz.results70] | (with_reducible refine sindex_c H hc ?_))
    exact hk
  | none =>
    rw [h] at hk
    have e0 : idxI b c = -1 := by simp [idxI, h]
    have e1 : decide ((-1 : Int) ≥ 0) = false := by decide
    repeat (first | with_reducible (refine w_one H ?_; constructor) | simp only [rB, rP, rQ, boolA, intA, resultA, resA, reduceIte, reduceCtorEq, Nat.reduceAdd, Nat.reduceLT, Nat.reduceEqDiff, UInt8.reduceToNat, pe3, pf3, e0, e1, b_ge, Tryz.results70] | (with_reducible refine sindex_c H hc ?_))
    exact hk
def targetB (b : List Nat) : Bool := Nat.ble 1 b.length && (Nat.ble b.length 64 && !hasB b 0)
theorem target_c {s : St} (H : Ok TE Tryz.prog pr3) {b : List Nat} {kr kp : AV → St → Bool} (hk : kr (.raw (.bool (targetB b))) s = true) : (sem Tryz.prog).call 44 [.str b] s kr kp = true := by
  refine w_call H 16 fn_44 rfl rfl ?_
  unfold targetB at hk
  by_cases h1 : 1 ≤ b.length
  · have e1 : decide ((b.length : Int) ≥ 1) = true := by rw [decide_eq_true_eq]; omega
    rw [Nat.ble_eq.mpr h1, Bool.true_and] at hk
    by_cases h2 : b.length ≤ 64
    · have e2 : decide ((b.length : Int) ≤ 64) = true := by rw [decide_eq_true_eq]; omega
      rw [Nat.ble_eq.mpr h2, Bool.true_and] at hk
      repeat (first | with_reducible (refine w_one H ?_; constructor) | simp only [rB, rP, rQ, boolA, intA, resultA, resA, reduceIte, reduceCtorEq, Nat.reduceAdd, Nat.reduceLT, Nat.reduceEqDiff, UInt8.reduceToNat, pe3, pf3, len_str, b_le, b_ge, e1, e2, Tryz.results44] | (with_reducible refine contains_c H (by decide) ?_))
      exact hk
    · have e2 : decide ((b.length : Int) ≤ 64) = false := by rw [decide_eq_false_iff_not]; omega
      have e2' : Nat.ble b.length 64 = false := by rw [← Bool.not_eq_true, Nat.ble_eq]; exact h2
      rw [e2', Bool.false_and] at hk
      repeat (first | with_reducible (refine w_one H ?_; constructor) | simp only [rB, rP, rQ, boolA, intA, resultA, resA, reduceIte, reduceCtorEq, Nat.reduceAdd, Nat.reduceLT, Nat.reduceEqDiff, UInt8.reduceToNat, pe3, pf3, len_str, b_le, b_ge, e1, e2, Tryz.results44])
      exact hk
  · have e1 : decide ((b.length : Int) ≥ 1) = false := by rw [decide_eq_false_iff_not]; omega
    have e1' : Nat.ble 1 b.length = false := by rw [← Bool.not_eq_true, Nat.ble_eq]; exact h1
    rw [e1', Bool.false_and] at hk
    repeat (first | with_reducible (refine w_one H ?_; constructor) | simp only [rB, rP, rQ, boolA, intA, resultA, resA, reduceIte, reduceCtorEq, Nat.reduceAdd, Nat.reduceLT, Nat.reduceEqDiff, UInt8.reduceToNat, pe3, pf3, len_str, b_le, b_ge, e1, Tryz.results44])
    exact hk
end Go.AX
namespace Go.AX
open Go.Proofs Go.RowKit
set_option maxRecDepth 1000000
set_option linter.unusedSimpArgs false
def setK (p : List Nat) (j : Nat) : List (List Nat × Nat) → List (List Nat × Nat)
  | [] => [(p, j)]
  | (q, i) :: l => bif eqB p q then (p, j) :: l else (q, i) :: setK p j l
theorem setL_kids {p : List Nat} {j : Nat} : ∀ (l : List (List Nat × Nat)), lookK p l ≠ none → setL (kidsA l) (l.findIdx fun q => eqB p q.1) (.str p, .ptr j 0) = kidsA (setK p j l)
  | [], h => absurd rfl h
  | (q, i) :: l, h => by
    simp only [lookK] at h
    simp only [kidsA, List.map_cons, List.findIdx_cons, setK]
    cases he : eqB p q with
    | true => simp only [cond_true, setL, List.map_cons]
    | false =>
      rw [he] at h
      have ih := setL_kids (j := j) l h
      simp only [kidsA] at ih
      simp only [cond_false, setL, ih, List.map_cons]
theorem appL_kids {p : List Nat} {j : Nat} : ∀ (l : List (List Nat × Nat)), lookK p l = none → kidsA l ++ [(.str p, .ptr j 0)] = kidsA (setK p j l)
  | [], _ => (rfl)
  | (q, i) :: l, h => by
    simp only [lookK] at h
    cases he : eqB p q with
    | true => rw [he] at h; cases h
    | false =>
      rw [he] at h
      have ih := appL_kids (j := j) l h
      simp only [kidsA] at ih
      simp only [kidsA, List.map_cons, setK, he, cond_false, List.cons_append, ih]
theorem up_kid {s : St} {mp : Nat} {kids : List (List Nat × Nat)} {p : List Nat} {j : Nat} (h : s.h.get mp = some (.map (kidsA kids))) : mapUpdateA TE s 54 (.map mp) (.str p) (.ptr j 0) = some { s with h := s.h.set mp (.map (kidsA (setK p j kids))) } := by
  have e : mapUpdateA TE s 54 (.map mp) (.str p) (.ptr j 0) = (match s.h.get mp with
      | some (.map es) => match findK .string (.str p) es 0 with
            | some (some (i, _)) => some { s with h := s.h.set mp (.map (setL es i (.str p, .ptr j 0))) }
            | some none => some { s with h := s.h.set mp (.map (es ++ [(.str p, .ptr j 0)])) }
            | none => none
      | _ => none) := by kernel_rfl
  rw [e, h]
  simp only [findK_kids]
  cases hl : lookK p kids with
  | none => simp only [appL_kids kids hl]
  | some i => simp only [Nat.zero_add, setL_kids kids (by rw [hl]; simp)]
theorem add_c {s : St} (H : Ok TE Tryz.prog pr3) (hB : Below0 s) {u j : Nat} {ud kd : Nd} (hu : NRep s u ud) (hj : s.h.get j = some (ndA kd)) (huj : u ≠ j) {nm : List Nat} {kr kp : AV → St → Bool}
    (hk : ∀ s', s'.nx = s.nx → Chg s s' [(j, ndA { kd with up := some u, name := nm }), (ud.mp, .map (kidsA (setK nm j ud.kids)))] → Below0 s' → kr (.ptr j 0) s' = true) :
    (sem Tryz.prog).call 22 [.ptr u 0, .str nm, .ptr j 0] s kr kp = true := by
  refine w_call H 22 fn_22 rfl rfl ?_
  have hu1 := hu.1
  have hu2 := hu.2
  have hjm : j ≠ ud.mp := by
    intro hh
    rw [hh, hu2] at hj
    cases hj
  have v1 : (u = j) = False := by simp [huj]
  have v2 : (ud.mp = j) = False := by simp; exact fun hh => hjm hh.symm
  have v3 : (j = ud.mp) = False := by simp [hjm]
  let s2 : St := { s with h := (s.h.set j (ndA { kd with up := some u })).set j (ndA { kd with up := some u, name := nm }) }
  have hm2 : s2.h.get ud.mp = some (.map (kidsA ud.kids)) := (hs_ne (fun hh => hjm hh.symm)).trans ((hs_ne (fun hh => hjm hh.symm)).trans hu2)
  have up := up_kid (p := nm) (j := j) hm2
  simp only [s2, ndA, upA] at up
  repeat (first | with_reducible (refine w_one H ?_; constructor) | simp only [rB, rP, rQ, boolA, intA, resultA, resA, reduceIte, reduceCtorEq, Nat.reduceAdd, Nat.reduceLT, Nat.reduceEqDiff, UInt8.reduceToNat, pe3, pf3, fa_3, fa_4, fa_5, ld_54, st_50, st_9, hu1, hj, ndA, v1, v2, v3, up, Tryz.results22])
  refine hk _ rfl ⟨Nat.le_refl _, ?_, ?_⟩ (below_set (below_set (below_set hB (hB _ _ hj) _) (hB _ _ hj) _) (hB _ _ hu2) _)
  · intro q hq
    simp only [List.mem_cons, List.not_mem_nil, or_false] at hq
    rcases hq with rfl | rfl
    · exact (hs_ne hjm).trans hs_same
    · exact hs_same
  · intro q hq hn
    have g1 := hn _ List.mem_cons_self
    have g2 := hn _ (List.mem_cons_of_mem _ List.mem_cons_self)
    exact (hs_ne g2).trans ((hs_ne g1).trans (hs_ne g1))
end Go.AX
namespace Go.AX
open Go.Proofs Go.RowKit
set_option maxRecDepth 1000000
set_option linter.unusedSimpArgs false
end Go.AX
namespace Go.AX
open Go.Proofs Go.RowKit
set_option maxRecDepth 1000000
set_option linter.unusedSimpArgs false
end Go.AX
namespace Go.AX
open Go.Proofs Go.RowKit
set_option maxRecDepth 1000000
set_option linter.unusedSimpArgs false
end Go.AX
namespace Go.AX
open Go.Proofs Go.RowKit
set_option maxRecDepth 1000000
set_option linter.unusedSimpArgs false
def trA (root cwd : Nat) (fds : List (Option Nat)) (many : Int) : AO := .cells (.ptr root 0 :: .ptr cwd 0 :: (fds.map upA ++ [.raw (.int .i64 many)])) 53 0
end Go.AX
namespace Go.AX
open Go.Proofs Go.RowKit
set_option maxRecDepth 1000000
set_option linter.unusedSimpArgs false
end Go.AX
namespace Go.AX
open Go.Proofs Go.RowKit
set_option maxRecDepth 1000000
set_option linter.unusedSimpArgs false
end Go.AX
namespace Go.AX
open Go.Proofs Go.RowKit
set_option maxRecDepth 1000000
set_option linter.unusedSimpArgs false
end Go.AX
