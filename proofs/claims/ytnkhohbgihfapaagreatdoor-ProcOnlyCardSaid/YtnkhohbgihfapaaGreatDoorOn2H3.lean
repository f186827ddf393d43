import Derived.Test.YtnkhohbgihfapaaGreatDoorOn2H1
import Derived.Test.YtnkhohbgihfapaaGreatDoorOn2C2
set_option linter.unusedVariables false
set_option linter.unusedSimpArgs false
set_option linter.defProp false
namespace Go.AX
open Go.Proofs Go.RowKit
set_option maxRecDepth 1000000
set_option maxHeartbeats 40000000
set_option linter.unusedSimpArgs false
set_option linter.unusedVariables false
def upE (p : List Nat) : List Nat := p.take (cutE p)
theorem above_c {s : St} (H : Ok TE Tryz.prog pr3) {p : List Nat} (hp : p.length ≤ 1000000) {kr kp : AV → St → Bool} (hk : kr (.str (upE p)) s = true) :
    (sem Tryz.prog).call 123 [.str p] s kr kp = true := by
  refine w_call H 8 fn_123 rfl rfl ?_
  have sl2 : sliceOpA TE 9 (.str p) none (some (.raw (.int .i64 (cutE p : Int)))) none = some (.str (p.take (cutE p))) := by
    rw [sl_str, sb_hi no_cast cutE_le]
    simp
  repeat (first | with_reducible (refine w_one H ?_; constructor) | simp only [rB, rP, rQ, boolA, intA, resultA, resA, reduceIte, reduceCtorEq, Nat.reduceAdd, Nat.reduceLT, Nat.reduceEqDiff, UInt8.reduceToNat, pe3, pf3])
  refine lastb_c H (b := p) (c := 47) hp ?_
  repeat (first | with_reducible (refine w_one H ?_; constructor) | simp only [rB, rP, rQ, boolA, intA, resultA, resA, reduceIte, reduceCtorEq, Nat.reduceAdd, Nat.reduceLT, Nat.reduceEqDiff, UInt8.reduceToNat, pe3, pf3, cut_max, sl2, Tryz.results123])
  exact hk
theorem hpx_c {s : St} (H : Ok TE Tryz.prog pr3) {p q : List Nat} {kr kp : AV → St → Bool} (hk : kr (.raw (.bool (hpB p q))) s = true) : (sem Tryz.prog).call 86 [.str p, .str q] s kr kp = true := by
  refine w_call H 8 fn_86 rfl rfl ?_
  repeat (first | with_reducible (refine w_one H ?_; constructor) | simp only [rB, rP, rQ, boolA, intA, resultA, resA, reduceIte, reduceCtorEq, Nat.reduceAdd, Nat.reduceLT, Nat.reduceEqDiff, UInt8.reduceToNat, pe3, pf3])
  refine hp_c H ?_
  repeat (first | with_reducible (refine w_one H ?_; constructor) | simp only [rB, rP, rQ, boolA, intA, resultA, resA, reduceIte, reduceCtorEq, Nat.reduceAdd, Nat.reduceLT, Nat.reduceEqDiff, UInt8.reduceToNat, pe3, pf3, Tryz.results86])
  exact hk
def belowB (p q : List Nat) : Bool := bif eqB q [] then true else bif eqB p q then true else hpB p (q ++ [47])
theorem pbelow_c {s : St} (H : Ok TE Tryz.prog pr3) {p q : List Nat} (hq : q.length ≤ 1000000) {kr kp : AV → St → Bool} (hk : kr (.raw (.bool (belowB p q))) s = true) :
    (sem Tryz.prog).call 45 [.str p, .str q] s kr kp = true := by
  refine w_call H 18 fn_45 rfl rfl ?_
  have f1 : binFast .add (.str q) (.str [47]) = some (.str (q ++ [47])) := b_add (by simp; omega)
  unfold belowB at hk
  cases h1 : eqB q [] with
  | true =>
    rw [h1] at hk
    repeat (first | with_reducible (refine w_one H ?_; constructor) | simp only [rB, rP, rQ, boolA, intA, resultA, resA, reduceIte, reduceCtorEq, Nat.reduceAdd, Nat.reduceLT, Nat.reduceEqDiff, UInt8.reduceToNat, pe3, pf3, b_eqs, h1, Tryz.results45])
    exact hk
  | false =>
    rw [h1] at hk
    cases h2 : eqB p q with
    | true =>
      rw [h2] at hk
      repeat (first | with_reducible (refine w_one H ?_; constructor) | simp only [rB, rP, rQ, boolA, intA, resultA, resA, reduceIte, reduceCtorEq, Nat.reduceAdd, Nat.reduceLT, Nat.reduceEqDiff, UInt8.reduceToNat, pe3, pf3, b_eqs, h1, h2, Tryz.results45])
      exact hk
    | false =>
      rw [h2] at hk
      repeat (first | with_reducible (refine w_one H ?_; constructor) | simp only [rB, rP, rQ, boolA, intA, resultA, resA, reduceIte, reduceCtorEq, Nat.reduceAdd, Nat.reduceLT, Nat.reduceEqDiff, UInt8.reduceToNat, pe3, pf3, b_eqs, h1, h2, f1])
      refine hpx_c H ?_
      repeat (first | with_reducible (refine w_one H ?_; constructor) | simp only [rB, rP, rQ, boolA, intA, resultA, resA, reduceIte, reduceCtorEq, Nat.reduceAdd, Nat.reduceLT, Nat.reduceEqDiff, UInt8.reduceToNat, pe3, pf3, Tryz.results45])
      exact hk
def knownB (k : Int) : Bool := bif decide (k ≥ 1) then decide (k ≤ 5) else false
theorem known_c {s : St} (H : Ok TE Tryz.prog pr3) {k : Int} {kr kp : AV → St → Bool} (hk : kr (.raw (.bool (knownB k))) s = true) :
    (sem Tryz.prog).call 158 [.raw (.int .i64 k)] s kr kp = true := by
  refine w_call H 9 fn_158 rfl rfl ?_
  unfold knownB at hk
  cases h1 : decide (k ≥ 1) with
  | true =>
    rw [h1] at hk
    repeat (first | with_reducible (refine w_one H ?_; constructor) | simp only [rB, rP, rQ, boolA, intA, resultA, resA, reduceIte, reduceCtorEq, Nat.reduceAdd, Nat.reduceLT, Nat.reduceEqDiff, UInt8.reduceToNat, pe3, pf3, b_ge, b_le, h1, Tryz.results158])
    exact hk
  | false =>
    rw [h1] at hk
    repeat (first | with_reducible (refine w_one H ?_; constructor) | simp only [rB, rP, rQ, boolA, intA, resultA, resA, reduceIte, reduceCtorEq, Nat.reduceAdd, Nat.reduceLT, Nat.reduceEqDiff, UInt8.reduceToNat, pe3, pf3, b_ge, b_le, h1, Tryz.results158])
    exact hk
def modedB (e : En) : Bool := bif e.2.1 == 3 then e.2.2.1 == 511 else bif e.2.1 == 4 then e.2.2.1 == 0 else bif decide (e.2.2.1 ≥ 0) then decide (e.2.2.1 ≤ 511) else false
theorem moded_c {s : St} (H : Ok TE Tryz.prog pr3) (hB : Below0 s) {e : En} {kr kp : AV → St → Bool} (hk : ∀ s', Ext s s' → Below0 s' → kr (.raw (.bool (modedB e))) s' = true) :
    (sem Tryz.prog).call 160 [agE e] s kr kp = true := by
  refine w_call H 23 fn_160 rfl rfl ?_
  obtain ⟨p, kd, md, d⟩ := e
  have hk := hk (s.alloc (.cells [.str p, .raw (.int .i64 kd), .raw (.int .i64 md), .str d] 25 0)) (Ext.alloc s _) (below_al hB _)
  unfold modedB at hk
  simp only at hk
  unfold agE
  cases h1 : kd == 3 with
  | true =>
    rw [h1] at hk
    repeat (first | with_reducible (refine w_one H ?_; constructor) | simp only [rB, rP, rQ, boolA, intA, resultA, resA, reduceIte, reduceCtorEq, Nat.reduceAdd, Nat.reduceLT, Nat.reduceEqDiff, UInt8.reduceToNat, pe3, pf3, cells_agg, fa_en0, fa_en1, fa_en2, fa_en3, ld_9, ld_3, b_eqi, h1, Tryz.results160])
    exact hk
  | false =>
    rw [h1] at hk
    cases h2 : kd == 4 with
    | true =>
      rw [h2] at hk
      repeat (first | with_reducible (refine w_one H ?_; constructor) | simp only [rB, rP, rQ, boolA, intA, resultA, resA, reduceIte, reduceCtorEq, Nat.reduceAdd, Nat.reduceLT, Nat.reduceEqDiff, UInt8.reduceToNat, pe3, pf3, cells_agg, fa_en0, fa_en1, fa_en2, fa_en3, ld_9, ld_3, b_eqi, h1, h2, Tryz.results160])
      exact hk
    | false =>
      rw [h2] at hk
      cases h3 : decide (md ≥ 0) with
      | true =>
        rw [h3] at hk
        repeat (first | with_reducible (refine w_one H ?_; constructor) | simp only [rB, rP, rQ, boolA, intA, resultA, resA, reduceIte, reduceCtorEq, Nat.reduceAdd, Nat.reduceLT, Nat.reduceEqDiff, UInt8.reduceToNat, pe3, pf3, cells_agg, fa_en0, fa_en1, fa_en2, fa_en3, ld_9, ld_3, b_eqi, b_ge, b_le, h1, h2, h3, Tryz.results160])
        exact hk
      | false =>
        rw [h3] at hk
        repeat (first | with_reducible (refine w_one H ?_; constructor) | simp only [rB, rP, rQ, boolA, intA, resultA, resA, reduceIte, reduceCtorEq, Nat.reduceAdd, Nat.reduceLT, Nat.reduceEqDiff, UInt8.reduceToNat, pe3, pf3, cells_agg, fa_en0, fa_en1, fa_en2, fa_en3, ld_9, ld_3, b_eqi, b_ge, b_le, h1, h2, h3, Tryz.results160])
        exact hk
def sizedB (k n : Int) : Bool := bif k == 2 then decide (n ≤ 1024) else bif k == 3 then (bif decide (n ≥ 1) then decide (n ≤ 64) else false) else n == 0
theorem sizedA_c {s : St} (H : Ok TE Tryz.prog pr3) {k n : Int} {kr kp : AV → St → Bool} (hk : kr (.raw (.bool (sizedB k n))) s = true) :
    (sem Tryz.prog).call 161 [.raw (.int .i64 k), .raw (.int .i64 n)] s kr kp = true := by
  refine w_call H 20 fn_161 rfl rfl ?_
  unfold sizedB at hk
  cases h1 : k == 2 with
  | true =>
    rw [h1] at hk
    repeat (first | with_reducible (refine w_one H ?_; constructor) | simp only [rB, rP, rQ, boolA, intA, resultA, resA, reduceIte, reduceCtorEq, Nat.reduceAdd, Nat.reduceLT, Nat.reduceEqDiff, UInt8.reduceToNat, pe3, pf3, b_eqi, b_le, h1, Tryz.results161])
    exact hk
  | false =>
    rw [h1] at hk
    cases h2 : k == 3 with
    | true =>
      rw [h2] at hk
      cases h3 : decide (n ≥ 1) with
      | true =>
        rw [h3] at hk
        repeat (first | with_reducible (refine w_one H ?_; constructor) | simp only [rB, rP, rQ, boolA, intA, resultA, resA, reduceIte, reduceCtorEq, Nat.reduceAdd, Nat.reduceLT, Nat.reduceEqDiff, UInt8.reduceToNat, pe3, pf3, b_eqi, b_ge, b_le, h1, h2, h3, Tryz.results161])
        exact hk
      | false =>
        rw [h3] at hk
        repeat (first | with_reducible (refine w_one H ?_; constructor) | simp only [rB, rP, rQ, boolA, intA, resultA, resA, reduceIte, reduceCtorEq, Nat.reduceAdd, Nat.reduceLT, Nat.reduceEqDiff, UInt8.reduceToNat, pe3, pf3, b_eqi, b_ge, b_le, h1, h2, h3, Tryz.results161])
        exact hk
    | false =>
      rw [h2] at hk
      repeat (first | with_reducible (refine w_one H ?_; constructor) | simp only [rB, rP, rQ, boolA, intA, resultA, resA, reduceIte, reduceCtorEq, Nat.reduceAdd, Nat.reduceLT, Nat.reduceEqDiff, UInt8.reduceToNat, pe3, pf3, b_eqi, b_ge, b_le, h1, h2, Tryz.results161])
      exact hk
end Go.AX
namespace Go.AX
open Go.Proofs Go.RowKit
set_option maxRecDepth 1000000
set_option maxHeartbeats 400000000
set_option linter.unusedSimpArgs false
set_option linter.unusedVariables false
def CapV : AV → Prop
  | .slice _ _ n _ cap _ => n ≤ cap
  | _ => True
theorem so_en2 {id off len ci cap : Nat} {ex : Bool} {j : Nat} (h : j ≤ cap) : sliceOpA TE 26 (.slice id off len ci cap ex) none (some (.raw (.int .i64 (j : Int)))) none = some (.slice id off j ci cap ex) := by
  have e : sliceOpA TE 26 (.slice id off len ci cap ex) none (some (.raw (.int .i64 (j : Int)))) none = (match (some elE : Option TI), sliceBoundsA len cap none (some (.raw (.int .i64 (j : Int)))) with
      | some el, some (l, h) =>
        bif Nat.blt l cap || Nat.beq l 0 then some (.slice id (off + l * el.size) (h - l) (ci + l) (cap - l) ex)
        else bif ex then some (.slice id off 0 ci 0 true)
        else some (.esl id off ci l el.size)
      | _, _ => none) := by kernel_rfl
  rw [e, sb_hi (i := j) no_cast h]
  simp
theorem EsV.upto {s : St} {V : AV} {es : List En} (h : EsV s V es) (hc : CapV V) {k : Nat} (hk : k < es.length) : ∃ V', sliceOpA TE 26 V none (some (.raw (.int .i64 (k : Int)))) none = some V' ∧ EsV s V' (es.take k) := by
  rcases h with ⟨⟨a, c, rfl⟩, rfl⟩ | ⟨id, off, ci, l, z, rfl, rfl⟩ | ⟨id, off, ci, cap, ex, cs, ob, rfl, hg, ho, hbq, hc'⟩
  · simp at hk
  · simp at hk
  · refine ⟨_, so_en2 (Nat.le_trans (Nat.le_of_lt hk) hc), Or.inr (Or.inr ⟨id, off, ci, cap, ex, cs, ob, ?_, hg, ho, hbq, fun j e hj => ?_⟩)⟩
    · rw [List.length_take, Nat.min_eq_left (Nat.le_of_lt hk)]
    · refine hc' j e ?_
      rw [List.getElem?_take] at hj
      by_cases h : j < k
      · rw [if_pos h] at hj; exact hj
      · rw [if_neg h] at hj; cases hj
def hitB (e a : En) : Bool := bif a.2.1 != 1 then (bif a.2.1 != 5 then belowB e.1 a.1 else false) else false
def aheadB (e : En) (pre : List En) : Bool := match pre[pre.length - 1]? with | none => false | some a => decide (cmpP a.1 e.1 ≥ 0)
def pathedL (e : En) (pre : List En) : Int := match cleanL [] (47 :: e.1) with
  | (q, c) => bif Nat.beq c 0 then (bif eqB e.1 [] then 1303 else bif eqB q e.1 then (bif aheadB e pre then 1304 else bif pre.any (hitB e) then 1305 else 0) else 1303) else 1303
theorem pathed_c {s : St} (H : Ok TE Tryz.prog pr3) (hB : Below0 s) {V : AV} {e : En} {pre : List En} (hV : EsV s V pre) (hp : e.1.length ≤ 1048575) (hpre : ∀ a ∈ pre, a.1.length ≤ 140) (hlen : pre.length ≤ 1000000) {kr kp : AV → St → Bool} (hk : ∀ s', Ext s s' → Below0 s' → kr (.raw (.int .i64 (pathedL e pre))) s' = true) :
    (sem Tryz.prog).call 159 [agE e, V] s kr kp = true := by
  refine w_call H 73 fn_159 rfl rfl ?_
  have hB1 : Below0 (s.alloc (.cells (celE e) 25 0)) := below_al hB _
  have hE1 : Ext s (s.alloc (.cells (celE e) 25 0)) := Ext.alloc s _
  have hV1 := hV.ext hB hE1
  have c1 : (s.alloc (.cells (celE e) 25 0)).h.get s.nx = some (.cells (celE e) 25 0) := al_same
  have hag : agE e = .agg (celE e) := rfl
  have hnx : (s.alloc (.cells (celE e) 25 0)).nx = s.nx + 1 := rfl
  unfold pathedL at hk
  rw [hag]
  have f1 : binFast .add (.str [47]) (.str e.1) = some (.str (47 :: e.1)) := b_add (by simp; omega)
  have ec := fun {r a dst s k kp} => c3_clean (r := r) (a := a) (dst := dst) (s := s) (k := k) (kp := kp) (x := []) (y := 47 :: e.1) (by simp) rfl rfl
  have hle := cleanL_le (x := []) (y := 47 :: e.1)
  generalize cleanL [] (47 :: e.1) = x at ec hk hle
  obtain ⟨q, c⟩ := x
  simp only at hk hle
  have vl := hV.len
  have vi := hV.ids
  repeat (first | with_reducible (refine w_one H ?_; constructor) | simp only [rB, rP, rQ, boolA, intA, resultA, resA, reduceIte, reduceCtorEq, Nat.reduceAdd, Nat.reduceLT, Nat.reduceEqDiff, UInt8.reduceToNat, pe3, pf3, cells_agg])
  generalize hS : s.alloc (.cells (celE e) 25 0) = s1 at *
  by_cases hc : c = 0
  · subst hc
    have g0 : (((0 : Nat) : Int) != 0) = false := rfl
    rw [show Nat.beq 0 0 = true from rfl, cond_true] at hk
    cases h1 : eqB e.1 [] with
    | true =>
      rw [h1] at hk
      repeat (first | with_reducible (refine w_one H ?_; constructor) | simp only [rB, rP, rQ, boolA, intA, resultA, resA, reduceIte, reduceCtorEq, Nat.reduceAdd, Nat.reduceLT, Nat.reduceEqDiff, UInt8.reduceToNat, pe3, pf3, c1, fa_en0, fa_en1, fa_en2, fa_en3, ld_9, ld_3, ldE0, ce_0, f1, ec, outC, b_nei, g0, b_eqs, h1, Tryz.results159])
      exact hk s1 hE1 hB1
    | false =>
      rw [h1] at hk
      cases h2 : eqB q e.1 with
      | false =>
        rw [h2] at hk
        repeat (first | with_reducible (refine w_one H ?_; constructor) | simp only [rB, rP, rQ, boolA, intA, resultA, resA, reduceIte, reduceCtorEq, Nat.reduceAdd, Nat.reduceLT, Nat.reduceEqDiff, UInt8.reduceToNat, pe3, pf3, c1, fa_en0, fa_en1, fa_en2, fa_en3, ld_9, ld_3, ldE0, ce_0, f1, ec, outC, b_nei, g0, b_eqs, b_nes0, h1, h2, Bool.not_false, Tryz.results159])
        exact hk s1 hE1 hB1
      | true =>
        rw [h2, cond_false, cond_true] at hk
        have hq : q = e.1 := by rw [eqB_dec] at h2; exact of_decide_eq_true h2
        have h140 : e.1.length ≤ 140 := hq ▸ hle
        have ew : IntKind.i64.wrap ((pre.length : Int) - 1) = (pre.length : Int) - 1 := Go.IntWalk.i64_in _ (by omega)
        by_cases hz : pre = []
        · have g1 : decide ((pre.length : Int) > 0) = false := by rw [hz]; rfl
          have e0 : aheadB e pre = false := by rw [hz]; rfl
          rw [e0, cond_false] at hk
          repeat (first | with_reducible (refine w_one H ?_; constructor) | simp only [rB, rP, rQ, boolA, intA, resultA, resA, reduceIte, reduceCtorEq, Nat.reduceAdd, Nat.reduceLT, Nat.reduceEqDiff, UInt8.reduceToNat, pe3, pf3, c1, fa_en0, fa_en1, fa_en2, fa_en3, ld_9, ld_3, ldE0, ce_0, f1, ec, outC, b_nei, g0, b_eqs, b_nes0, h1, h2, Bool.not_true, vl, vi, b_gt, g1, b_minus, ew] | (with_reducible refine w_plan H (i := 4) (.take 0 (.take 1 (.take 2 (.take 3 (.take 4 (.take 5 (.take 6 (.take 7 (.take 8 (.take 9 (.take 10 (.take 11 (.take 12 (.alt 13 [0, 1, 2, 3, 4, 5, 6, 7, 8, 9, 10, 11, 12] (.take 14 (.take 15 (.take 16 (.done)))) (.yes))))))))))))))) rfl (by kernel_rfl) ?_))
          refine w_loop_ind H (fun n t s' => n ≤ pre.length ∧ tg t 1 = V ∧ tg t 2 = .ptr s.nx 0 ∧ tg t 7 = .raw (.int .i64 ((n : Int) - 1)) ∧ Ext s s' ∧ Below0 s' ∧ s'.h.get s.nx = some (.cells (celE e) 25 0) ∧ pre.any (hitB e) = (pre.take n).any (hitB e)) (n := pre.length)
            ⟨Nat.le_refl _, by simp only [rB, rP, rQ, boolA, intA, resultA, resA, reduceIte, reduceCtorEq, Nat.reduceAdd, Nat.reduceLT, Nat.reduceEqDiff, UInt8.reduceToNat], by simp only [rB, rP, rQ, boolA, intA, resultA, resA, reduceIte, reduceCtorEq, Nat.reduceAdd, Nat.reduceLT, Nat.reduceEqDiff, UInt8.reduceToNat], by simp only [rB, rP, rQ, boolA, intA, resultA, resA, reduceIte, reduceCtorEq, Nat.reduceAdd, Nat.reduceLT, Nat.reduceEqDiff, UInt8.reduceToNat, ew], ‹_›, ‹_›, ‹_›, by rw [List.take_length]⟩ ?_
          rintro n t s' ih ⟨hn, t1, t2, t7, hE, hB', hc1, hany⟩
          cases n with
          | zero =>
            have g3 : decide (((0 : Nat) : Int) - 1 ≥ 0) = false := rfl
            repeat (first | with_reducible (refine w_one H ?_; constructor) | simp only [rB, rP, rQ, boolA, intA, resultA, resA, reduceIte, reduceCtorEq, Nat.reduceAdd, Nat.reduceLT, Nat.reduceEqDiff, UInt8.reduceToNat, pe3, pf3, fa_en0, fa_en1, fa_en2, fa_en3, fa_enO, ld_9, ld_3, ldE0, ldE1, ce_0, ce_1, t1, t2, t7, b_ge, g3, Tryz.results159])
            have := hk s' hE hB'
            rw [hany] at this
            exact this
          | succ n =>
            have e1 : ((n + 1 : Nat) : Int) - 1 = (n : Int) := by omega
            rw [e1] at t7
            have g3 : decide ((n : Int) ≥ 0) = true := by rw [decide_eq_true_eq]; omega
            have hV' := hV.ext hB hE
            have hlt : n < pre.length := by omega
            have hke : pre[n]? = some pre[n] := List.getElem?_eq_getElem hlt
            have hmem : pre[n] ∈ pre := List.getElem_mem hlt
            rw [List.take_add_one, hke] at hany
            generalize pre[n] = a at hke hmem hany
            simp only [Option.toList_some, List.any_append, List.any_cons, List.any_nil, Bool.or_false] at hany
            obtain ⟨id, o, y1, y2, y3, y4, -⟩ := hV'.idx hke
            have e2 : IntKind.i64.wrap ((n : Int) - 1) = (n : Int) - 1 := Go.IntWalk.i64_in _ (by omega)
            have hB3 : Below0 { h := (s'.alloc (.cells [.str [], .raw (.int .i64 0), .raw (.int .i64 0), .str []] 25 0)).h.set s'.nx (.cells (celE a) 25 0), nx := s'.nx + 1 } := below_putS hB'
            have hE3 : Ext s' { h := (s'.alloc (.cells [.str [], .raw (.int .i64 0), .raw (.int .i64 0), .str []] 25 0)).h.set s'.nx (.cells (celE a) 25 0), nx := s'.nx + 1 } := ext_putS
            have c3 : ({ h := (s'.alloc (.cells [.str [], .raw (.int .i64 0), .raw (.int .i64 0), .str []] 25 0)).h.set s'.nx (.cells (celE a) 25 0), nx := s'.nx + 1 } : St).h.get s'.nx = some (.cells (celE a) 25 0) := hs_same
            have c4 := (hE3.2 _ (hB' _ _ hc1)).trans hc1
            repeat (first | with_reducible (refine w_one H ?_; constructor) | simp only [rB, rP, rQ, boolA, intA, resultA, resA, reduceIte, reduceCtorEq, Nat.reduceAdd, Nat.reduceLT, Nat.reduceEqDiff, UInt8.reduceToNat, pe3, pf3, fa_en0, fa_en1, fa_en2, fa_en3, fa_enO, ld_9, ld_3, ldE0, ldE1, ce_0, ce_1, t1, t2, t7, b_ge, g3, y1, y2, y3, y4, all_en, st_en, stA_en, ld_en, ldG_en])
            generalize ({ h := (s'.alloc (.cells [.str [], .raw (.int .i64 0), .raw (.int .i64 0), .str []] 25 0)).h.set s'.nx (.cells (celE a) 25 0), nx := s'.nx + 1 } : St) = s3 at *
            have hn0 : hitB e a = (bif a.2.1 != 1 then (bif a.2.1 != 5 then belowB e.1 a.1 else false) else false) := rfl
            have fin : ∀ b, hitB e a = b → (b = false → pre.any (hitB e) = (pre.take n).any (hitB e)) ∧ (b = true → pre.any (hitB e) = true) := by
              intro b hb
              rw [hany, hb]
              cases b <;> simp
            cases k1 : a.2.1 != 1 with
            | false =>
              rw [k1] at hn0
              have hf := (fin _ hn0).1 rfl
              repeat (first | with_reducible (refine w_one H ?_; constructor) | simp only [rB, rP, rQ, boolA, intA, resultA, resA, reduceIte, reduceCtorEq, Nat.reduceAdd, Nat.reduceLT, Nat.reduceEqDiff, UInt8.reduceToNat, pe3, pf3, fa_en0, fa_en1, fa_en2, fa_en3, fa_enO, ld_9, ld_3, ldE0, ldE1, ce_0, ce_1, t1, t2, t7, c3, c4, b_nei, k1, b_minus, e2])
              exact ih n _ _ (Nat.lt_succ_self n) ⟨by omega, by simp only [rB, rP, rQ, boolA, intA, resultA, resA, reduceIte, reduceCtorEq, Nat.reduceAdd, Nat.reduceLT, Nat.reduceEqDiff, UInt8.reduceToNat, t1], by simp only [rB, rP, rQ, boolA, intA, resultA, resA, reduceIte, reduceCtorEq, Nat.reduceAdd, Nat.reduceLT, Nat.reduceEqDiff, UInt8.reduceToNat, t2], by simp only [rB, rP, rQ, boolA, intA, resultA, resA, reduceIte, reduceCtorEq, Nat.reduceAdd, Nat.reduceLT, Nat.reduceEqDiff, UInt8.reduceToNat], hE.trans hE3, hB3, c4, hf⟩
            | true =>
              rw [k1, cond_true] at hn0
              cases k2 : a.2.1 != 5 with
              | false =>
                rw [k2] at hn0
                have hf := (fin _ hn0).1 rfl
                repeat (first | with_reducible (refine w_one H ?_; constructor) | simp only [rB, rP, rQ, boolA, intA, resultA, resA, reduceIte, reduceCtorEq, Nat.reduceAdd, Nat.reduceLT, Nat.reduceEqDiff, UInt8.reduceToNat, pe3, pf3, fa_en0, fa_en1, fa_en2, fa_en3, fa_enO, ld_9, ld_3, ldE0, ldE1, ce_0, ce_1, t1, t2, t7, c3, c4, b_nei, k1, k2, b_minus, e2])
                exact ih n _ _ (Nat.lt_succ_self n) ⟨by omega, by simp only [rB, rP, rQ, boolA, intA, resultA, resA, reduceIte, reduceCtorEq, Nat.reduceAdd, Nat.reduceLT, Nat.reduceEqDiff, UInt8.reduceToNat, t1], by simp only [rB, rP, rQ, boolA, intA, resultA, resA, reduceIte, reduceCtorEq, Nat.reduceAdd, Nat.reduceLT, Nat.reduceEqDiff, UInt8.reduceToNat, t2], by simp only [rB, rP, rQ, boolA, intA, resultA, resA, reduceIte, reduceCtorEq, Nat.reduceAdd, Nat.reduceLT, Nat.reduceEqDiff, UInt8.reduceToNat], hE.trans hE3, hB3, c4, hf⟩
              | true =>
                rw [k2, cond_true] at hn0
                repeat (first | with_reducible (refine w_one H ?_; constructor) | simp only [rB, rP, rQ, boolA, intA, resultA, resA, reduceIte, reduceCtorEq, Nat.reduceAdd, Nat.reduceLT, Nat.reduceEqDiff, UInt8.reduceToNat, pe3, pf3, fa_en0, fa_en1, fa_en2, fa_en3, fa_enO, ld_9, ld_3, ldE0, ldE1, ce_0, ce_1, t1, t2, t7, c3, c4, b_nei, k1, k2])
                refine pbelow_c H (by have := hpre a hmem; omega) ?_
                cases k3 : belowB e.1 a.1 with
                | false =>
                  rw [k3] at hn0
                  have hf := (fin _ hn0).1 rfl
                  repeat (first | with_reducible (refine w_one H ?_; constructor) | simp only [rB, rP, rQ, boolA, intA, resultA, resA, reduceIte, reduceCtorEq, Nat.reduceAdd, Nat.reduceLT, Nat.reduceEqDiff, UInt8.reduceToNat, pe3, pf3, fa_en0, fa_en1, fa_en2, fa_en3, fa_enO, ld_9, ld_3, ldE0, ldE1, ce_0, ce_1, t1, t2, t7, c3, c4, b_nei, k1, k2, k3, b_minus, e2])
                  exact ih n _ _ (Nat.lt_succ_self n) ⟨by omega, by simp only [rB, rP, rQ, boolA, intA, resultA, resA, reduceIte, reduceCtorEq, Nat.reduceAdd, Nat.reduceLT, Nat.reduceEqDiff, UInt8.reduceToNat, t1], by simp only [rB, rP, rQ, boolA, intA, resultA, resA, reduceIte, reduceCtorEq, Nat.reduceAdd, Nat.reduceLT, Nat.reduceEqDiff, UInt8.reduceToNat, t2], by simp only [rB, rP, rQ, boolA, intA, resultA, resA, reduceIte, reduceCtorEq, Nat.reduceAdd, Nat.reduceLT, Nat.reduceEqDiff, UInt8.reduceToNat], hE.trans hE3, hB3, c4, hf⟩
                | true =>
                  rw [k3] at hn0
                  have hf := (fin _ hn0).2 rfl
                  rw [hf] at hk
                  repeat (first | with_reducible (refine w_one H ?_; constructor) | simp only [rB, rP, rQ, boolA, intA, resultA, resA, reduceIte, reduceCtorEq, Nat.reduceAdd, Nat.reduceLT, Nat.reduceEqDiff, UInt8.reduceToNat, pe3, pf3, fa_en0, fa_en1, fa_en2, fa_en3, fa_enO, ld_9, ld_3, ldE0, ldE1, ce_0, ce_1, t1, t2, t7, c3, c4, b_nei, k1, k2, k3, Tryz.results159])
                  exact hk s3 (hE.trans hE3) hB3
        · obtain ⟨n, hn⟩ : ∃ n, pre.length = n + 1 := ⟨pre.length - 1, by have := List.length_pos_iff.mpr hz; omega⟩
          have g1 : decide ((pre.length : Int) > 0) = true := by rw [decide_eq_true_eq]; omega
          have ew : IntKind.i64.wrap ((pre.length : Int) - 1) = ((n : Nat) : Int) := by rw [ew]; omega
          have en : ((n : Nat) : Int) = (pre.length : Int) - 1 := by omega
          have hka : pre[n]? = some pre[n] := List.getElem?_eq_getElem (by omega)
          have hka' : pre[pre.length - 1]? = some pre[n] := by rw [show pre.length - 1 = n from by omega]; exact hka
          have hma : pre[n].1.length ≤ 140 := hpre _ (List.getElem_mem _)
          unfold aheadB at hk
          rw [hka'] at hk
          generalize pre[n] = a at hka hma hk
          simp only at hk
          obtain ⟨id, o, y1, y2, y3, y4, -⟩ := hV1.idx hka
          have pa := parts_le (b := a.1)
          have pb := parts_le (b := e.1)
          repeat (first | with_reducible (refine w_one H ?_; constructor) | simp only [rB, rP, rQ, boolA, intA, resultA, resA, reduceIte, reduceCtorEq, Nat.reduceAdd, Nat.reduceLT, Nat.reduceEqDiff, UInt8.reduceToNat, pe3, pf3, c1, fa_en0, fa_en1, fa_en2, fa_en3, fa_enO, ld_9, ld_3, ldE0, ce_0, f1, ec, outC, b_nei, g0, b_eqs, b_nes0, h1, h2, Bool.not_true, vl, vi, b_gt, g1, b_minus, ew, y1, y3, y4, beq_cel] | (with_reducible refine w_plan H (i := 4) (.take 0 (.take 1 (.take 2 (.take 3 (.take 4 (.take 5 (.take 6 (.take 7 (.take 8 (.take 9 (.take 10 (.take 11 (.take 12 (.alt 13 [0, 1, 2, 3, 4, 5, 6, 7, 8, 9, 10, 11, 12] (.take 14 (.take 15 (.take 16 (.done)))) (.yes))))))))))))))) rfl (by kernel_rfl) ?_))
          refine compare_c H hB1 (by omega) (by omega) (by omega) (by omega) (fun s2 hE2 hB2 => ?_)
          have hV2 := hV1.ext hB1 hE2
          have c2 := (hE2.2 _ (hB1 _ _ c1)).trans c1
          have hEs2 := hE1.trans hE2
          cases g4 : decide (cmpP a.1 e.1 ≥ 0) with
          | true =>
            rw [g4, cond_true] at hk
            repeat (first | with_reducible (refine w_one H ?_; constructor) | simp only [rB, rP, rQ, boolA, intA, resultA, resA, reduceIte, reduceCtorEq, Nat.reduceAdd, Nat.reduceLT, Nat.reduceEqDiff, UInt8.reduceToNat, pe3, pf3, b_ge, g4, Tryz.results159])
            exact hk s2 hEs2 hB2
          | false =>
            rw [g4, cond_false] at hk
            repeat (first | with_reducible (refine w_one H ?_; constructor) | simp only [rB, rP, rQ, boolA, intA, resultA, resA, reduceIte, reduceCtorEq, Nat.reduceAdd, Nat.reduceLT, Nat.reduceEqDiff, UInt8.reduceToNat, pe3, pf3, b_ge, g4, vl, vi, b_minus, ew])
            refine w_loop_ind H (fun n t s' => n ≤ pre.length ∧ tg t 1 = V ∧ tg t 2 = .ptr s.nx 0 ∧ tg t 7 = .raw (.int .i64 ((n : Int) - 1)) ∧ Ext s s' ∧ Below0 s' ∧ s'.h.get s.nx = some (.cells (celE e) 25 0) ∧ pre.any (hitB e) = (pre.take n).any (hitB e)) (n := pre.length)
              ⟨Nat.le_refl _, by simp only [rB, rP, rQ, boolA, intA, resultA, resA, reduceIte, reduceCtorEq, Nat.reduceAdd, Nat.reduceLT, Nat.reduceEqDiff, UInt8.reduceToNat], by simp only [rB, rP, rQ, boolA, intA, resultA, resA, reduceIte, reduceCtorEq, Nat.reduceAdd, Nat.reduceLT, Nat.reduceEqDiff, UInt8.reduceToNat], by simp only [rB, rP, rQ, boolA, intA, resultA, resA, reduceIte, reduceCtorEq, Nat.reduceAdd, Nat.reduceLT, Nat.reduceEqDiff, UInt8.reduceToNat, en], ‹_›, ‹_›, ‹_›, by rw [List.take_length]⟩ ?_
            rintro n t s' ih ⟨hn, t1, t2, t7, hE, hB', hc1, hany⟩
            cases n with
            | zero =>
              have g3 : decide (((0 : Nat) : Int) - 1 ≥ 0) = false := rfl
              repeat (first | with_reducible (refine w_one H ?_; constructor) | simp only [rB, rP, rQ, boolA, intA, resultA, resA, reduceIte, reduceCtorEq, Nat.reduceAdd, Nat.reduceLT, Nat.reduceEqDiff, UInt8.reduceToNat, pe3, pf3, fa_en0, fa_en1, fa_en2, fa_en3, fa_enO, ld_9, ld_3, ldE0, ldE1, ce_0, ce_1, t1, t2, t7, b_ge, g3, Tryz.results159])
              have := hk s' hE hB'
              rw [hany] at this
              exact this
            | succ n =>
              have e1 : ((n + 1 : Nat) : Int) - 1 = (n : Int) := by omega
              rw [e1] at t7
              have g3 : decide ((n : Int) ≥ 0) = true := by rw [decide_eq_true_eq]; omega
              have hV' := hV.ext hB hE
              have hlt : n < pre.length := by omega
              have hke : pre[n]? = some pre[n] := List.getElem?_eq_getElem hlt
              have hmem : pre[n] ∈ pre := List.getElem_mem hlt
              rw [List.take_add_one, hke] at hany
              generalize pre[n] = a at hke hmem hany
              simp only [Option.toList_some, List.any_append, List.any_cons, List.any_nil, Bool.or_false] at hany
              obtain ⟨id, o, y1, y2, y3, y4, -⟩ := hV'.idx hke
              have e2 : IntKind.i64.wrap ((n : Int) - 1) = (n : Int) - 1 := Go.IntWalk.i64_in _ (by omega)
              have hB3 : Below0 { h := (s'.alloc (.cells [.str [], .raw (.int .i64 0), .raw (.int .i64 0), .str []] 25 0)).h.set s'.nx (.cells (celE a) 25 0), nx := s'.nx + 1 } := below_putS hB'
              have hE3 : Ext s' { h := (s'.alloc (.cells [.str [], .raw (.int .i64 0), .raw (.int .i64 0), .str []] 25 0)).h.set s'.nx (.cells (celE a) 25 0), nx := s'.nx + 1 } := ext_putS
              have c3 : ({ h := (s'.alloc (.cells [.str [], .raw (.int .i64 0), .raw (.int .i64 0), .str []] 25 0)).h.set s'.nx (.cells (celE a) 25 0), nx := s'.nx + 1 } : St).h.get s'.nx = some (.cells (celE a) 25 0) := hs_same
              have c4 := (hE3.2 _ (hB' _ _ hc1)).trans hc1
              repeat (first | with_reducible (refine w_one H ?_; constructor) | simp only [rB, rP, rQ, boolA, intA, resultA, resA, reduceIte, reduceCtorEq, Nat.reduceAdd, Nat.reduceLT, Nat.reduceEqDiff, UInt8.reduceToNat, pe3, pf3, fa_en0, fa_en1, fa_en2, fa_en3, fa_enO, ld_9, ld_3, ldE0, ldE1, ce_0, ce_1, t1, t2, t7, b_ge, g3, y1, y2, y3, y4, all_en, st_en, stA_en, ld_en, ldG_en])
              generalize ({ h := (s'.alloc (.cells [.str [], .raw (.int .i64 0), .raw (.int .i64 0), .str []] 25 0)).h.set s'.nx (.cells (celE a) 25 0), nx := s'.nx + 1 } : St) = s3 at *
              have hn0 : hitB e a = (bif a.2.1 != 1 then (bif a.2.1 != 5 then belowB e.1 a.1 else false) else false) := rfl
              have fin : ∀ b, hitB e a = b → (b = false → pre.any (hitB e) = (pre.take n).any (hitB e)) ∧ (b = true → pre.any (hitB e) = true) := by
                intro b hb
                rw [hany, hb]
                cases b <;> simp
              cases k1 : a.2.1 != 1 with
              | false =>
                rw [k1] at hn0
                have hf := (fin _ hn0).1 rfl
                repeat (first | with_reducible (refine w_one H ?_; constructor) | simp only [rB, rP, rQ, boolA, intA, resultA, resA, reduceIte, reduceCtorEq, Nat.reduceAdd, Nat.reduceLT, Nat.reduceEqDiff, UInt8.reduceToNat, pe3, pf3, fa_en0, fa_en1, fa_en2, fa_en3, fa_enO, ld_9, ld_3, ldE0, ldE1, ce_0, ce_1, t1, t2, t7, c3, c4, b_nei, k1, b_minus, e2])
                exact ih n _ _ (Nat.lt_succ_self n) ⟨by omega, by simp only [rB, rP, rQ, boolA, intA, resultA, resA, reduceIte, reduceCtorEq, Nat.reduceAdd, Nat.reduceLT, Nat.reduceEqDiff, UInt8.reduceToNat, t1], by simp only [rB, rP, rQ, boolA, intA, resultA, resA, reduceIte, reduceCtorEq, Nat.reduceAdd, Nat.reduceLT, Nat.reduceEqDiff, UInt8.reduceToNat, t2], by simp only [rB, rP, rQ, boolA, intA, resultA, resA, reduceIte, reduceCtorEq, Nat.reduceAdd, Nat.reduceLT, Nat.reduceEqDiff, UInt8.reduceToNat], hE.trans hE3, hB3, c4, hf⟩
              | true =>
                rw [k1, cond_true] at hn0
                cases k2 : a.2.1 != 5 with
                | false =>
                  rw [k2] at hn0
                  have hf := (fin _ hn0).1 rfl
                  repeat (first | with_reducible (refine w_one H ?_; constructor) | simp only [rB, rP, rQ, boolA, intA, resultA, resA, reduceIte, reduceCtorEq, Nat.reduceAdd, Nat.reduceLT, Nat.reduceEqDiff, UInt8.reduceToNat, pe3, pf3, fa_en0, fa_en1, fa_en2, fa_en3, fa_enO, ld_9, ld_3, ldE0, ldE1, ce_0, ce_1, t1, t2, t7, c3, c4, b_nei, k1, k2, b_minus, e2])
                  exact ih n _ _ (Nat.lt_succ_self n) ⟨by omega, by simp only [rB, rP, rQ, boolA, intA, resultA, resA, reduceIte, reduceCtorEq, Nat.reduceAdd, Nat.reduceLT, Nat.reduceEqDiff, UInt8.reduceToNat, t1], by simp only [rB, rP, rQ, boolA, intA, resultA, resA, reduceIte, reduceCtorEq, Nat.reduceAdd, Nat.reduceLT, Nat.reduceEqDiff, UInt8.reduceToNat, t2], by simp only [rB, rP, rQ, boolA, intA, resultA, resA, reduceIte, reduceCtorEq, Nat.reduceAdd, Nat.reduceLT, Nat.reduceEqDiff, UInt8.reduceToNat], hE.trans hE3, hB3, c4, hf⟩
                | true =>
                  rw [k2, cond_true] at hn0
                  repeat (first | with_reducible (refine w_one H ?_; constructor) | simp only [rB, rP, rQ, boolA, intA, resultA, resA, reduceIte, reduceCtorEq, Nat.reduceAdd, Nat.reduceLT, Nat.reduceEqDiff, UInt8.reduceToNat, pe3, pf3, fa_en0, fa_en1, fa_en2, fa_en3, fa_enO, ld_9, ld_3, ldE0, ldE1, ce_0, ce_1, t1, t2, t7, c3, c4, b_nei, k1, k2])
                  refine pbelow_c H (by have := hpre a hmem; omega) ?_
                  cases k3 : belowB e.1 a.1 with
                  | false =>
                    rw [k3] at hn0
                    have hf := (fin _ hn0).1 rfl
                    repeat (first | with_reducible (refine w_one H ?_; constructor) | simp only [rB, rP, rQ, boolA, intA, resultA, resA, reduceIte, reduceCtorEq, Nat.reduceAdd, Nat.reduceLT, Nat.reduceEqDiff, UInt8.reduceToNat, pe3, pf3, fa_en0, fa_en1, fa_en2, fa_en3, fa_enO, ld_9, ld_3, ldE0, ldE1, ce_0, ce_1, t1, t2, t7, c3, c4, b_nei, k1, k2, k3, b_minus, e2])
                    exact ih n _ _ (Nat.lt_succ_self n) ⟨by omega, by simp only [rB, rP, rQ, boolA, intA, resultA, resA, reduceIte, reduceCtorEq, Nat.reduceAdd, Nat.reduceLT, Nat.reduceEqDiff, UInt8.reduceToNat, t1], by simp only [rB, rP, rQ, boolA, intA, resultA, resA, reduceIte, reduceCtorEq, Nat.reduceAdd, Nat.reduceLT, Nat.reduceEqDiff, UInt8.reduceToNat, t2], by simp only [rB, rP, rQ, boolA, intA, resultA, resA, reduceIte, reduceCtorEq, Nat.reduceAdd, Nat.reduceLT, Nat.reduceEqDiff, UInt8.reduceToNat], hE.trans hE3, hB3, c4, hf⟩
                  | true =>
                    rw [k3] at hn0
                    have hf := (fin _ hn0).2 rfl
                    rw [hf] at hk
                    repeat (first | with_reducible (refine w_one H ?_; constructor) | simp only [rB, rP, rQ, boolA, intA, resultA, resA, reduceIte, reduceCtorEq, Nat.reduceAdd, Nat.reduceLT, Nat.reduceEqDiff, UInt8.reduceToNat, pe3, pf3, fa_en0, fa_en1, fa_en2, fa_en3, fa_enO, ld_9, ld_3, ldE0, ldE1, ce_0, ce_1, t1, t2, t7, c3, c4, b_nei, k1, k2, k3, Tryz.results159])
                    exact hk s3 (hE.trans hE3) hB3
  · have g0 : ((c : Int) != 0) = true := by simp; omega
    rw [beq_ne hc] at hk
    repeat (first | with_reducible (refine w_one H ?_; constructor) | simp only [rB, rP, rQ, boolA, intA, resultA, resA, reduceIte, reduceCtorEq, Nat.reduceAdd, Nat.reduceLT, Nat.reduceEqDiff, UInt8.reduceToNat, pe3, pf3, c1, fa_en0, fa_en1, fa_en2, fa_en3, ld_9, ld_3, ldE0, ce_0, f1, ec, outC, b_nei, g0, Tryz.results159])
    exact hk s1 hE1 hB1
end Go.AX
namespace Go.AX
open Go.Proofs Go.RowKit
set_option maxRecDepth 1000000
set_option maxHeartbeats 400000000
set_option linter.unusedSimpArgs false
set_option linter.unusedVariables false
def faultL (e : En) (pre : List En) : Int := bif knownB e.2.1 then (bif pathedL e pre != 0 then pathedL e pre else bif modedB e then (bif sizedB e.2.1 (e.2.2.2.length : Int) then (bif e.2.1 == 3 then (bif hasB e.2.2.2 0 then 1308 else 0) else 0) else 1307) else 1306) else 1302
theorem fault_c {s : St} (H : Ok TE Tryz.prog pr3) (hB : Below0 s) {V : AV} {e : En} {pre : List En} (hV : EsV s V pre) (hp : e.1.length ≤ 1048575) (hpre : ∀ a ∈ pre, a.1.length ≤ 140) (hlen : pre.length ≤ 1000000) {kr kp : AV → St → Bool} (hk : ∀ s', Ext s s' → Below0 s' → kr (.raw (.int .i64 (faultL e pre))) s' = true) :
    (sem Tryz.prog).call 121 [agE e, V] s kr kp = true := by
  refine w_call H 37 fn_121 rfl rfl ?_
  have hB1 : Below0 (s.alloc (.cells (celE e) 25 0)) := below_al hB _
  have hE1 : Ext s (s.alloc (.cells (celE e) 25 0)) := Ext.alloc s _
  have hV1 := hV.ext hB hE1
  have c1 : (s.alloc (.cells (celE e) 25 0)).h.get s.nx = some (.cells (celE e) 25 0) := al_same
  have hag : agE e = .agg (celE e) := rfl
  unfold faultL at hk
  rw [hag]
  repeat (first | with_reducible (refine w_one H ?_; constructor) | simp only [rB, rP, rQ, boolA, intA, resultA, resA, reduceIte, reduceCtorEq, Nat.reduceAdd, Nat.reduceLT, Nat.reduceEqDiff, UInt8.reduceToNat, pe3, pf3, cells_agg])
  generalize s.alloc (.cells (celE e) 25 0) = s1 at *
  repeat (first | with_reducible (refine w_one H ?_; constructor) | simp only [rB, rP, rQ, boolA, intA, resultA, resA, reduceIte, reduceCtorEq, Nat.reduceAdd, Nat.reduceLT, Nat.reduceEqDiff, UInt8.reduceToNat, pe3, pf3, c1, fa_en0, fa_en1, fa_en2, fa_en3, ld_9, ld_3, ldE0, ldE1, ldE2, ldE3, ce_0, ce_1])
  refine known_c H ?_
  cases h1 : knownB e.2.1 with
  | false =>
    rw [h1] at hk
    repeat (first | with_reducible (refine w_one H ?_; constructor) | simp only [rB, rP, rQ, boolA, intA, resultA, resA, reduceIte, reduceCtorEq, Nat.reduceAdd, Nat.reduceLT, Nat.reduceEqDiff, UInt8.reduceToNat, pe3, pf3, Bool.not_false, Tryz.results121])
    exact hk s1 hE1 hB1
  | true =>
  rw [h1, cond_true] at hk
  repeat (first | with_reducible (refine w_one H ?_; constructor) | simp only [rB, rP, rQ, boolA, intA, resultA, resA, reduceIte, reduceCtorEq, Nat.reduceAdd, Nat.reduceLT, Nat.reduceEqDiff, UInt8.reduceToNat, pe3, pf3, Bool.not_true, c1, ld_en, ldG_en, beq_cel])
  refine pathed_c H hB1 hV1 hp hpre hlen (fun s2 hE2 hB2 => ?_)
  have c2 := (hE2.2 _ (hB1 _ _ c1)).trans c1
  have hEs2 := hE1.trans hE2
  cases h2 : pathedL e pre != 0 with
  | true =>
    rw [h2, cond_true] at hk
    repeat (first | with_reducible (refine w_one H ?_; constructor) | simp only [rB, rP, rQ, boolA, intA, resultA, resA, reduceIte, reduceCtorEq, Nat.reduceAdd, Nat.reduceLT, Nat.reduceEqDiff, UInt8.reduceToNat, pe3, pf3, b_nei, h2, Tryz.results121])
    exact hk s2 hEs2 hB2
  | false =>
  rw [h2, cond_false] at hk
  repeat (first | with_reducible (refine w_one H ?_; constructor) | simp only [rB, rP, rQ, boolA, intA, resultA, resA, reduceIte, reduceCtorEq, Nat.reduceAdd, Nat.reduceLT, Nat.reduceEqDiff, UInt8.reduceToNat, pe3, pf3, b_nei, h2, c2, ld_en, ldG_en, beq_cel])
  refine moded_c H hB2 (fun s3 hE3 hB3 => ?_)
  have c3 := (hE3.2 _ (hB2 _ _ c2)).trans c2
  have hEs3 := hEs2.trans hE3
  cases h3 : modedB e with
  | false =>
    rw [h3, cond_false] at hk
    repeat (first | with_reducible (refine w_one H ?_; constructor) | simp only [rB, rP, rQ, boolA, intA, resultA, resA, reduceIte, reduceCtorEq, Nat.reduceAdd, Nat.reduceLT, Nat.reduceEqDiff, UInt8.reduceToNat, pe3, pf3, Bool.not_false, Tryz.results121])
    exact hk s3 hEs3 hB3
  | true =>
  rw [h3, cond_true] at hk
  repeat (first | with_reducible (refine w_one H ?_; constructor) | simp only [rB, rP, rQ, boolA, intA, resultA, resA, reduceIte, reduceCtorEq, Nat.reduceAdd, Nat.reduceLT, Nat.reduceEqDiff, UInt8.reduceToNat, pe3, pf3, Bool.not_true, c3, fa_en0, fa_en1, fa_en2, fa_en3, ld_9, ld_3, ldE0, ldE1, ldE2, ldE3, ce_0, ce_1, ce_2, ce_3, len_str])
  refine sizedA_c H ?_
  cases h4 : sizedB e.2.1 (e.2.2.2.length : Int) with
  | false =>
    rw [h4, cond_false] at hk
    repeat (first | with_reducible (refine w_one H ?_; constructor) | simp only [rB, rP, rQ, boolA, intA, resultA, resA, reduceIte, reduceCtorEq, Nat.reduceAdd, Nat.reduceLT, Nat.reduceEqDiff, UInt8.reduceToNat, pe3, pf3, Bool.not_false, Tryz.results121])
    exact hk s3 hEs3 hB3
  | true =>
  rw [h4, cond_true] at hk
  cases h5 : e.2.1 == 3 with
  | false =>
    rw [h5, cond_false] at hk
    repeat (first | with_reducible (refine w_one H ?_; constructor) | simp only [rB, rP, rQ, boolA, intA, resultA, resA, reduceIte, reduceCtorEq, Nat.reduceAdd, Nat.reduceLT, Nat.reduceEqDiff, UInt8.reduceToNat, pe3, pf3, Bool.not_true, c3, fa_en0, fa_en1, fa_en2, fa_en3, ld_9, ld_3, ldE0, ldE1, ldE2, ldE3, ce_0, ce_1, ce_2, ce_3, b_eqi, h5, Tryz.results121])
    exact hk s3 hEs3 hB3
  | true =>
  rw [h5, cond_true] at hk
  repeat (first | with_reducible (refine w_one H ?_; constructor) | simp only [rB, rP, rQ, boolA, intA, resultA, resA, reduceIte, reduceCtorEq, Nat.reduceAdd, Nat.reduceLT, Nat.reduceEqDiff, UInt8.reduceToNat, pe3, pf3, Bool.not_true, c3, fa_en0, fa_en1, fa_en2, fa_en3, ld_9, ld_3, ldE0, ldE1, ldE2, ldE3, ce_0, ce_1, ce_2, ce_3, b_eqi, h5])
  refine contains_c H (by decide) ?_
  cases h6 : hasB e.2.2.2 0 with
  | false =>
    rw [h6, cond_false] at hk
    repeat (first | with_reducible (refine w_one H ?_; constructor) | simp only [rB, rP, rQ, boolA, intA, resultA, resA, reduceIte, reduceCtorEq, Nat.reduceAdd, Nat.reduceLT, Nat.reduceEqDiff, UInt8.reduceToNat, pe3, pf3, Tryz.results121])
    exact hk s3 hEs3 hB3
  | true =>
    rw [h6, cond_true] at hk
    repeat (first | with_reducible (refine w_one H ?_; constructor) | simp only [rB, rP, rQ, boolA, intA, resultA, resA, reduceIte, reduceCtorEq, Nat.reduceAdd, Nat.reduceLT, Nat.reduceEqDiff, UInt8.reduceToNat, pe3, pf3, Tryz.results121])
    exact hk s3 hEs3 hB3
theorem fault_len {e : En} {pre : List En} (h : faultL e pre = 0) : e.1.length ≤ 140 := by
  unfold faultL at h
  cases h1 : knownB e.2.1 with
  | false => rw [h1] at h; cases h
  | true =>
    rw [h1, cond_true] at h
    cases h2 : pathedL e pre != 0 with
    | true =>
      rw [h2, cond_true] at h
      rw [h] at h2
      cases h2
    | false =>
      have h0 : pathedL e pre = 0 := by simpa using h2
      unfold pathedL at h0
      have hl := cleanL_le (x := []) (y := 47 :: e.1)
      generalize cleanL [] (47 :: e.1) = x at h0 hl
      obtain ⟨q, c⟩ := x
      simp only at h0 hl
      cases hc : Nat.beq c 0 with
      | false => rw [hc] at h0; cases h0
      | true =>
        rw [hc, cond_true] at h0
        cases h2 : eqB e.1 [] with
        | true => rw [h2] at h0; cases h0
        | false =>
          rw [h2, cond_false] at h0
          cases h3 : eqB q e.1 with
          | false => rw [h3] at h0; cases h0
          | true =>
            rw [eqB_dec] at h3
            rw [← of_decide_eq_true h3]
            exact hl
def mayR (es : List En) : Nat → List En → Int × Int
  | _, [] => (0, 0)
  | k, e :: l => bif faultL e (es.take k) != 0 then ((k : Int), faultL e (es.take k)) else mayR es (k + 1) l
def mayL (es : List En) : Int × Int := bif decide ((es.length : Int) > 256) then (0, 1309) else mayR es 0 es
end Go.AX
namespace Go.AX
open Go.Proofs Go.RowKit
set_option maxRecDepth 1000000
set_option maxHeartbeats 400000000
set_option linter.unusedSimpArgs false
set_option linter.unusedVariables false
theorem fa_ly0 {x : Nat} : fieldAddrA TE 28 (.ptr x 0) 0 = some (.ptr x 0) := by kernel_rfl
theorem may_all {s : St} (H : Ok TE Tryz.prog pr3) (hB : Below0 s) {V : AV} {es : List En} (hV : EsV s V es) (hc : CapV V) (hp : ∀ e ∈ es, e.1.length ≤ 1048575) (h1 : V.cells = [V]) (h2 : V.one = true) {kr kp : AV → St → Bool}
    (hk : ∀ s', Ext s s' → Below0 s' → kr (.tuple [.raw (.int .i64 (mayL es).1), .raw (.int .i64 (mayL es).2)]) s' = true) :
    (sem Tryz.prog).call 72 [.agg [V]] s kr kp = true := by
  refine w_call H 30 fn_72 rfl rfl ?_
  have hB1 : Below0 (s.alloc (.cells [V] 28 0)) := below_al hB _
  have hE1 : Ext s (s.alloc (.cells [V] 28 0)) := Ext.alloc s _
  have c1 : (s.alloc (.cells [V] 28 0)).h.get s.nx = some (.cells [V] 28 0) := al_same
  unfold mayL at hk
  have vl := hV.len
  have vi := hV.ids
  repeat (first | with_reducible (refine w_one H ?_; constructor) | simp only [rB, rP, rQ, boolA, intA, resultA, resA, reduceIte, reduceCtorEq, Nat.reduceAdd, Nat.reduceLT, Nat.reduceEqDiff, UInt8.reduceToNat, pe3, pf3, cells_agg])
  generalize s.alloc (.cells [V] 28 0) = s1 at *
  cases hl : decide ((es.length : Int) > 256) with
  | true =>
    rw [hl, cond_true] at hk
    repeat (first | with_reducible (refine w_one H ?_; constructor) | simp only [rB, rP, rQ, boolA, intA, resultA, resA, reduceIte, reduceCtorEq, Nat.reduceAdd, Nat.reduceLT, Nat.reduceEqDiff, UInt8.reduceToNat, pe3, pf3, c1, fa_ly0, ld_26, vl, vi, b_gt, hl, Tryz.results72])
    exact hk s1 hE1 hB1
  | false =>
  rw [hl, cond_false] at hk
  have hl := of_decide_eq_false hl
  have hl' : decide ((es.length : Int) > 256) = false := decide_eq_false hl
  repeat (first | with_reducible (refine w_one H ?_; constructor) | simp only [rB, rP, rQ, boolA, intA, resultA, resA, reduceIte, reduceCtorEq, Nat.reduceAdd, Nat.reduceLT, Nat.reduceEqDiff, UInt8.reduceToNat, pe3, pf3, c1, fa_ly0, ld_26, vl, vi, b_gt, hl'])
  refine w_loop_ind H (fun n t s' => ∃ k : Nat, n + k = es.length ∧ tg t 1 = .ptr s.nx 0 ∧ tg t 12 = V ∧ tg t 13 = .raw (.int .i64 (es.length : Int)) ∧ tg t 14 = .raw (.int .i64 (k : Int)) ∧ Ext s s' ∧ Below0 s' ∧ s'.h.get s.nx = some (.cells [V] 28 0) ∧ (∀ a ∈ es.take k, a.1.length ≤ 140) ∧ mayR es 0 es = mayR es k (es.drop k)) (n := es.length)
    ⟨0, rfl, by simp only [rB, rP, rQ, boolA, intA, resultA, resA, reduceIte, reduceCtorEq, Nat.reduceAdd, Nat.reduceLT, Nat.reduceEqDiff, UInt8.reduceToNat], by simp only [rB, rP, rQ, boolA, intA, resultA, resA, reduceIte, reduceCtorEq, Nat.reduceAdd, Nat.reduceLT, Nat.reduceEqDiff, UInt8.reduceToNat], by simp only [rB, rP, rQ, boolA, intA, resultA, resA, reduceIte, reduceCtorEq, Nat.reduceAdd, Nat.reduceLT, Nat.reduceEqDiff, UInt8.reduceToNat], by simp only [rB, rP, rQ, boolA, intA, resultA, resA, reduceIte, reduceCtorEq, Nat.reduceAdd, Nat.reduceLT, Nat.reduceEqDiff, UInt8.reduceToNat]; rfl, ‹_›, ‹_›, ‹_›, by simp, rfl⟩ ?_
  rintro n t s' ih ⟨k, hn, t1, t12, t13, t14, hE, hB', hc1, hpre, hm⟩
  cases n with
  | zero =>
    have g0 : decide ((k : Int) < (es.length : Int)) = false := by rw [decide_eq_false_iff_not]; omega
    rw [List.drop_eq_nil_of_le (by omega)] at hm
    rw [hm] at hk
    repeat (first | with_reducible (refine w_one H ?_; constructor) | simp only [rB, rP, rQ, boolA, intA, resultA, resA, reduceIte, reduceCtorEq, Nat.reduceAdd, Nat.reduceLT, Nat.reduceEqDiff, UInt8.reduceToNat, pe3, pf3, t1, t12, t13, t14, b_lt, g0, Tryz.results72])
    exact hk s' hE hB'
  | succ n =>
    have g0 : decide ((k : Int) < (es.length : Int)) = true := by rw [decide_eq_true_eq]; omega
    have hlt : k < es.length := by omega
    have hke : es[k]? = some es[k] := List.getElem?_eq_getElem hlt
    have hmem : es[k] ∈ es := List.getElem_mem hlt
    have htk : es.take (k + 1) = es.take k ++ [es[k]] := by rw [List.take_add_one, hke]; rfl
    rw [List.drop_eq_getElem_cons hlt] at hm
    generalize es[k] = e at hke hmem hm htk
    have hV' := hV.ext hB hE
    obtain ⟨id, o, y1, y2, y3, y4, -⟩ := hV'.idx hke
    obtain ⟨V', z1, z2⟩ := hV'.upto hc hlt
    have hB3 : Below0 { h := (s'.alloc (.cells [.str [], .raw (.int .i64 0), .raw (.int .i64 0), .str []] 25 0)).h.set s'.nx (.cells (celE e) 25 0), nx := s'.nx + 1 } := below_putS hB'
    have hE3 : Ext s' { h := (s'.alloc (.cells [.str [], .raw (.int .i64 0), .raw (.int .i64 0), .str []] 25 0)).h.set s'.nx (.cells (celE e) 25 0), nx := s'.nx + 1 } := ext_putS
    have c3 : ({ h := (s'.alloc (.cells [.str [], .raw (.int .i64 0), .raw (.int .i64 0), .str []] 25 0)).h.set s'.nx (.cells (celE e) 25 0), nx := s'.nx + 1 } : St).h.get s'.nx = some (.cells (celE e) 25 0) := hs_same
    have c4 := (hE3.2 _ (hB' _ _ hc1)).trans hc1
    have z3 := z2.ext hB' hE3
    have z4 := z2.ids
    have ew : IntKind.i64.wrap ((k : Int) + 1) = ((k + 1 : Nat) : Int) := by
      rw [show (k : Int) + 1 = ((k + 1 : Nat) : Int) from by simp]
      exact wrap_nat (by omega)
    repeat (first | with_reducible (refine w_one H ?_; constructor) | simp only [rB, rP, rQ, boolA, intA, resultA, resA, reduceIte, reduceCtorEq, Nat.reduceAdd, Nat.reduceLT, Nat.reduceEqDiff, UInt8.reduceToNat, pe3, pf3, t1, t12, t13, t14, b_lt, g0, y1, y2, y3, y4, all_en, st_en, stA_en, ld_en, ldG_en])
    generalize ({ h := (s'.alloc (.cells [.str [], .raw (.int .i64 0), .raw (.int .i64 0), .str []] 25 0)).h.set s'.nx (.cells (celE e) 25 0), nx := s'.nx + 1 } : St) = s3 at *
    have hEs := hE.trans hE3
    repeat (first | with_reducible (refine w_one H ?_; constructor) | simp only [rB, rP, rQ, boolA, intA, resultA, resA, reduceIte, reduceCtorEq, Nat.reduceAdd, Nat.reduceLT, Nat.reduceEqDiff, UInt8.reduceToNat, pe3, pf3, t1, t12, t13, t14, c3, c4, ld_en, ldG_en, beq_cel, fa_ly0, ld_26, z1, z4, vi] | (with_reducible refine w_plan H (i := 6) (.take 0 (.take 1 (.take 2 (.take 3 (.take 4 (.alt 5 [0, 1, 2, 3, 4] (.take 6 (.done)) (.yes))))))) rfl (by kernel_rfl) ?_))
    refine fault_c H hB3 z3 (hp e hmem) hpre (by rw [List.length_take]; omega) (fun s4 hE4 hB4 => ?_)
    have c5 := (hE4.2 _ (hB3 _ _ c4)).trans c4
    simp only [mayR] at hm
    cases hf : faultL e (es.take k) != 0 with
    | true =>
      rw [hf, cond_true] at hm
      rw [hm] at hk
      repeat (first | with_reducible (refine w_one H ?_; constructor) | simp only [rB, rP, rQ, boolA, intA, resultA, resA, reduceIte, reduceCtorEq, Nat.reduceAdd, Nat.reduceLT, Nat.reduceEqDiff, UInt8.reduceToNat, pe3, pf3, t1, t12, t13, t14, b_nei, hf, Tryz.results72])
      exact hk s4 (hEs.trans hE4) hB4
    | false =>
      rw [hf, cond_false] at hm
      have h0 : faultL e (es.take k) = 0 := by simpa using hf
      repeat (first | with_reducible (refine w_one H ?_; constructor) | simp only [rB, rP, rQ, boolA, intA, resultA, resA, reduceIte, reduceCtorEq, Nat.reduceAdd, Nat.reduceLT, Nat.reduceEqDiff, UInt8.reduceToNat, pe3, pf3, t1, t12, t13, t14, b_nei, hf, b_plus, ew])
      refine ih n _ _ (Nat.lt_succ_self n) ⟨k + 1, by omega, by simp only [rB, rP, rQ, boolA, intA, resultA, resA, reduceIte, reduceCtorEq, Nat.reduceAdd, Nat.reduceLT, Nat.reduceEqDiff, UInt8.reduceToNat, t1], by simp only [rB, rP, rQ, boolA, intA, resultA, resA, reduceIte, reduceCtorEq, Nat.reduceAdd, Nat.reduceLT, Nat.reduceEqDiff, UInt8.reduceToNat, t12], by simp only [rB, rP, rQ, boolA, intA, resultA, resA, reduceIte, reduceCtorEq, Nat.reduceAdd, Nat.reduceLT, Nat.reduceEqDiff, UInt8.reduceToNat, t13], by simp only [rB, rP, rQ, boolA, intA, resultA, resA, reduceIte, reduceCtorEq, Nat.reduceAdd, Nat.reduceLT, Nat.reduceEqDiff, UInt8.reduceToNat], hEs.trans hE4, hB4, c5, fun a ha => ?_, hm⟩
      rw [htk] at ha
      rcases List.mem_append.1 ha with ha | ha
      · exact hpre a ha
      · simp at ha
        rw [ha]
        exact fault_len h0
end Go.AX
namespace Go.AX
open Go.Proofs Go.RowKit
set_option maxRecDepth 1000000
set_option maxHeartbeats 400000000
set_option linter.unusedSimpArgs false
set_option linter.unusedVariables false
def mapG {α : Type} (f : α → AV) (l : List (List Nat × α)) : List (AV × AV) := l.map fun q => (.str q.1, f q.2)
def lookG {α : Type} (p : List Nat) : List (List Nat × α) → Option α
  | [] => none
  | (q, j) :: l => bif eqB p q then some j else lookG p l
def setG {α : Type} (p : List Nat) (j : α) : List (List Nat × α) → List (List Nat × α)
  | [] => [(p, j)]
  | (q, i) :: l => bif eqB p q then (p, j) :: l else (q, i) :: setG p j l
def delG {α : Type} (p : List Nat) : List (List Nat × α) → List (List Nat × α)
  | [] => []
  | (q, i) :: l => bif eqB p q then l else (q, i) :: delG p l
theorem findK_G {α : Type} {f : α → AV} {p : List Nat} : ∀ (l : List (List Nat × α)) (i : Nat), findK .string (.str p) (mapG f l) i = some (match lookG p l with | some j => some (i + (l.findIdx fun q => eqB p q.1), f j) | none => none)
  | [], _ => (rfl)
  | (q, j) :: l, i => by
    simp only [mapG, List.map_cons, findK, sameK, lookG]
    cases h : eqB p q with
    | true => simp [h, List.findIdx_cons]
    | false =>
      have ih := findK_G (f := f) (p := p) l (i + 1)
      simp only [mapG] at ih
      simp only [ih, cond_false, List.findIdx_cons, h]
      cases lookG p l with
      | none => rfl
      | some _ => simp; omega
theorem setL_G {α : Type} {f : α → AV} {p : List Nat} {j : α} : ∀ (l : List (List Nat × α)), lookG p l ≠ none → setL (mapG f l) (l.findIdx fun q => eqB p q.1) (.str p, f j) = mapG f (setG p j l)
  | [], h => absurd rfl h
  | (q, i) :: l, h => by
    simp only [lookG] at h
    simp only [mapG, List.map_cons, List.findIdx_cons, setG]
    cases he : eqB p q with
    | true => simp only [cond_true, setL, List.map_cons]
    | false =>
      rw [he] at h
      have ih := setL_G (f := f) (j := j) l h
      simp only [mapG] at ih
      simp only [cond_false, setL, ih, List.map_cons]
theorem setG_app {α : Type} {p : List Nat} {j : α} : ∀ (l : List (List Nat × α)), lookG p l = none → setG p j l = l ++ [(p, j)]
  | [], _ => rfl
  | (q, i) :: l, h => by
    simp only [lookG] at h
    simp only [setG]
    cases he : eqB p q with
    | true => rw [he] at h; cases h
    | false =>
      rw [he] at h
      simp only [cond_false, setG_app l h, List.cons_append]
theorem eraseL_G {α β : Type} {f : α → β} {g : List Nat × α → β} {p : List Nat} : ∀ (l : List (List Nat × α)), lookG p l ≠ none → eraseL (l.map g) (l.findIdx fun q => eqB p q.1) = (delG p l).map g
  | [], h => absurd rfl h
  | (q, j) :: l, h => by
    simp only [lookG] at h
    simp only [List.map_cons, List.findIdx_cons, delG]
    cases he : eqB p q with
    | true => simp only [cond_true, eraseL]
    | false =>
      rw [he] at h
      have ih := eraseL_G (f := f) (g := g) l h
      simp only [cond_false, eraseL, ih, List.map_cons]
theorem delG_none {α : Type} {p : List Nat} : ∀ (l : List (List Nat × α)), lookG p l = none → delG p l = l
  | [], _ => rfl
  | (q, i) :: l, h => by
    simp only [lookG] at h
    simp only [delG]
    cases he : eqB p q with
    | true => rw [he] at h; cases h
    | false =>
      rw [he] at h
      simp only [cond_false, delG_none l h]
def numA (n : Int) : AV := .raw (.int .i64 n)
def enZ : En := ([], 0, 0, [])
theorem lk_ne {s : St} {mp : Nat} {l : List (List Nat × En)} {p : List Nat} (h : s.h.get mp = some (.map (mapG agE l))) : lookupA TE s 196 (.map mp) (.str p) false = some (agE ((lookG p l).getD enZ)) := by
  have hz : zeroOf TE 25 = some (agE enZ) := by kernel_rfl
  have e : lookupA TE s 196 (.map mp) (.str p) false = (match (some { desc := .string, size := 1, bytes := 16, zero := some (.string ⟨#[]⟩) } : Option TI), mapsA s (.map mp) with
      | some ki, some es =>
        bif keyOk ki.desc then
          match findK ki.desc (.str p) es 0 with
          | some (some (_, v)) => some (bif false then .tuple [v, boolA true] else v)
          | some none => match zeroOf TE 25 with
            | some z => some (bif false then .tuple [z, boolA false] else z)
            | none => none
          | none => none
        else none
      | _, _ => none) := by kernel_rfl
  rw [e]
  simp only [mapsA, h, findK_G, keyOk, cond_true, cond_false, hz]
  cases lookG p l <;> rfl
theorem lk_nt {s : St} {mp : Nat} {l : List (List Nat × En)} {p : List Nat} (h : s.h.get mp = some (.map (mapG agE l))) : lookupA TE s 196 (.map mp) (.str p) true = some (.tuple [agE ((lookG p l).getD enZ), .raw (.bool (lookG p l).isSome)]) := by
  have hz : zeroOf TE 25 = some (agE enZ) := by kernel_rfl
  have e : lookupA TE s 196 (.map mp) (.str p) true = (match (some { desc := .string, size := 1, bytes := 16, zero := some (.string ⟨#[]⟩) } : Option TI), mapsA s (.map mp) with
      | some ki, some es =>
        bif keyOk ki.desc then
          match findK ki.desc (.str p) es 0 with
          | some (some (_, v)) => some (bif true then .tuple [v, boolA true] else v)
          | some none => match zeroOf TE 25 with
            | some z => some (bif true then .tuple [z, boolA false] else z)
            | none => none
          | none => none
        else none
      | _, _ => none) := by kernel_rfl
  rw [e]
  simp only [mapsA, h, findK_G, keyOk, cond_true, cond_false, hz]
  cases lookG p l <;> rfl
theorem lk_ct {s : St} {mp : Nat} {l : List (List Nat × Int)} {p : List Nat} (h : s.h.get mp = some (.map (mapG numA l))) : lookupA TE s 197 (.map mp) (.str p) false = some (.raw (.int .i64 ((lookG p l).getD 0))) := by
  have hz : zeroOf TE 3 = some (numA 0) := by kernel_rfl
  have e : lookupA TE s 197 (.map mp) (.str p) false = (match (some { desc := .string, size := 1, bytes := 16, zero := some (.string ⟨#[]⟩) } : Option TI), mapsA s (.map mp) with
      | some ki, some es =>
        bif keyOk ki.desc then
          match findK ki.desc (.str p) es 0 with
          | some (some (_, v)) => some (bif false then .tuple [v, boolA true] else v)
          | some none => match zeroOf TE 3 with
            | some z => some (bif false then .tuple [z, boolA false] else z)
            | none => none
          | none => none
        else none
      | _, _ => none) := by kernel_rfl
  rw [e]
  simp only [mapsA, h, findK_G, keyOk, cond_true, cond_false, hz]
  cases lookG p l <;> rfl
theorem up_ne {s : St} {mp : Nat} {l : List (List Nat × En)} {p : List Nat} {j : En} (h : s.h.get mp = some (.map (mapG agE l))) : mapUpdateA TE s 196 (.map mp) (.str p) (agE j) = some { s with h := s.h.set mp (.map (mapG agE (setG p j l))) } := by
  have e : mapUpdateA TE s 196 (.map mp) (.str p) (agE j) = (match s.h.get mp with
      | some (.map es) => match findK .string (.str p) es 0 with
            | some (some (i, _)) => some { s with h := s.h.set mp (.map (setL es i (.str p, agE j))) }
            | some none => some { s with h := s.h.set mp (.map (es ++ [(.str p, agE j)])) }
            | none => none
      | _ => none) := by kernel_rfl
  rw [e, h]
  simp only [findK_G]
  cases hl : lookG p l with
  | none => simp only [setG_app l hl, mapG, List.map_append, List.map_cons, List.map_nil]
  | some i => simp only [Nat.zero_add, setL_G l (by rw [hl]; simp)]
theorem up_ct {s : St} {mp : Nat} {l : List (List Nat × Int)} {p : List Nat} {j : Int} (h : s.h.get mp = some (.map (mapG numA l))) : mapUpdateA TE s 197 (.map mp) (.str p) (.raw (.int .i64 j)) = some { s with h := s.h.set mp (.map (mapG numA (setG p j l))) } := by
  have e : mapUpdateA TE s 197 (.map mp) (.str p) (numA j) = (match s.h.get mp with
      | some (.map es) => match findK .string (.str p) es 0 with
            | some (some (i, _)) => some { s with h := s.h.set mp (.map (setL es i (.str p, numA j))) }
            | some none => some { s with h := s.h.set mp (.map (es ++ [(.str p, numA j)])) }
            | none => none
      | _ => none) := by kernel_rfl
  show mapUpdateA TE s 197 (.map mp) (.str p) (numA j) = _
  rw [e, h]
  simp only [findK_G]
  cases hl : lookG p l with
  | none => simp only [setG_app l hl, mapG, List.map_append, List.map_cons, List.map_nil]
  | some i => simp only [Nat.zero_add, setL_G l (by rw [hl]; simp)]
theorem de_ne {s : St} {mp : Nat} {l : List (List Nat × En)} {p : List Nat} (h : s.h.get mp = some (.map (mapG agE l))) : deleteA TE s [196, 9] [.map mp, .str p] = some (match lookG p l with | some _ => { s with h := s.h.set mp (.map (mapG agE (delG p l))) } | none => s) := by
  have e : deleteA TE s [196, 9] [.map mp, .str p] = (match s.h.get mp with
      | some (.map es) => match findK .string (.str p) es 0 with
            | some (some (i, _)) => some { s with h := s.h.set mp (.map (eraseL es i)) }
            | some none => some s
            | none => none
      | some (.rmap es it ix) => match findK .string (.str p) es 0 with
            | some (some (i, _)) => some { s with h := s.h.set mp (.rmap (eraseL es i) it (eraseL ix i)) }
            | some none => some s
            | none => none
      | _ => none) := by kernel_rfl
  rw [e, h]
  simp only [findK_G]
  cases hl : lookG p l with
  | none => rfl
  | some i =>
    simp only [Nat.zero_add, mapG]
    rw [eraseL_G (f := fun e => ((.str [] : AV), agE e)) (g := fun q => ((.str q.1 : AV), agE q.2)) l (by rw [hl]; simp)]
theorem de_ct {s : St} {mp : Nat} {l : List (List Nat × Int)} {p : List Nat} (h : s.h.get mp = some (.map (mapG numA l))) : deleteA TE s [197, 9] [.map mp, .str p] = some (match lookG p l with | some _ => { s with h := s.h.set mp (.map (mapG numA (delG p l))) } | none => s) := by
  have e : deleteA TE s [197, 9] [.map mp, .str p] = (match s.h.get mp with
      | some (.map es) => match findK .string (.str p) es 0 with
            | some (some (i, _)) => some { s with h := s.h.set mp (.map (eraseL es i)) }
            | some none => some s
            | none => none
      | some (.rmap es it ix) => match findK .string (.str p) es 0 with
            | some (some (i, _)) => some { s with h := s.h.set mp (.rmap (eraseL es i) it (eraseL ix i)) }
            | some none => some s
            | none => none
      | _ => none) := by kernel_rfl
  rw [e, h]
  simp only [findK_G]
  cases hl : lookG p l with
  | none => rfl
  | some i =>
    simp only [Nat.zero_add, mapG]
    rw [eraseL_G (f := fun e => ((.str [] : AV), numA e)) (g := fun q => ((.str q.1 : AV), numA q.2)) l (by rw [hl]; simp)]
theorem de_nr {s : St} {mp it : Nat} {ix : List Nat} {l : List (List Nat × En)} {p : List Nat} (h : s.h.get mp = some (.rmap (mapG agE l) it ix)) : deleteA TE s [196, 9] [.map mp, .str p] = some (match lookG p l with | some _ => { s with h := s.h.set mp (.rmap (mapG agE (delG p l)) it (eraseL ix (l.findIdx fun q => eqB p q.1))) } | none => s) := by
  have e : deleteA TE s [196, 9] [.map mp, .str p] = (match s.h.get mp with
      | some (.map es) => match findK .string (.str p) es 0 with
            | some (some (i, _)) => some { s with h := s.h.set mp (.map (eraseL es i)) }
            | some none => some s
            | none => none
      | some (.rmap es it ix) => match findK .string (.str p) es 0 with
            | some (some (i, _)) => some { s with h := s.h.set mp (.rmap (eraseL es i) it (eraseL ix i)) }
            | some none => some s
            | none => none
      | _ => none) := by kernel_rfl
  rw [e, h]
  simp only [findK_G]
  cases hl : lookG p l with
  | none => rfl
  | some i =>
    simp only [Nat.zero_add, mapG]
    rw [eraseL_G (f := fun e => ((.str [] : AV), agE e)) (g := fun q => ((.str q.1 : AV), agE q.2)) l (by rw [hl]; simp)]
theorem len_ne {s : St} {mp : Nat} {l : List (List Nat × En)} (h : s.h.get mp = some (.map (mapG agE l))) : lenOpA TE s [196] [.map mp] = some (.raw (.int .i64 (l.length : Int))) := by
  have e : lenOpA TE s [196] [.map mp] = (match mapsA s (.map mp) with | some es => some (intA es.length) | none => none) := by kernel_rfl
  rw [e]
  simp only [mapsA, h, mapG, List.length_map, intA]
theorem ld_196 {s : St} {x o : Nat} : loadA TE s 196 (.ptr x o) = ldO (s.h.get x) o := by rw [ld_gen (by kernel_rfl), ldC_o]
theorem ld_197 {s : St} {x o : Nat} : loadA TE s 197 (.ptr x o) = ldO (s.h.get x) o := by rw [ld_gen (by kernel_rfl), ldC_o]
theorem fa_f0 {x : Nat} : fieldAddrA TE 199 (.ptr x 0) 0 = some (.ptr x 0) := by kernel_rfl
theorem fa_f1 {x : Nat} : fieldAddrA TE 199 (.ptr x 0) 1 = some (.ptr x 1) := by kernel_rfl
end Go.AX
namespace Go.AX
open Go.Proofs Go.RowKit
set_option maxRecDepth 1000000
set_option maxHeartbeats 400000000
set_option linter.unusedSimpArgs false
set_option linter.unusedVariables false
structure FR (s : St) (fb nb kb : Nat) (N : List (List Nat × En)) (K : List (List Nat × Int)) : Prop where
  f : s.h.get fb = some (.cells [.map nb, .map kb] 199 0)
  n : s.h.get nb = some (.map (mapG agE N))
  k : s.h.get kb = some (.map (mapG numA K))
  d : nb ≠ kb
def FrF (nb kb : Nat) (s s' : St) : Prop := s.nx ≤ s'.nx ∧ ∀ i, i < s.nx → i ≠ nb → i ≠ kb → s'.h.get i = s.h.get i
theorem FrF.refl {nb kb : Nat} (s : St) : FrF nb kb s s := ⟨Nat.le_refl _, fun _ _ _ _ => rfl⟩
theorem FrF.trans {nb kb : Nat} {s s' s'' : St} (h : FrF nb kb s s') (h' : FrF nb kb s' s'') : FrF nb kb s s'' := ⟨Nat.le_trans h.1 h'.1, fun i hi h1 h2 => (h'.2 i (Nat.lt_of_lt_of_le hi h.1) h1 h2).trans (h.2 i hi h1 h2)⟩
theorem FrF.of {nb kb : Nat} {s s' : St} (h : Ext s s') : FrF nb kb s s' := ⟨h.1, fun i hi _ _ => h.2 i hi⟩
theorem FrF.put {nb kb : Nat} {s : St} {i : Nat} {o : AO} (h : i = nb ∨ i = kb) : FrF nb kb s { s with h := s.h.set i o } := ⟨Nat.le_refl _, fun j _ h1 h2 => hs_ne (by rcases h with rfl | rfl <;> assumption)⟩
theorem FrF.ext {nb kb : Nat} {s s1 s2 : St} (h : FrF nb kb s1 s2) (hE : Ext s s1) (h1 : s.nx ≤ nb) (h2 : s.nx ≤ kb) : Ext s s2 := ⟨Nat.le_trans hE.1 h.1, fun i hi => (h.2 i (Nat.lt_of_lt_of_le hi hE.1) (by omega) (by omega)).trans (hE.2 i hi)⟩
theorem FR.fn {s : St} {fb nb kb : Nat} {N : List (List Nat × En)} {K : List (List Nat × Int)} (R : FR s fb nb kb N K) : fb ≠ nb := by
  intro h
  have := R.f
  rw [h, R.n] at this
  cases this
theorem FR.fk {s : St} {fb nb kb : Nat} {N : List (List Nat × En)} {K : List (List Nat × Int)} (R : FR s fb nb kb N K) : fb ≠ kb := by
  intro h
  have := R.f
  rw [h, R.k] at this
  cases this
theorem FR.ext {s s' : St} {fb nb kb : Nat} {N : List (List Nat × En)} {K : List (List Nat × Int)} (R : FR s fb nb kb N K) (hB : Below0 s) (hE : Ext s s') : FR s' fb nb kb N K :=
  ⟨(hE.2 _ (hB _ _ R.f)).trans R.f, (hE.2 _ (hB _ _ R.n)).trans R.n, (hE.2 _ (hB _ _ R.k)).trans R.k, R.d⟩
theorem FR.setN {s : St} {fb nb kb : Nat} {N N' : List (List Nat × En)} {K : List (List Nat × Int)} (R : FR s fb nb kb N K) : FR { s with h := s.h.set nb (.map (mapG agE N')) } fb nb kb N' K :=
  ⟨(hs_ne R.fn).trans R.f, hs_same, (hs_ne R.d.symm).trans R.k, R.d⟩
theorem FR.setK {s : St} {fb nb kb : Nat} {N : List (List Nat × En)} {K K' : List (List Nat × Int)} (R : FR s fb nb kb N K) : FR { s with h := s.h.set kb (.map (mapG numA K')) } fb nb kb N K' :=
  ⟨(hs_ne R.fk).trans R.f, (hs_ne R.d).trans R.n, hs_same, R.d⟩
def bumpK (p : List Nat) (d : Int) (K : List (List Nat × Int)) : List (List Nat × Int) := setG p (IntKind.i64.wrap ((lookG p K).getD 0 + d)) K
theorem put_fc {s : St} (H : Ok TE Tryz.prog pr3) (hB : Below0 s) {fb nb kb : Nat} {N : List (List Nat × En)} {K : List (List Nat × Int)} (R : FR s fb nb kb N K) {e : En} (hp : e.1.length ≤ 1000000) {kr kp : AV → St → Bool}
    (hk : ∀ s', FrF nb kb s s' → Below0 s' → FR s' fb nb kb (setG e.1 e N) (bumpK (upE e.1) 1 K) → kr (.tuple []) s' = true) :
    (sem Tryz.prog).call 122 [.ptr fb 0, agE e] s kr kp = true := by
  refine w_call H 20 fn_122 rfl rfl ?_
  have hB1 : Below0 (s.alloc (.cells (celE e) 25 0)) := below_al hB _
  have hE1 : Ext s (s.alloc (.cells (celE e) 25 0)) := Ext.alloc s _
  have R1 := R.ext hB hE1
  have c1 : (s.alloc (.cells (celE e) 25 0)).h.get s.nx = some (.cells (celE e) 25 0) := al_same
  have hn := hB _ _ R.n
  have hkb := hB _ _ R.k
  have hag : agE e = .agg (celE e) := rfl
  rw [hag]
  repeat (first | with_reducible (refine w_one H ?_; constructor) | simp only [rB, rP, rQ, boolA, intA, resultA, resA, reduceIte, reduceCtorEq, Nat.reduceAdd, Nat.reduceLT, Nat.reduceEqDiff, UInt8.reduceToNat, pe3, pf3, cells_agg])
  generalize s.alloc (.cells (celE e) 25 0) = s1 at *
  have f1 := R1.f
  have u1 := up_ne (p := e.1) (j := e) R1.n
  repeat (first | with_reducible (refine w_one H ?_; constructor) | simp only [rB, rP, rQ, boolA, intA, resultA, resA, reduceIte, reduceCtorEq, Nat.reduceAdd, Nat.reduceLT, Nat.reduceEqDiff, UInt8.reduceToNat, pe3, pf3, f1, c1, fa_f0, fa_f1, fa_en0, ld_196, ld_197, ld_9, ldE0, ce_0, ld_en, ldG_en, u1] | (with_reducible refine w_plan H (i := 1) (.take 0 (.take 1 (.take 2 (.take 3 (.take 4 (.take 5 (.take 6 (.alt 7 [0, 1, 2, 3, 4, 5, 6] (.done) (.yes))))))))) rfl (by kernel_rfl) ?_))
  have hs1 := hE1.1
  have hB2 : Below0 { s1 with h := s1.h.set nb (.map (mapG agE (setG e.1 e N))) } := below_set hB1 (hB1 _ _ R1.n) _
  have R2 : FR { s1 with h := s1.h.set nb (.map (mapG agE (setG e.1 e N))) } fb nb kb (setG e.1 e N) K := R1.setN
  have F2 : FrF nb kb s { s1 with h := s1.h.set nb (.map (mapG agE (setG e.1 e N))) } := (FrF.of hE1).trans (FrF.put (Or.inl rfl))
  have c2 : ({ s1 with h := s1.h.set nb (.map (mapG agE (setG e.1 e N))) } : St).h.get s.nx = some (.cells (celE e) 25 0) := (hs_ne (by omega)).trans c1
  generalize ({ s1 with h := s1.h.set nb (.map (mapG agE (setG e.1 e N))) } : St) = s2 at *
  have f2 := R2.f
  have u2 := up_ct (p := upE e.1) (j := IntKind.i64.wrap ((lookG (upE e.1) K).getD 0 + 1)) R2.k
  have l2 := lk_ct (p := upE e.1) R2.k
  have ia : ∀ b, inO (s2.h.get kb) b = b := fun b => by rw [R2.k]; rfl
  repeat (first | with_reducible (refine w_one H ?_; constructor) | simp only [rB, rP, rQ, boolA, intA, resultA, resA, reduceIte, reduceCtorEq, Nat.reduceAdd, Nat.reduceLT, Nat.reduceEqDiff, UInt8.reduceToNat, pe3, pf3, f2, c2, fa_f0, fa_f1, fa_en0, ld_196, ld_197, ld_9, ldE0, ce_0, ld_en, ldG_en, l2, ia, u2, beq_cel, b_plus] | (with_reducible refine w_plan H (i := 2) (.take 0 (.take 1 (.take 2 (.take 3 (.take 4 (.take 5 (.alt 6 [4, 5] (.take 7 (.take 8 (.alt 9 [0, 1, 2, 3, 4, 5, 6, 7, 8] (.done) (.yes)))) (.yes)))))))) rfl (by kernel_rfl) ?_))
  refine above_c H hp ?_
  repeat (first | with_reducible (refine w_one H ?_; constructor) | simp only [rB, rP, rQ, boolA, intA, resultA, resA, reduceIte, reduceCtorEq, Nat.reduceAdd, Nat.reduceLT, Nat.reduceEqDiff, UInt8.reduceToNat, pe3, pf3, f2, c2, fa_f0, fa_f1, fa_en0, ld_196, ld_197, ld_9, ldE0, ce_0, ld_en, ldG_en, l2, ia, u2, beq_cel, b_plus, Tryz.results122] | (with_reducible refine w_plan H (i := 2) (.take 0 (.take 1 (.take 2 (.take 3 (.take 4 (.take 5 (.alt 6 [4, 5] (.take 7 (.take 8 (.alt 9 [0, 1, 2, 3, 4, 5, 6, 7, 8] (.done) (.yes)))) (.yes)))))))) rfl (by kernel_rfl) ?_))
  exact hk _ (F2.trans (FrF.put (Or.inr rfl))) (below_set hB2 (hB2 _ _ R2.k) _) R2.setK
theorem many_fc {s : St} (H : Ok TE Tryz.prog pr3) {fb nb kb : Nat} {N : List (List Nat × En)} {K : List (List Nat × Int)} (R : FR s fb nb kb N K) {kr kp : AV → St → Bool}
    (hk : kr (.raw (.int .i64 (N.length : Int))) s = true) :
    (sem Tryz.prog).call 75 [.ptr fb 0] s kr kp = true := by
  refine w_call H 8 fn_75 rfl rfl ?_
  have f1 := R.f
  have l1 := len_ne R.n
  have ia : ∀ b, inO (s.h.get nb) b = b := fun b => by rw [R.n]; rfl
  repeat (first | with_reducible (refine w_one H ?_; constructor) | simp only [rB, rP, rQ, boolA, intA, resultA, resA, reduceIte, reduceCtorEq, Nat.reduceAdd, Nat.reduceLT, Nat.reduceEqDiff, UInt8.reduceToNat, pe3, pf3, f1, fa_f0, ld_196, l1, ia, Tryz.results75])
  exact hk
def groundL : List (List Nat × En) × List (List Nat × Int) → List En → List (List Nat × En) × List (List Nat × Int)
  | x, [] => x
  | x, e :: l => groundL (setG e.1 e x.1, bumpK (upE e.1) 1 x.2) l
theorem bd_field {a b : Nat} : buildA TE 199 [(0, .map a), (1, .map b)] = some (.agg [.map a, .map b]) := by kernel_rfl
theorem ground_c {s : St} (H : Ok TE Tryz.prog pr3) (hB : Below0 s) {V : AV} {es : List En} (hV : EsV s V es) (hp : ∀ e ∈ es, e.1.length ≤ 1000000) (hn : es.length ≤ 1000000000) {kr kp : AV → St → Bool}
    (hk : ∀ s' fb nb kb, Ext s s' → s.nx ≤ fb → s.nx ≤ nb → s.nx ≤ kb → Below0 s' → FR s' fb nb kb (groundL ([], []) es).1 (groundL ([], []) es).2 → kr (.ptr fb 0) s' = true) :
    (sem Tryz.prog).call 73 [V] s kr kp = true := by
  refine w_call H 21 fn_73 rfl rfl ?_
  have vl := hV.len
  have vi := hV.ids
  repeat (first | with_reducible (refine w_one H ?_; constructor) | simp only [rB, rP, rQ, boolA, intA, resultA, resA, reduceIte, reduceCtorEq, Nat.reduceAdd, Nat.reduceLT, Nat.reduceEqDiff, UInt8.reduceToNat, pe3, pf3, vl, vi, bd_field, cells_agg])
  have hE0 : Ext s (((s.alloc (.map [])).alloc (.map [])).alloc (.cells [.map s.nx, .map (s.nx + 1)] 199 0)) := ((Ext.alloc s _).trans (Ext.alloc _ _)).trans (Ext.alloc _ _)
  have hB0 : Below0 (((s.alloc (.map [])).alloc (.map [])).alloc (.cells [.map s.nx, .map (s.nx + 1)] 199 0)) := below_al (below_al (below_al hB _) _) _
  have R0 : FR (((s.alloc (.map [])).alloc (.map [])).alloc (.cells [.map s.nx, .map (s.nx + 1)] 199 0)) (s.nx + 2) s.nx (s.nx + 1) [] [] := by
    refine ⟨al_same, ?_, ?_, by omega⟩
    · exact (al_ne (by show s.nx ≠ s.nx + 1 + 1; omega)).trans ((al_ne (by show s.nx ≠ s.nx + 1; omega)).trans al_same)
    · exact (al_ne (by show s.nx + 1 ≠ s.nx + 1 + 1; omega)).trans al_same
  refine w_loop_ind H (fun n t s' => ∃ (k : Nat) (x : List (List Nat × En) × List (List Nat × Int)), n + k = es.length ∧ tg t 3 = .ptr (s.nx + 2) 0 ∧ tg t 10 = V ∧ tg t 11 = .raw (.int .i64 (es.length : Int)) ∧ tg t 12 = .raw (.int .i64 (k : Int)) ∧ Ext s s' ∧ Below0 s' ∧ FR s' (s.nx + 2) s.nx (s.nx + 1) x.1 x.2 ∧ groundL ([], []) es = groundL x (es.drop k)) (n := es.length)
    ⟨0, ([], []), rfl, by simp only [rB, rP, rQ, boolA, intA, resultA, resA, reduceIte, reduceCtorEq, Nat.reduceAdd, Nat.reduceLT, Nat.reduceEqDiff, UInt8.reduceToNat], by simp only [rB, rP, rQ, boolA, intA, resultA, resA, reduceIte, reduceCtorEq, Nat.reduceAdd, Nat.reduceLT, Nat.reduceEqDiff, UInt8.reduceToNat], by simp only [rB, rP, rQ, boolA, intA, resultA, resA, reduceIte, reduceCtorEq, Nat.reduceAdd, Nat.reduceLT, Nat.reduceEqDiff, UInt8.reduceToNat], by simp only [rB, rP, rQ, boolA, intA, resultA, resA, reduceIte, reduceCtorEq, Nat.reduceAdd, Nat.reduceLT, Nat.reduceEqDiff, UInt8.reduceToNat]; rfl, hE0, hB0, R0, rfl⟩ ?_
  rintro n t s' ih ⟨k, x, hnk, t3, t10, t11, t12, hE, hB', R, hg⟩
  cases n with
  | zero =>
    have g0 : decide ((k : Int) < (es.length : Int)) = false := by rw [decide_eq_false_iff_not]; omega
    rw [List.drop_eq_nil_of_le (by omega)] at hg
    rw [hg] at hk
    repeat (first | with_reducible (refine w_one H ?_; constructor) | simp only [rB, rP, rQ, boolA, intA, resultA, resA, reduceIte, reduceCtorEq, Nat.reduceAdd, Nat.reduceLT, Nat.reduceEqDiff, UInt8.reduceToNat, pe3, pf3, t3, t10, t11, t12, b_lt, g0, Tryz.results73])
    exact hk s' (s.nx + 2) s.nx (s.nx + 1) hE (by omega) (by omega) (by omega) hB' R
  | succ n =>
    have g0 : decide ((k : Int) < (es.length : Int)) = true := by rw [decide_eq_true_eq]; omega
    have hlt : k < es.length := by omega
    have hke : es[k]? = some es[k] := List.getElem?_eq_getElem hlt
    have hmem : es[k] ∈ es := List.getElem_mem hlt
    rw [List.drop_eq_getElem_cons hlt] at hg
    generalize es[k] = e at hke hmem hg
    simp only [groundL] at hg
    have hV' := hV.ext hB hE
    obtain ⟨id, o, y1, y2, y3, y4, -⟩ := hV'.idx hke
    have hB3 : Below0 { h := (s'.alloc (.cells [.str [], .raw (.int .i64 0), .raw (.int .i64 0), .str []] 25 0)).h.set s'.nx (.cells (celE e) 25 0), nx := s'.nx + 1 } := below_putS hB'
    have hE3 : Ext s' { h := (s'.alloc (.cells [.str [], .raw (.int .i64 0), .raw (.int .i64 0), .str []] 25 0)).h.set s'.nx (.cells (celE e) 25 0), nx := s'.nx + 1 } := ext_putS
    have c3 : ({ h := (s'.alloc (.cells [.str [], .raw (.int .i64 0), .raw (.int .i64 0), .str []] 25 0)).h.set s'.nx (.cells (celE e) 25 0), nx := s'.nx + 1 } : St).h.get s'.nx = some (.cells (celE e) 25 0) := hs_same
    have R3 := R.ext hB' hE3
    have ew : IntKind.i64.wrap ((k : Int) + 1) = ((k + 1 : Nat) : Int) := by
      rw [show (k : Int) + 1 = ((k + 1 : Nat) : Int) from by simp]
      exact wrap_nat (by omega)
    repeat (first | with_reducible (refine w_one H ?_; constructor) | simp only [rB, rP, rQ, boolA, intA, resultA, resA, reduceIte, reduceCtorEq, Nat.reduceAdd, Nat.reduceLT, Nat.reduceEqDiff, UInt8.reduceToNat, pe3, pf3, t3, t10, t11, t12, b_lt, g0, y1, y2, y3, y4, all_en, st_en, stA_en, ld_en, ldG_en])
    refine put_fc H hB3 R3 (hp e hmem) (fun s4 hF4 hB4 R4 => ?_)
    repeat (first | with_reducible (refine w_one H ?_; constructor) | simp only [rB, rP, rQ, boolA, intA, resultA, resA, reduceIte, reduceCtorEq, Nat.reduceAdd, Nat.reduceLT, Nat.reduceEqDiff, UInt8.reduceToNat, pe3, pf3, t3, t10, t11, t12, b_plus, ew])
    exact ih n _ _ (Nat.lt_succ_self n) ⟨k + 1, _, by omega, by simp only [rB, rP, rQ, boolA, intA, resultA, resA, reduceIte, reduceCtorEq, Nat.reduceAdd, Nat.reduceLT, Nat.reduceEqDiff, UInt8.reduceToNat, t3], by simp only [rB, rP, rQ, boolA, intA, resultA, resA, reduceIte, reduceCtorEq, Nat.reduceAdd, Nat.reduceLT, Nat.reduceEqDiff, UInt8.reduceToNat, t10], by simp only [rB, rP, rQ, boolA, intA, resultA, resA, reduceIte, reduceCtorEq, Nat.reduceAdd, Nat.reduceLT, Nat.reduceEqDiff, UInt8.reduceToNat, t11], by simp only [rB, rP, rQ, boolA, intA, resultA, resA, reduceIte, reduceCtorEq, Nat.reduceAdd, Nat.reduceLT, Nat.reduceEqDiff, UInt8.reduceToNat], hF4.ext (hE.trans hE3) (Nat.le_refl _) (by omega), hB4, R4, hg⟩
end Go.AX
namespace Go.AX
open Go.Proofs Go.RowKit
set_option maxRecDepth 1000000
set_option maxHeartbeats 400000000
set_option linter.unusedSimpArgs false
set_option linter.unusedVariables false
section
variable {e : Env} {pr : Prims} {r : Tasks} {rd : Option Nat} {a : Ac} {s : St} {k : Ac → St → Bool} {kp : AV → St → Bool} {dst : Option Tmp} {ty : TypeId} {pos : String} {after : Array Edge}
def rangeA (e : Env) (s : St) (t : TypeId) (v : AV) : Option (AV × St) := match e.info t, v with
    | some ti, .str b => match ti.desc with
      | .string => some (.ptr s.nx 0, s.alloc (.siter b 0 b))
      | _ => none
    | some ti, .map m => match ti.desc, s.h.get m with
      | .map _ _, some (.map es) => some (.ptr s.nx 0, { h := (s.h.set s.nx (.miter m [])).set m (.rmap es s.nx (iotaL es.length 0)), nx := s.nx + 1 })
      | _, _ => none
    | _, _ => none
theorem o_range {t : TypeId} {x : Operand} : evOp e pr r rd ⟨dst, .range t x, ty, pos, after, none⟩ a s k kp = putS (rangeA e s t (a.eval x)) a dst k := plain_act (e := e) (o := ⟨dst, .range t x, ty, pos, after, none⟩) rfl
theorem o_next {x : Operand} : evOp e pr r rd ⟨dst, .next x false, ty, pos, after, none⟩ a s k kp = nextK s (a.eval x) (fun v s' => putK a dst v s' k) := (rfl)
def putE (o : Option (AV × List Nat)) (a : Ac) (dst : Option Tmp) (s : St) (k : Ac → St → Bool) : Bool := match o with
  | some (v, ids) => bif idsIn s ids then putK a dst v s k else false
  | none => false
theorem o_entry {x : Operand} : evOp e pr r rd ⟨dst, .entry x, ty, pos, after, none⟩ a s k kp = putE (entryA s (a.eval x)) a dst s k := by
  show plainOp e ⟨dst, .entry x, ty, pos, after, none⟩ a s k = _
  have h : stepP e a s ⟨dst, .entry x, ty, pos, after, none⟩ = entryA s (a.eval x) := rfl
  cases he : entryA s (a.eval x) with
  | some q => obtain ⟨v, ids⟩ := q; exact plain_some (h.trans he)
  | none => exact (plain_none (h.trans he)).trans rfl
end
theorem rg_ne {s : St} {mp : Nat} {es : List (AV × AV)} (h : s.h.get mp = some (.map es)) : rangeA TE s 196 (.map mp) = some (.ptr s.nx 0, { h := (s.h.set s.nx (.miter mp [])).set mp (.rmap es s.nx (iotaL es.length 0)), nx := s.nx + 1 }) := by
  have e : rangeA TE s 196 (.map mp) = (match s.h.get mp with
      | some (.map es) => some (.ptr s.nx 0, { h := (s.h.set s.nx (.miter mp [])).set mp (.rmap es s.nx (iotaL es.length 0)), nx := s.nx + 1 })
      | _ => none) := by kernel_rfl
  rw [e, h]
theorem nextK_nil {s : St} {id m : Nat} {seen ix : List Nat} {es : List (AV × AV)} {k : AV → St → Bool} (hg : s.h.get id = some (.miter m seen)) (hm : s.h.get m = some (.rmap es id ix)) (hl : leftM seen es ix = []) : nextK s (.ptr id 0) k = k (.tuple [.raw (.bool false)]) { s with h := s.h.set m (.map es) } := by
  simp only [nextK, hg, hm, Nat.beq_refl, cond_true, hl, boolA]
theorem nextK_all {s : St} {id m : Nat} {seen ix : List Nat} {es : List (AV × AV)} {k : AV → St → Bool} (hg : s.h.get id = some (.miter m seen)) (hm : s.h.get m = some (.rmap es id ix)) (hl : leftM seen es ix ≠ []) : nextK s (.ptr id 0) k = (leftM seen es ix).all fun q => k (.tuple [.raw (.bool true), q.2.1, q.2.2]) { s with h := s.h.set id (.miter m (q.1 :: seen)) } := by
  simp only [nextK, hg, hm, Nat.beq_refl, cond_true, boolA]
  cases h : leftM seen es ix with
  | nil => exact absurd h hl
  | cons q l => rfl
theorem entry_at {s : St} {id m i : Nat} {seen ix : List Nat} {es : List (AV × AV)} {q : AV × AV} (hg : s.h.get id = some (.miter m (i :: seen))) (hm : s.h.get m = some (.rmap es id ix)) (he : entL i es ix = some q) : entryA s (.ptr id 0) = some (.tuple [q.1, q.2], [id, m]) := by
  simp only [entryA, hg, hm, Nat.beq_refl, cond_true, he]
theorem leftM_le {i : Nat} {seen : List Nat} : ∀ {es : List (AV × AV)} {ix : List Nat}, (leftM (i :: seen) es ix).length ≤ (leftM seen es ix).length
  | [], _ => by simp [leftM]
  | _ :: _, [] => by simp [leftM]
  | q :: es, k :: ix => by
    have ih := leftM_le (i := i) (seen := seen) (es := es) (ix := ix)
    simp only [leftM, memN]
    cases h1 : memN k seen with
    | true => cases Nat.beq k i <;> simp only [cond_true, cond_false] <;> exact ih
    | false => cases Nat.beq k i <;> simp only [cond_true, cond_false, List.length_cons] <;> omega
theorem leftM_lt {i : Nat} {seen : List Nat} {y : AV × AV} : ∀ {es : List (AV × AV)} {ix : List Nat}, (i, y) ∈ leftM seen es ix → (leftM (i :: seen) es ix).length < (leftM seen es ix).length
  | [], _, h => by simp [leftM] at h
  | _ :: _, [], h => by simp [leftM] at h
  | q :: es, k :: ix, h => by
    have ih := fun h => leftM_lt (i := i) (seen := seen) (y := y) (es := es) (ix := ix) h
    have ile := leftM_le (i := i) (seen := seen) (es := es) (ix := ix)
    simp only [leftM, memN] at h ⊢
    cases h1 : memN k seen with
    | true =>
      rw [h1, cond_true] at h
      cases Nat.beq k i <;> simp only [cond_true, cond_false] <;> exact ih h
    | false =>
      rw [h1, cond_false] at h
      cases h2 : Nat.beq k i with
      | true => simp only [cond_true, cond_false, List.length_cons]; omega
      | false =>
        simp only [cond_false, List.length_cons]
        rcases List.mem_cons.1 h with h | h
        · cases h
          rw [Nat.beq_refl] at h2
          cases h2
        · have := ih h
          omega
theorem leftM_erase {seen : List Nat} : ∀ {es : List (AV × AV)} {ix : List Nat} {j : Nat}, (leftM seen (eraseL es j) (eraseL ix j)).length ≤ (leftM seen es ix).length
  | [], _, _ => by simp [leftM, eraseL]
  | _ :: _, [], _ => by
    have : ∀ l : List (AV × AV), leftM seen l [] = [] := fun l => by cases l <;> rfl
    simp [eraseL, this]
  | q :: es, k :: ix, 0 => by
    simp only [eraseL, leftM]
    cases memN k seen <;> simp
  | q :: es, k :: ix, j + 1 => by
    have ih := leftM_erase (seen := seen) (es := es) (ix := ix) (j := j)
    simp only [eraseL, leftM]
    cases memN k seen <;> simp only [cond_true, cond_false, List.length_cons] <;> omega
theorem entL_atF : ∀ {es : List (AV × AV)} {ix : List Nat} {j i : Nat} {q : AV × AV}, ix.Nodup → es[j]? = some q → ix[j]? = some i → entL i es ix = some q
  | [], _, _, _, _, _, h, _ => by simp at h
  | _ :: _, [], _, _, _, _, _, h => by simp at h
  | r :: es, k :: ix, j, i, q, hn, h1, h2 => by
    simp only [entL]
    cases j with
    | zero =>
      simp at h1 h2
      subst h1 h2
      rw [Nat.beq_refl, cond_true]
    | succ j =>
      simp at h1 h2
      have hk : Nat.beq k i = false := by
        cases h : Nat.beq k i with
        | false => rfl
        | true =>
          have := Nat.eq_of_beq_eq_true h
          subst this
          exact absurd (List.mem_of_getElem? h2) (List.nodup_cons.1 hn).1
      rw [hk, cond_false]
      exact entL_atF (List.nodup_cons.1 hn).2 (by simpa using h1) (by simpa using h2)
theorem iotaL_lenF : ∀ {n i : Nat}, (iotaL n i).length = n
  | 0, _ => rfl
  | n + 1, i => by simp [iotaL, iotaL_lenF (n := n)]
theorem iotaL_mem : ∀ {n i j : Nat}, j ∈ iotaL n i → i ≤ j
  | 0, _, _, h => by simp [iotaL] at h
  | n + 1, i, j, h => by
    simp only [iotaL, List.mem_cons] at h
    rcases h with h | h
    · omega
    · have := iotaL_mem h; omega
theorem iotaL_nodup : ∀ {n i : Nat}, (iotaL n i).Nodup
  | 0, _ => by simp [iotaL]
  | n + 1, i => by
    simp only [iotaL, List.nodup_cons]
    exact ⟨fun h => by have := iotaL_mem h; omega, iotaL_nodup⟩
theorem eraseL_eq {α : Type} : ∀ {l : List α} {n : Nat}, eraseL l n = l.eraseIdx n
  | [], _ => by simp [eraseL]
  | _ :: _, 0 => by simp [eraseL]
  | a :: l, n + 1 => by simp [eraseL, eraseL_eq (l := l)]
theorem eqB_iffF {a b : List Nat} : eqB a b = true ↔ a = b := by rw [eqB_dec, decide_eq_true_eq]
theorem findIdx_at {α : Type} : ∀ {l : List (List Nat × α)} {j : Nat} {p : List Nat} {v : α}, (l.map (·.1)).Nodup → l[j]? = some (p, v) → (l.findIdx fun q => eqB p q.1) = j ∧ lookG p l = some v ∧ delG p l = l.eraseIdx j
  | [], _, _, _, _, h => by simp at h
  | (q, w) :: l, 0, p, v, _, h => by
    simp at h
    obtain ⟨rfl, rfl⟩ := h
    have : eqB q q = true := eqB_iffF.2 rfl
    simp [List.findIdx_cons, lookG, delG, this]
  | (q, w) :: l, j + 1, p, v, hn, h => by
    simp at h
    simp only [List.map_cons, List.nodup_cons] at hn
    have hne : eqB p q = false := by
      cases he : eqB p q with
      | false => rfl
      | true =>
        have := eqB_iffF.1 he
        subst this
        exact absurd (List.mem_map.2 ⟨_, List.mem_of_getElem? h, rfl⟩) hn.1
    obtain ⟨i1, i2, i3⟩ := findIdx_at hn.2 h
    simp [List.findIdx_cons, lookG, delG, hne, i1, i2, i3]
end Go.AX
namespace Go.AX
open Go.Proofs Go.RowKit
set_option maxRecDepth 1000000
set_option maxHeartbeats 400000000
set_option linter.unusedSimpArgs false
set_option linter.unusedVariables false
def belK (p q : List Nat) : Bool := hpB q (p ++ [47])
structure GI (N : List (List Nat × En)) (p : List Nat) (l : List (List Nat × En)) (ix seen : List Nat) (D : List (List Nat)) : Prop where
  nd : ix.Nodup
  ln : ix.length = l.length
  kn : (l.map (·.1)).Nodup
  fl : l.filter (fun q => !belK p q.1) = N.filter (fun q => !belK p q.1)
  sn : ∀ x ∈ ix.zip l, x.1 ∈ seen → belK p x.2.1 = false
  dm : ∀ d, d ∈ D ↔ d ∈ N.map (·.1) ∧ d ∉ l.map (·.1)
  db : ∀ d ∈ D, belK p d = true
theorem GI.init {N : List (List Nat × En)} {p : List Nat} (h : (N.map (·.1)).Nodup) : GI N p N (iotaL N.length 0) [] [] :=
  ⟨iotaL_nodup, iotaL_lenF, h, rfl, fun _ _ h => (by cases h), fun d => (by simp), fun _ h => (by cases h)⟩
theorem GI.keep {N : List (List Nat × En)} {p : List Nat} {l : List (List Nat × En)} {ix seen : List Nat} {D : List (List Nat)} (G : GI N p l ix seen D) {j i : Nat} {x : List Nat × En} (h1 : ix[j]? = some i) (h2 : l[j]? = some x) (hb : belK p x.1 = false) : GI N p l ix (i :: seen) D := by
  refine ⟨G.nd, G.ln, G.kn, G.fl, fun y hy hs => ?_, G.dm, G.db⟩
  rcases List.mem_cons.1 hs with h | h
  · obtain ⟨j', hj'⟩ := List.mem_iff_getElem?.1 hy
    obtain ⟨a1, a2⟩ := List.getElem?_zip_eq_some.1 hj'
    rw [h] at a1
    have hl1 : j' < ix.length := (List.getElem?_eq_some_iff.1 a1).1
    have hl2 : j < ix.length := (List.getElem?_eq_some_iff.1 h1).1
    have e1 := (List.getElem?_eq_some_iff.1 a1).2
    have e2 := (List.getElem?_eq_some_iff.1 h1).2
    have : j' = j := (List.getElem_inj G.nd).1 (e1.trans e2.symm)
    subst this
    rw [a2] at h2
    cases h2
    exact hb
  · exact G.sn y hy h
theorem filter_erase {α : Type} {P : α → Bool} : ∀ {l : List α} {j : Nat} {x : α}, l[j]? = some x → P x = false → (l.eraseIdx j).filter P = l.filter P
  | [], _, _, h, _ => by simp at h
  | a :: l, 0, x, h, hp => by
    simp at h
    subst h
    simp [List.eraseIdx, hp]
  | a :: l, j + 1, x, h, hp => by
    have ih := filter_erase (P := P) (l := l) (j := j) (x := x) (by simpa using h) hp
    simp only [List.eraseIdx_cons_succ, List.filter_cons, ih]
theorem mem_erase {α : Type} : ∀ {l : List α} {j : Nat} {x y : α}, l.Nodup → l[j]? = some x → (y ∈ l.eraseIdx j ↔ y ∈ l ∧ y ≠ x)
  | [], _, _, _, _, h => by simp at h
  | a :: l, 0, x, y, hn, h => by
    simp at h
    subst h
    simp only [List.eraseIdx_cons_zero, List.mem_cons]
    have := (List.nodup_cons.1 hn).1
    constructor
    · intro hy
      exact ⟨Or.inr hy, fun e => this (e ▸ hy)⟩
    · rintro ⟨h1 | h1, h2⟩
      · exact absurd h1 h2
      · exact h1
  | a :: l, j + 1, x, y, hn, h => by
    have h' : l[j]? = some x := by simpa using h
    have ih := mem_erase (y := y) (List.nodup_cons.1 hn).2 h'
    have hax : a ≠ x := fun e => (List.nodup_cons.1 hn).1 (e ▸ List.mem_of_getElem? h')
    simp only [List.eraseIdx_cons_succ, List.mem_cons, ih]
    constructor
    · rintro (h1 | h1)
      · exact ⟨Or.inl h1, fun e => hax (h1 ▸ e)⟩
      · exact ⟨Or.inr h1.1, h1.2⟩
    · rintro ⟨h1 | h1, h2⟩
      · exact Or.inl h1
      · exact Or.inr ⟨h1, h2⟩
theorem zip_erase {α β : Type} : ∀ {l : List α} {m : List β} {j : Nat}, (l.eraseIdx j).zip (m.eraseIdx j) = (l.zip m).eraseIdx j
  | [], _, _ => by simp
  | _ :: _, [], _ => by simp
  | a :: l, b :: m, 0 => by simp
  | a :: l, b :: m, j + 1 => by simp [zip_erase (l := l) (m := m)]
theorem map_erase {α β : Type} {f : α → β} : ∀ {l : List α} {j : Nat}, (l.eraseIdx j).map f = (l.map f).eraseIdx j
  | [], _ => by simp
  | a :: l, 0 => by simp
  | a :: l, j + 1 => by simp [map_erase (l := l)]
theorem GI.del {N : List (List Nat × En)} {p : List Nat} {l : List (List Nat × En)} {ix seen : List Nat} {D : List (List Nat)} (G : GI N p l ix seen D) (hsub : ∀ d ∈ l.map (·.1), d ∈ N.map (·.1)) {j i : Nat} {x : List Nat × En} (h1 : ix[j]? = some i) (h2 : l[j]? = some x) (hb : belK p x.1 = true) : GI N p (l.eraseIdx j) (ix.eraseIdx j) (i :: seen) (D ++ [x.1]) := by
  have hx : (l.map (·.1))[j]? = some x.1 := by rw [List.getElem?_map, h2]; rfl
  have hj : j < l.length := (List.getElem?_eq_some_iff.1 h2).1
  refine ⟨G.nd.sublist (List.eraseIdx_sublist ..), ?_, ?_, ?_, fun y hy hs => ?_, fun d => ?_, fun d hd => ?_⟩
  · rw [List.length_eraseIdx_of_lt hj, List.length_eraseIdx_of_lt (by rw [G.ln]; exact hj), G.ln]
  · rw [map_erase]
    exact G.kn.sublist (List.eraseIdx_sublist ..)
  · rw [filter_erase h2 (by rw [hb]; rfl)]
    exact G.fl
  · rw [zip_erase] at hy
    have hy2 := (List.eraseIdx_sublist ..).mem hy
    rcases List.mem_cons.1 hs with h | h
    · exfalso
      have : y.1 ∈ ix.eraseIdx j := by
        rw [← zip_erase] at hy
        exact (List.of_mem_zip (a := y.1) (b := y.2) hy).1
      exact ((mem_erase G.nd h1).1 this).2 h
    · exact G.sn y hy2 h
  · rw [map_erase, mem_erase G.kn hx, List.mem_append, G.dm, List.mem_singleton]
    constructor
    · rintro (⟨a1, a2⟩ | rfl)
      · exact ⟨a1, fun h => a2 h.1⟩
      · exact ⟨hsub _ (List.mem_of_getElem? hx), fun h => h.2 rfl⟩
    · rintro ⟨a1, a2⟩
      by_cases hd : d = x.1
      · exact Or.inr hd
      · exact Or.inl ⟨a1, fun h => a2 ⟨h, hd⟩⟩
  · rcases List.mem_append.1 hd with h | h
    · exact G.db d h
    · rw [List.mem_singleton.1 h]
      exact hb
theorem GI.fin {N : List (List Nat × En)} {p : List Nat} {l : List (List Nat × En)} {ix seen : List Nat} {D : List (List Nat)} (G : GI N p l ix seen D) (h : leftM seen (mapG agE l) ix = []) : l = N.filter (fun q => !belK p q.1) ∧ ∀ d, d ∈ D ↔ d ∈ N.map (·.1) ∧ belK p d = true := by
  have all : ∀ x ∈ l, belK p x.1 = false := by
    intro x hx
    obtain ⟨j, hj⟩ := List.mem_iff_getElem?.1 hx
    have hjl : j < l.length := (List.getElem?_eq_some_iff.1 hj).1
    have hi : ix[j]? = some (ix[j]'(by rw [G.ln]; exact hjl)) := List.getElem?_eq_getElem _
    generalize ix[j]'(by rw [G.ln]; exact hjl) = i at hi
    by_cases hs : i ∈ seen
    · refine G.sn (i, x) ?_ hs
      exact List.mem_iff_getElem?.2 ⟨j, List.getElem?_zip_eq_some.2 ⟨hi, hj⟩⟩
    · have := leftM_mem (es := mapG agE l) (q := (.str x.1, agE x.2)) (by simp [mapG, hj]) hi hs
      rw [h] at this
      cases this
  refine ⟨?_, fun d => ⟨fun hd => ⟨((G.dm d).1 hd).1, G.db d hd⟩, fun hd => (G.dm d).2 ⟨hd.1, fun hm => ?_⟩⟩⟩
  · rw [← G.fl]
    refine (List.filter_eq_self.2 fun x hx => ?_).symm
    rw [all x hx]
    rfl
  · obtain ⟨x, hx, rfl⟩ := List.mem_map.1 hm
    rw [all x hx] at hd
    cases hd.2
end Go.AX
namespace Go.AX
open Go.Proofs Go.RowKit
set_option maxRecDepth 1000000
set_option maxHeartbeats 400000000
set_option linter.unusedSimpArgs false
set_option linter.unusedVariables false
theorem FR.delK {s : St} {fb nb kb : Nat} {N : List (List Nat × En)} {K : List (List Nat × Int)} (R : FR s fb nb kb N K) (hB : Below0 s) {p : List Nat} : ∃ s2, deleteA TE s [197, 9] [.map kb, .str p] = some s2 ∧ FR s2 fb nb kb N (delG p K) ∧ FrF nb kb s s2 ∧ Below0 s2 := by
  rw [de_ct R.k]
  cases h : lookG p K with
  | none => exact ⟨_, rfl, by rw [delG_none _ h]; exact R, FrF.refl _, hB⟩
  | some v => exact ⟨_, rfl, R.setK, FrF.put (Or.inr rfl), below_set hB (hB _ _ R.k) _⟩
theorem FR.delN {s : St} {fb nb kb : Nat} {N : List (List Nat × En)} {K : List (List Nat × Int)} (R : FR s fb nb kb N K) (hB : Below0 s) {p : List Nat} : ∃ s2, deleteA TE s [196, 9] [.map nb, .str p] = some s2 ∧ FR s2 fb nb kb (delG p N) K ∧ FrF nb kb s s2 ∧ Below0 s2 := by
  rw [de_ne R.n]
  cases h : lookG p N with
  | none => exact ⟨_, rfl, by rw [delG_none _ h]; exact R, FrF.refl _, hB⟩
  | some v => exact ⟨_, rfl, R.setN, FrF.put (Or.inl rfl), below_set hB (hB _ _ R.n) _⟩
theorem FrF.trans' {nb kb : Nat} {s s1 s2 : St} (h : FrF nb kb s s1) (h' : s2.nx = s1.nx ∧ ∀ i, i < s.nx → i ≠ nb → i ≠ kb → s2.h.get i = s1.h.get i) : FrF nb kb s s2 := ⟨by rw [h'.1]; exact h.1, fun i hi h1 h2 => (h'.2 i hi h1 h2).trans (h.2 i hi h1 h2)⟩
structure LR (s : St) (fb nb kb it : Nat) (l : List (List Nat × En)) (ix seen : List Nat) (K : List (List Nat × Int)) : Prop where
  f : s.h.get fb = some (.cells [.map nb, .map kb] 199 0)
  n : s.h.get nb = some (.rmap (mapG agE l) it ix)
  i : s.h.get it = some (.miter nb seen)
  k : s.h.get kb = some (.map (mapG numA K))
theorem LR.ne {s : St} {fb nb kb it : Nat} {l : List (List Nat × En)} {ix seen : List Nat} {K : List (List Nat × Int)} (R : LR s fb nb kb it l ix seen K) : fb ≠ nb ∧ fb ≠ it ∧ fb ≠ kb ∧ nb ≠ it ∧ nb ≠ kb ∧ it ≠ kb := by
  refine ⟨?_, ?_, ?_, ?_, ?_, ?_⟩
  · intro h; have := R.f; rw [h, R.n] at this; cases this
  · intro h; have := R.f; rw [h, R.i] at this; cases this
  · intro h; have := R.f; rw [h, R.k] at this; cases this
  · intro h; have := R.n; rw [h, R.i] at this; cases this
  · intro h; have := R.n; rw [h, R.k] at this; cases this
  · intro h; have := R.i; rw [h, R.k] at this; cases this
theorem LR.seen {s : St} {fb nb kb it : Nat} {l : List (List Nat × En)} {ix seen seen' : List Nat} {K : List (List Nat × Int)} (R : LR s fb nb kb it l ix seen K) : LR { s with h := s.h.set it (.miter nb seen') } fb nb kb it l ix seen' K :=
  have N := R.ne
  ⟨(hs_ne N.2.1).trans R.f, (hs_ne N.2.2.2.1).trans R.n, hs_same, (hs_ne N.2.2.2.2.2.symm).trans R.k⟩
theorem LR.delN {s : St} {fb nb kb it : Nat} {l l' : List (List Nat × En)} {ix ix' seen : List Nat} {K : List (List Nat × Int)} (R : LR s fb nb kb it l ix seen K) : LR { s with h := s.h.set nb (.rmap (mapG agE l') it ix') } fb nb kb it l' ix' seen K :=
  have N := R.ne
  ⟨(hs_ne N.1).trans R.f, hs_same, (hs_ne N.2.2.2.1.symm).trans R.i, (hs_ne N.2.2.2.2.1.symm).trans R.k⟩
theorem LR.delK {s : St} {fb nb kb it : Nat} {l : List (List Nat × En)} {ix seen : List Nat} {K : List (List Nat × Int)} (R : LR s fb nb kb it l ix seen K) (hB : Below0 s) {p : List Nat} : ∃ s2, deleteA TE s [197, 9] [.map kb, .str p] = some s2 ∧ LR s2 fb nb kb it l ix seen (delG p K) ∧ FrF nb kb s s2 ∧ Below0 s2 := by
  rw [de_ct R.k]
  cases h : lookG p K with
  | none => exact ⟨_, rfl, by rw [delG_none _ h]; exact R, FrF.refl _, hB⟩
  | some v =>
    have N := R.ne
    exact ⟨_, rfl, ⟨(hs_ne N.2.2.1).trans R.f, (hs_ne N.2.2.2.2.1).trans R.n, (hs_ne N.2.2.2.2.2).trans R.i, hs_same⟩, FrF.put (Or.inr rfl), below_set hB (hB _ _ R.k) _⟩
def delsK (D : List (List Nat)) (K : List (List Nat × Int)) : List (List Nat × Int) := D.foldl (fun K q => delG q K) K
def GoneD (N : List (List Nat × En)) (K : List (List Nat × Int)) (p : List Nat) (D : List (List Nat)) (N1 : List (List Nat × En)) : Prop :=
  (bif decide ((lookG p K).getD 0 > 0) then true else false) = true ∧ N1 = N.filter (fun q => !belK p q.1) ∧ (∀ d, d ∈ D ↔ d ∈ N.map (·.1) ∧ belK p d = true) ∨
  (bif decide ((lookG p K).getD 0 > 0) then true else false) = false ∧ N1 = N ∧ D = []
theorem gone_fc {s : St} (H : Ok TE Tryz.prog pr3) (hB : Below0 s) {fb nb kb : Nat} {N : List (List Nat × En)} {K : List (List Nat × Int)} (R : FR s fb nb kb N K) (hN : (N.map (·.1)).Nodup) {p : List Nat} (hp : p.length ≤ 1000000) {kr kp : AV → St → Bool}
    (hk : ∀ (s' : St) (DN : List (List Nat) × List (List Nat × En)), FrF nb kb s s' → Below0 s' → GoneD N K p DN.1 DN.2 → FR s' fb nb kb (delG p DN.2) (bumpK (upE p) (-1) (delG p (delsK DN.1 K))) → kr (.tuple []) s' = true) :
    (sem Tryz.prog).call 124 [.ptr fb 0, .str p] s kr kp = true := by
  refine w_call H 53 fn_124 rfl rfl ?_
  have f1 := R.f
  have l1 := lk_ct (p := p) R.k
  have ia1 : ∀ b, inO (s.h.get kb) b = b := fun b => by rw [R.k]; rfl
  cases g1 : decide ((lookG p K).getD 0 > 0) with
  | false =>
    have R4 := R
    have B4 := hB
    have F4 : FrF nb kb s s := FrF.refl s
    have HD : GoneD N K p [] N := Or.inr ⟨by rw [g1]; rfl, rfl, rfl⟩
    repeat (first | with_reducible (refine w_one H ?_; constructor) | simp only [rB, rP, rQ, boolA, intA, resultA, resA, reduceIte, reduceCtorEq, Nat.reduceAdd, Nat.reduceLT, Nat.reduceEqDiff, UInt8.reduceToNat, pe3, pf3, fa_f0, fa_f1, ld_196, ld_197, f1, l1, ia1, b_gt, g1])
    -- the tail
    obtain ⟨s5, d5, R5, F5, B5⟩ := R4.delK (p := p) B4
    have f4 := R4.f
    repeat (first | with_reducible (refine w_one H ?_; constructor) | simp only [rB, rP, rQ, boolA, intA, resultA, resA, reduceIte, reduceCtorEq, Nat.reduceAdd, Nat.reduceLT, Nat.reduceEqDiff, UInt8.reduceToNat, pe3, pf3, fa_f0, fa_f1, ld_196, ld_197, f4, d5])
    obtain ⟨s6, d6, R6, F6, B6⟩ := R5.delN (p := p) B5
    have f5 := R5.f
    repeat (first | with_reducible (refine w_one H ?_; constructor) | simp only [rB, rP, rQ, boolA, intA, resultA, resA, reduceIte, reduceCtorEq, Nat.reduceAdd, Nat.reduceLT, Nat.reduceEqDiff, UInt8.reduceToNat, pe3, pf3, fa_f0, fa_f1, ld_196, ld_197, f5, d6])
    have f6 := R6.f
    have u6 := up_ct (p := upE p) (j := IntKind.i64.wrap ((lookG (upE p) (delG p K)).getD 0 + (-1))) R6.k
    have l6 := lk_ct (p := upE p) R6.k
    have ia : ∀ b, inO (s6.h.get kb) b = b := fun b => by rw [R6.k]; rfl
    have em : ∀ x : Int, x - 1 = x + (-1) := fun x => rfl
    repeat (first | with_reducible (refine w_one H ?_; constructor) | simp only [rB, rP, rQ, boolA, intA, resultA, resA, reduceIte, reduceCtorEq, Nat.reduceAdd, Nat.reduceLT, Nat.reduceEqDiff, UInt8.reduceToNat, pe3, pf3, fa_f0, fa_f1, ld_196, ld_197, f6, l6, ia] | (with_reducible refine w_plan H (i := 9) (.take 0 (.take 1 (.take 2 (.take 3 (.take 4 (.alt 5 [4] (.take 6 (.take 7 (.alt 8 [0, 1, 2, 3, 4, 5, 6, 7] (.done) (.yes)))) (.yes))))))) rfl (by kernel_rfl) ?_))
    refine above_c H hp ?_
    repeat (first | with_reducible (refine w_one H ?_; constructor) | simp only [rB, rP, rQ, boolA, intA, resultA, resA, reduceIte, reduceCtorEq, Nat.reduceAdd, Nat.reduceLT, Nat.reduceEqDiff, UInt8.reduceToNat, pe3, pf3, fa_f0, fa_f1, ld_196, ld_197, f6, l6, ia, u6, b_minus, em, Tryz.results124] | (with_reducible refine w_plan H (i := 9) (.take 0 (.take 1 (.take 2 (.take 3 (.take 4 (.alt 5 [4] (.take 6 (.take 7 (.alt 8 [0, 1, 2, 3, 4, 5, 6, 7] (.done) (.yes)))) (.yes))))))) rfl (by kernel_rfl) ?_))
    exact hk _ ([], N) (((F4.trans F5).trans F6).trans (FrF.put (Or.inr rfl))) (below_set B6 (B6 _ _ R6.k) _) HD R6.setK
  | true =>
    have rg := rg_ne R.n
    have hs := hB _ _ R.n
    have hsk := hB _ _ R.k
    have hsf := hB _ _ R.f
    repeat (first | with_reducible (refine w_one H ?_; constructor) | simp only [rB, rP, rQ, boolA, intA, resultA, resA, reduceIte, reduceCtorEq, Nat.reduceAdd, Nat.reduceLT, Nat.reduceEqDiff, UInt8.reduceToNat, pe3, pf3, fa_f0, fa_f1, ld_196, ld_197, f1, l1, ia1, b_gt, g1, o_range, rg])
    have L0 : LR { h := (s.h.set s.nx (.miter nb [])).set nb (.rmap (mapG agE N) s.nx (iotaL (mapG agE N).length 0)), nx := s.nx + 1 } fb nb kb s.nx N (iotaL N.length 0) [] K := by
      have el : (mapG agE N).length = N.length := by simp [mapG]
      rw [el]
      exact ⟨(hs_ne R.fn).trans ((hs_ne (by omega)).trans R.f), hs_same, (hs_ne (by omega)).trans hs_same, (hs_ne R.d.symm).trans ((hs_ne (by omega)).trans R.k)⟩
    have F0 : FrF nb kb s { h := (s.h.set s.nx (.miter nb [])).set nb (.rmap (mapG agE N) s.nx (iotaL (mapG agE N).length 0)), nx := s.nx + 1 } :=
      ⟨Nat.le_succ _, fun i hi h1 _ => (hs_ne h1).trans (hs_ne (by omega))⟩
    have B0 : Below0 { h := (s.h.set s.nx (.miter nb [])).set nb (.rmap (mapG agE N) s.nx (iotaL (mapG agE N).length 0)), nx := s.nx + 1 } := by
      have := below_al hB (.miter nb [])
      exact below_set this (by show nb < s.nx + 1; omega) _
    refine w_loop_ind H (fun n t s' => ∃ l ix seen D, n = (leftM seen (mapG agE l) ix).length ∧ tg t 0 = .ptr fb 0 ∧ tg t 1 = .str p ∧ tg t 16 = .ptr s.nx 0 ∧ LR s' fb nb kb s.nx l ix seen (delsK D K) ∧ FrF nb kb s s' ∧ Below0 s' ∧ GI N p l ix seen D ∧ ∀ d ∈ l.map (·.1), d ∈ N.map (·.1)) (n := (leftM [] (mapG agE N) (iotaL N.length 0)).length)
      ⟨N, iotaL N.length 0, [], [], rfl, by simp only [rB, rP, rQ, boolA, intA, resultA, resA, reduceIte, reduceCtorEq, Nat.reduceAdd, Nat.reduceLT, Nat.reduceEqDiff, UInt8.reduceToNat], by simp only [rB, rP, rQ, boolA, intA, resultA, resA, reduceIte, reduceCtorEq, Nat.reduceAdd, Nat.reduceLT, Nat.reduceEqDiff, UInt8.reduceToNat], by simp only [rB, rP, rQ, boolA, intA, resultA, resA, reduceIte, reduceCtorEq, Nat.reduceAdd, Nat.reduceLT, Nat.reduceEqDiff, UInt8.reduceToNat], L0, F0, B0, GI.init hN, fun _ h => h⟩ ?_
    rintro n t s' ih ⟨l, ix, seen, D, hn, t0, t1, t16, L, hF, hB', G, hsub⟩
    cases hl : leftM seen (mapG agE l) ix with
    | nil =>
      have nk := fun {k} => nextK_nil (k := k) L.i L.n hl
      have hfin := G.fin hl
      have NE := L.ne
      have R4 : FR { s' with h := s'.h.set nb (.map (mapG agE l)) } fb nb kb l (delsK D K) := ⟨(hs_ne NE.1).trans L.f, hs_same, (hs_ne NE.2.2.2.2.1.symm).trans L.k, NE.2.2.2.2.1⟩
      have B4 : Below0 { s' with h := s'.h.set nb (.map (mapG agE l)) } := below_set hB' (hB' _ _ L.n) _
      have F4 : FrF nb kb s { s' with h := s'.h.set nb (.map (mapG agE l)) } := hF.trans (FrF.put (Or.inl rfl))
      have HD : GoneD N K p D l := Or.inl ⟨by rw [g1]; rfl, hfin.1, hfin.2⟩
      generalize ({ s' with h := s'.h.set nb (.map (mapG agE l)) } : St) = s4 at *
      repeat (first | with_reducible (refine w_one H ?_; constructor) | simp only [rB, rP, rQ, boolA, intA, resultA, resA, reduceIte, reduceCtorEq, Nat.reduceAdd, Nat.reduceLT, Nat.reduceEqDiff, UInt8.reduceToNat, pe3, pf3, fa_f0, fa_f1, ld_196, ld_197, t0, t1, t16, o_next, nk])
      -- the tail
      obtain ⟨s5, d5, R5, F5, B5⟩ := R4.delK (p := p) B4
      have f4 := R4.f
      repeat (first | with_reducible (refine w_one H ?_; constructor) | simp only [rB, rP, rQ, boolA, intA, resultA, resA, reduceIte, reduceCtorEq, Nat.reduceAdd, Nat.reduceLT, Nat.reduceEqDiff, UInt8.reduceToNat, pe3, pf3, fa_f0, fa_f1, ld_196, ld_197, t0, t1, f4, d5])
      obtain ⟨s6, d6, R6, F6, B6⟩ := R5.delN (p := p) B5
      have f5 := R5.f
      repeat (first | with_reducible (refine w_one H ?_; constructor) | simp only [rB, rP, rQ, boolA, intA, resultA, resA, reduceIte, reduceCtorEq, Nat.reduceAdd, Nat.reduceLT, Nat.reduceEqDiff, UInt8.reduceToNat, pe3, pf3, fa_f0, fa_f1, ld_196, ld_197, t0, t1, f5, d6])
      have f6 := R6.f
      have u6 := up_ct (p := upE p) (j := IntKind.i64.wrap ((lookG (upE p) (delG p (delsK D K))).getD 0 + (-1))) R6.k
      have l6 := lk_ct (p := upE p) R6.k
      have ia : ∀ b, inO (s6.h.get kb) b = b := fun b => by rw [R6.k]; rfl
      have em : ∀ x : Int, x - 1 = x + (-1) := fun x => rfl
      repeat (first | with_reducible (refine w_one H ?_; constructor) | simp only [rB, rP, rQ, boolA, intA, resultA, resA, reduceIte, reduceCtorEq, Nat.reduceAdd, Nat.reduceLT, Nat.reduceEqDiff, UInt8.reduceToNat, pe3, pf3, fa_f0, fa_f1, ld_196, ld_197, t0, t1, f6, l6, ia] | (with_reducible refine w_plan H (i := 9) (.take 0 (.take 1 (.take 2 (.take 3 (.take 4 (.alt 5 [4] (.take 6 (.take 7 (.alt 8 [0, 1, 2, 3, 4, 5, 6, 7] (.done) (.yes)))) (.yes))))))) rfl (by kernel_rfl) ?_))
      refine above_c H hp ?_
      repeat (first | with_reducible (refine w_one H ?_; constructor) | simp only [rB, rP, rQ, boolA, intA, resultA, resA, reduceIte, reduceCtorEq, Nat.reduceAdd, Nat.reduceLT, Nat.reduceEqDiff, UInt8.reduceToNat, pe3, pf3, fa_f0, fa_f1, ld_196, ld_197, t0, t1, f6, l6, ia, u6, b_minus, em, Tryz.results124] | (with_reducible refine w_plan H (i := 9) (.take 0 (.take 1 (.take 2 (.take 3 (.take 4 (.alt 5 [4] (.take 6 (.take 7 (.alt 8 [0, 1, 2, 3, 4, 5, 6, 7] (.done) (.yes)))) (.yes))))))) rfl (by kernel_rfl) ?_))
      exact hk _ (D, l) (((F4.trans F5).trans F6).trans (FrF.put (Or.inr rfl))) (below_set B6 (B6 _ _ R6.k) _) HD R6.setK
    | cons y0 ys =>
      have nk := fun {k} => nextK_all (k := k) L.i L.n (by rw [hl]; simp)
      repeat (first | with_reducible (refine w_one H ?_; constructor) | simp only [rB, rP, rQ, boolA, intA, resultA, resA, reduceIte, reduceCtorEq, Nat.reduceAdd, Nat.reduceLT, Nat.reduceEqDiff, UInt8.reduceToNat, pe3, pf3, fa_f0, fa_f1, ld_196, ld_197, t0, t1, t16, o_next, nk])
      refine List.all_eq_true.2 (fun q hq => ?_)
      obtain ⟨j, j1, j2, j3⟩ := leftM_inv hq
      obtain ⟨i, kv⟩ := q
      simp only at j1 j2 j3 hq ⊢
      obtain ⟨x, hx⟩ : ∃ x, l[j]? = some x := by
        simp only [mapG, List.getElem?_map] at j1
        cases hx : l[j]? with
        | none => rw [hx] at j1; cases j1
        | some x => exact ⟨x, rfl⟩
      have hkv : kv = (.str x.1, agE x.2) := by
        simp only [mapG, List.getElem?_map, hx, Option.map_some, Option.some.injEq] at j1
        exact j1.symm
      subst hkv
      have hlt := leftM_lt hq
      have L1 := L.seen (seen' := i :: seen)
      have B1 : Below0 { s' with h := s'.h.set s.nx (.miter nb (i :: seen)) } := below_set hB' (hB' _ _ L.i) _
      have F1 : FrF nb kb s { s' with h := s'.h.set s.nx (.miter nb (i :: seen)) } := by
        refine hF.trans' ?_
        exact ⟨rfl, fun z hz h1 h2 => hs_ne (by omega)⟩
      generalize ({ s' with h := s'.h.set s.nx (.miter nb (i :: seen)) } : St) = s1 at *
      have en := entry_at L1.i L1.n (entL_atF G.nd j1 j2)
      have ids : idsIn s1 [s.nx, nb] = true := by simp [idsIn, L1.i, L1.n]
      have f1 : binFast .add (.str p) (.str [47]) = some (.str (p ++ [47])) := b_add (by simp; omega)
      repeat (first | with_reducible (refine w_one H ?_; constructor) | simp only [rB, rP, rQ, boolA, intA, resultA, resA, reduceIte, reduceCtorEq, Nat.reduceAdd, Nat.reduceLT, Nat.reduceEqDiff, UInt8.reduceToNat, pe3, pf3, fa_f0, fa_f1, ld_196, ld_197, t0, t1, t16, o_entry, en, putE, ids, cond_true, f1])
      refine hpx_c H ?_
      have hb : hpB x.1 (p ++ [47]) = belK p x.1 := rfl
      rw [hb]
      cases hbel : belK p x.1 with
      | false =>
        have G1 := G.keep j2 hx hbel
        repeat (first | with_reducible (refine w_one H ?_; constructor) | simp only [rB, rP, rQ, boolA, intA, resultA, resA, reduceIte, reduceCtorEq, Nat.reduceAdd, Nat.reduceLT, Nat.reduceEqDiff, UInt8.reduceToNat, pe3, pf3, fa_f0, fa_f1, ld_196, ld_197, t0, t1, t16])
        exact ih _ _ _ (by rw [hn]; exact hlt) ⟨l, ix, i :: seen, D, rfl, by simp only [rB, rP, rQ, boolA, intA, resultA, resA, reduceIte, reduceCtorEq, Nat.reduceAdd, Nat.reduceLT, Nat.reduceEqDiff, UInt8.reduceToNat, t0], by simp only [rB, rP, rQ, boolA, intA, resultA, resA, reduceIte, reduceCtorEq, Nat.reduceAdd, Nat.reduceLT, Nat.reduceEqDiff, UInt8.reduceToNat, t1], by simp only [rB, rP, rQ, boolA, intA, resultA, resA, reduceIte, reduceCtorEq, Nat.reduceAdd, Nat.reduceLT, Nat.reduceEqDiff, UInt8.reduceToNat, t16], L1, F1, B1, G1, hsub⟩
      | true =>
        have G1 := G.del hsub j2 hx hbel
        obtain ⟨g2, g3, g4⟩ := findIdx_at G.kn (show l[j]? = some (x.1, x.2) from hx)
        have dn := de_nr (p := x.1) L1.n
        rw [g3, g2, g4] at dn
        simp only at dn
        have L2 := L1.delN (l' := l.eraseIdx j) (ix' := eraseL ix j)
        have B2 : Below0 { s1 with h := s1.h.set nb (.rmap (mapG agE (l.eraseIdx j)) s.nx (eraseL ix j)) } := below_set B1 (B1 _ _ L1.n) _
        have F2 : FrF nb kb s { s1 with h := s1.h.set nb (.rmap (mapG agE (l.eraseIdx j)) s.nx (eraseL ix j)) } := F1.trans (FrF.put (Or.inl rfl))
        have f1 := L1.f
        generalize ({ s1 with h := s1.h.set nb (.rmap (mapG agE (l.eraseIdx j)) s.nx (eraseL ix j)) } : St) = s2 at *
        repeat (first | with_reducible (refine w_one H ?_; constructor) | simp only [rB, rP, rQ, boolA, intA, resultA, resA, reduceIte, reduceCtorEq, Nat.reduceAdd, Nat.reduceLT, Nat.reduceEqDiff, UInt8.reduceToNat, pe3, pf3, fa_f0, fa_f1, ld_196, ld_197, t0, t1, t16, f1, dn])
        obtain ⟨s3, d3, L3, F3, B3⟩ := L2.delK (p := x.1) B2
        have f2 := L2.f
        repeat (first | with_reducible (refine w_one H ?_; constructor) | simp only [rB, rP, rQ, boolA, intA, resultA, resA, reduceIte, reduceCtorEq, Nat.reduceAdd, Nat.reduceLT, Nat.reduceEqDiff, UInt8.reduceToNat, pe3, pf3, fa_f0, fa_f1, ld_196, ld_197, t0, t1, t16, f2, d3])
        rw [eraseL_eq] at L3
        have hme : (leftM (i :: seen) (mapG agE (l.eraseIdx j)) (ix.eraseIdx j)).length < n := by
          have e1 : mapG agE (l.eraseIdx j) = eraseL (mapG agE l) j := by rw [eraseL_eq, mapG, mapG, map_erase]
          rw [e1, ← eraseL_eq, hn]
          exact Nat.lt_of_le_of_lt leftM_erase hlt
        have eD : delG x.1 (delsK D K) = delsK (D ++ [x.1]) K := by simp [delsK, List.foldl_append]
        rw [eD] at L3
        exact ih _ _ _ hme ⟨l.eraseIdx j, ix.eraseIdx j, i :: seen, D ++ [x.1], rfl, by simp only [rB, rP, rQ, boolA, intA, resultA, resA, reduceIte, reduceCtorEq, Nat.reduceAdd, Nat.reduceLT, Nat.reduceEqDiff, UInt8.reduceToNat, t0], by simp only [rB, rP, rQ, boolA, intA, resultA, resA, reduceIte, reduceCtorEq, Nat.reduceAdd, Nat.reduceLT, Nat.reduceEqDiff, UInt8.reduceToNat, t1], by simp only [rB, rP, rQ, boolA, intA, resultA, resA, reduceIte, reduceCtorEq, Nat.reduceAdd, Nat.reduceLT, Nat.reduceEqDiff, UInt8.reduceToNat, t16], L3, F2.trans F3, B3, G1, fun d hd => hsub d (by rw [map_erase] at hd; exact (List.eraseIdx_sublist ..).mem hd)⟩
end Go.AX
namespace Go.AX
open Go.Proofs Go.RowKit
set_option maxRecDepth 1000000
set_option maxHeartbeats 400000000
set_option linter.unusedSimpArgs false
set_option linter.unusedVariables false
def kd5 (e : En) : En := (e.1, bif e.2.1 == 5 then 1 else e.2.1, e.2.2.1, e.2.2.2)
inductive ApR (N : List (List Nat × En)) (K : List (List Nat × Int)) (e : En) : Bool → List (List Nat × En) → List (List Nat × Int) → Prop where
  | up : eqB (upE e.1) [] = false → (((lookG (upE e.1) N).getD enZ).2.1 != 1) = true → ApR N K e false N K
  | gone0 : e.2.1 = 4 → lookG e.1 N = none → ApR N K e false N K
  | mode (old : En) : (eqB (upE e.1) [] = true ∨ (((lookG (upE e.1) N).getD enZ).2.1 != 1) = false) → lookG e.1 N = some old → e.2.1 = 1 → old.2.1 = 1 → ApR N K e true (setG e.1 (old.1, old.2.1, e.2.2.1, old.2.2.2) N) K
  | gone1 (old : En) (D : List (List Nat)) (N1 : List (List Nat × En)) : (eqB (upE e.1) [] = true ∨ (((lookG (upE e.1) N).getD enZ).2.1 != 1) = false) → lookG e.1 N = some old → e.2.1 = 4 → GoneD N K e.1 D N1 → ApR N K e true (delG e.1 N1) (bumpK (upE e.1) (-1) (delG e.1 (delsK D K)))
  | over (old : En) (D : List (List Nat)) (N1 : List (List Nat × En)) : (eqB (upE e.1) [] = true ∨ (((lookG (upE e.1) N).getD enZ).2.1 != 1) = false) → lookG e.1 N = some old → e.2.1 ≠ 4 → (e.2.1 = 1 → old.2.1 ≠ 1) → GoneD N K e.1 D N1 → ApR N K e true (setG e.1 (kd5 e) (delG e.1 N1)) (bumpK (upE e.1) 1 (bumpK (upE e.1) (-1) (delG e.1 (delsK D K))))
  | new : (eqB (upE e.1) [] = true ∨ (((lookG (upE e.1) N).getD enZ).2.1 != 1) = false) → lookG e.1 N = none → e.2.1 ≠ 4 → ApR N K e true (setG e.1 (kd5 e) N) (bumpK (upE e.1) 1 K)
theorem fl_en1 {e : En} : fieldA TE 25 (agE e) 1 = some (.raw (.int .i64 e.2.1)) := by kernel_rfl
theorem ldG_4 {a0 a1 a2 a3 : AV} {el fz : Nat} : ldG 4 (some (.cells [a0, a1, a2, a3] el fz)) = some (.agg [a0, a1, a2, a3]) := (rfl)
theorem beqM_E : ∀ {l : List (List Nat × En)}, beqM (mapG agE l) (mapG agE l) = true
  | [] => rfl
  | (q, e) :: l => by
    have ih := beqM_E (l := l)
    simp only [mapG] at ih
    have h : beqAs (celE e) (celE e) = true := beq_cel
    have h2 : beqA (agE e) (agE e) = true := h
    simp only [mapG, List.map_cons, beqM, ih, h2, ba_str, Bool.and_self]
theorem rf_mapE {l : List (List Nat × En)} : beqO (.map (mapG agE l)) (.map (mapG agE l)) = true := beqM_E
theorem apply_fc {s : St} (H : Ok TE Tryz.prog pr3) (hB : Below0 s) {fb nb kb : Nat} {N : List (List Nat × En)} {K : List (List Nat × Int)} (R : FR s fb nb kb N K) (hN : (N.map (·.1)).Nodup) {e : En} (hp : e.1.length ≤ 1000000) {kr kp : AV → St → Bool}
    (hk : ∀ (s' : St) b N' K', FrF nb kb s s' → Below0 s' → ApR N K e b N' K' → FR s' fb nb kb N' K' → kr (.raw (.bool b)) s' = true) :
    (sem Tryz.prog).call 74 [.ptr fb 0, agE e] s kr kp = true := by
  refine w_call H 73 fn_74 rfl rfl ?_
  have hB1 : Below0 (s.alloc (.cells (celE e) 25 0)) := below_al hB _
  have hE1 : Ext s (s.alloc (.cells (celE e) 25 0)) := Ext.alloc s _
  have R1 := R.ext hB hE1
  have c1 : (s.alloc (.cells (celE e) 25 0)).h.get s.nx = some (.cells (celE e) 25 0) := al_same
  have n1 : (s.alloc (.cells (celE e) 25 0)).nx = s.nx + 1 := rfl
  have hnb := hB _ _ R.n
  have hkb := hB _ _ R.k
  have hfb := hB _ _ R.f
  have hag : agE e = .agg (celE e) := rfl
  rw [hag]
  repeat (first | with_reducible (refine w_one H ?_; constructor) | simp only [rB, rP, rQ, boolA, intA, resultA, resA, reduceIte, reduceCtorEq, Nat.reduceAdd, Nat.reduceLT, Nat.reduceEqDiff, UInt8.reduceToNat, pe3, pf3, cells_agg])
  generalize s.alloc (.cells (celE e) 25 0) = s1 at *
  have F1 : FrF nb kb s s1 := FrF.of hE1
  repeat (first | with_reducible (refine w_one H ?_; constructor) | simp only [rB, rP, rQ, boolA, intA, resultA, resA, reduceIte, reduceCtorEq, Nat.reduceAdd, Nat.reduceLT, Nat.reduceEqDiff, UInt8.reduceToNat, pe3, pf3, c1, fa_en0, fa_en1, fa_en2, fa_en3, ld_9, ld_3, ldE0, ldE1, ce_0, ce_1])
  refine above_c H hp ?_
  have f1 := R1.f
  have l1 := lk_ne (p := upE e.1) R1.n
  have ia : ∀ b, inO (s1.h.get nb) b = b := fun b => by rw [R1.n]; rfl
  cases h1 : eqB (upE e.1) [] with
  | false =>
    cases h2 : ((lookG (upE e.1) N).getD enZ).2.1 != 1 with
    | true =>
      repeat (first | with_reducible (refine w_one H ?_; constructor) | simp only [rB, rP, rQ, boolA, intA, resultA, resA, reduceIte, reduceCtorEq, Nat.reduceAdd, Nat.reduceLT, Nat.reduceEqDiff, UInt8.reduceToNat, pe3, pf3, b_nes0, h1, Bool.not_false, f1, fa_f0, ld_196, l1, ia, fl_en1, b_nei, h2, Tryz.results74])
      exact hk s1 false N K F1 hB1 (.up h1 h2) R1
    | false =>
      repeat (first | with_reducible (refine w_one H ?_; constructor) | simp only [rB, rP, rQ, boolA, intA, resultA, resA, reduceIte, reduceCtorEq, Nat.reduceAdd, Nat.reduceLT, Nat.reduceEqDiff, UInt8.reduceToNat, pe3, pf3, b_nes0, h1, Bool.not_false, f1, fa_f0, ld_196, l1, ia, fl_en1, b_nei, h2])
      have n1' := R1.n
      have m1 : (nb = s1.nx) = False := by simp; omega
      have m2 : (s.nx = s1.nx) = False := by simp; omega
      have m3 : (fb = s1.nx) = False := by simp; omega
      have lt := lk_nt (p := e.1) R1.n
      cases hl : lookG e.1 N with
      | none =>
        rw [hl] at lt
        simp only [Option.getD_none, Option.isSome_none] at lt
        have B2 : Below0 { h := (s1.alloc (.cells [.str [], .raw (.int .i64 0), .raw (.int .i64 0), .str []] 25 0)).h.set s1.nx (.cells (celE enZ) 25 0), nx := s1.nx + 1 } := below_putS hB1
        have E2 : Ext s1 { h := (s1.alloc (.cells [.str [], .raw (.int .i64 0), .raw (.int .i64 0), .str []] 25 0)).h.set s1.nx (.cells (celE enZ) 25 0), nx := s1.nx + 1 } := ext_putS
        have o2 : ({ h := (s1.alloc (.cells [.str [], .raw (.int .i64 0), .raw (.int .i64 0), .str []] 25 0)).h.set s1.nx (.cells (celE enZ) 25 0), nx := s1.nx + 1 } : St).h.get s1.nx = some (.cells (celE enZ) 25 0) := hs_same
        have R2 := R1.ext hB1 E2
        have c2 := (E2.2 _ (hB1 _ _ c1)).trans c1
        have F2 : FrF nb kb s _ := F1.trans (FrF.of E2)
        have n2 : ({ h := (s1.alloc (.cells [.str [], .raw (.int .i64 0), .raw (.int .i64 0), .str []] 25 0)).h.set s1.nx (.cells (celE enZ) 25 0), nx := s1.nx + 1 } : St).nx = s1.nx + 1 := rfl
        generalize hS2 : ({ h := (s1.alloc (.cells [.str [], .raw (.int .i64 0), .raw (.int .i64 0), .str []] 25 0)).h.set s1.nx (.cells (celE enZ) 25 0), nx := s1.nx + 1 } : St) = s2 at *
        repeat (first | with_reducible (refine w_one H ?_; constructor) | simp only [rB, rP, rQ, boolA, intA, resultA, resA, reduceIte, reduceCtorEq, Nat.reduceAdd, Nat.reduceLT, Nat.reduceEqDiff, UInt8.reduceToNat, pe3, pf3, fa_f0, fa_en0, fa_en1, fa_en2, fa_en3, ld_196, ld_9, ld_3, ldE0, ldE1, ldE2, ldE3, ce_0, ce_1, ce_2, ce_3, b_eqi, f1, c1, lt, ia, all_en, st_en, stA_en, n1', m1, m2, m3, rf_mapE, beq_cel, hS2] | (with_reducible refine w_plan H (i := 4) (.take 0 (.take 1 (.take 2 (.take 3 (.take 4 (.take 5 (.take 6 (.take 7 (.take 8 (.take 9 (.alt 10 [] (.alt 11 [0, 1, 2, 3, 4, 5, 6, 7, 8, 10] (.take 12 (.done)) (.yes)) (.yes)))))))))))) rfl (by kernel_rfl) ?_))
        have f1 := R2.f
        have z1 : (enZ.2.1 == 1) = false := rfl
        cases k4 : e.2.1 == 4 with
        | true =>
          repeat (first | with_reducible (refine w_one H ?_; constructor) | simp only [rB, rP, rQ, boolA, intA, resultA, resA, reduceIte, reduceCtorEq, Nat.reduceAdd, Nat.reduceLT, Nat.reduceEqDiff, UInt8.reduceToNat, pe3, pf3, fa_f0, fa_en0, fa_en1, fa_en2, fa_en3, ld_196, ld_9, ld_3, ldE0, ldE1, ldE2, ldE3, ce_0, ce_1, ce_2, ce_3, b_eqi, f1, c2, o2, k4, Bool.not_false, Tryz.results74])
          exact hk s2 false N K F2 B2 (.gone0 (by simpa using k4) hl) R2
        | false =>
          have k4' : e.2.1 ≠ 4 := by simpa using k4
          cases k1 : e.2.1 == 1 with
          | true =>
            have k5 : (e.2.1 == 5) = false := by
              have : e.2.1 = 1 := by simpa using k1
              rw [this]; rfl
            repeat (first | with_reducible (refine w_one H ?_; constructor) | simp only [rB, rP, rQ, boolA, intA, resultA, resA, reduceIte, reduceCtorEq, Nat.reduceAdd, Nat.reduceLT, Nat.reduceEqDiff, UInt8.reduceToNat, pe3, pf3, fa_f0, fa_en0, fa_en1, fa_en2, fa_en3, ld_196, ld_9, ld_3, ldE0, ldE1, ldE2, ldE3, ce_0, ce_1, ce_2, ce_3, b_eqi, f1, c2, o2, k4, k1, z1])
            have e5 : kd5 e = e := by
              unfold kd5
              rw [k5]
              rfl
            repeat (first | with_reducible (refine w_one H ?_; constructor) | simp only [rB, rP, rQ, boolA, intA, resultA, resA, reduceIte, reduceCtorEq, Nat.reduceAdd, Nat.reduceLT, Nat.reduceEqDiff, UInt8.reduceToNat, pe3, pf3, fa_f0, fa_en0, fa_en1, fa_en2, fa_en3, ld_196, ld_9, ld_3, ldE0, ldE1, ldE2, ldE3, ce_0, ce_1, ce_2, ce_3, b_eqi, f1, c2, k4, k5, ld_en, ldG_en, beq_cel])
            refine put_fc H B2 R2 (e := e) hp (fun s9 F9 B9 R9 => ?_)
            repeat (first | with_reducible (refine w_one H ?_; constructor) | simp only [rB, rP, rQ, boolA, intA, resultA, resA, reduceIte, reduceCtorEq, Nat.reduceAdd, Nat.reduceLT, Nat.reduceEqDiff, UInt8.reduceToNat, pe3, pf3, fa_f0, fa_en0, fa_en1, fa_en2, fa_en3, ld_196, ld_9, ld_3, ldE0, ldE1, ldE2, ldE3, ce_0, ce_1, ce_2, ce_3, b_eqi, Tryz.results74])
            have A := ApR.new (K := K) (Or.inr h2) hl k4'
            rw [e5] at A
            exact hk s9 true _ _ (F2.trans F9) B9 A R9
          | false =>
            cases k5 : e.2.1 == 5 with
            | false =>
              repeat (first | with_reducible (refine w_one H ?_; constructor) | simp only [rB, rP, rQ, boolA, intA, resultA, resA, reduceIte, reduceCtorEq, Nat.reduceAdd, Nat.reduceLT, Nat.reduceEqDiff, UInt8.reduceToNat, pe3, pf3, fa_f0, fa_en0, fa_en1, fa_en2, fa_en3, ld_196, ld_9, ld_3, ldE0, ldE1, ldE2, ldE3, ce_0, ce_1, ce_2, ce_3, b_eqi, f1, c2, o2, k4, k1])
              have e5 : kd5 e = e := by
                unfold kd5
                rw [k5]
                rfl
              repeat (first | with_reducible (refine w_one H ?_; constructor) | simp only [rB, rP, rQ, boolA, intA, resultA, resA, reduceIte, reduceCtorEq, Nat.reduceAdd, Nat.reduceLT, Nat.reduceEqDiff, UInt8.reduceToNat, pe3, pf3, fa_f0, fa_en0, fa_en1, fa_en2, fa_en3, ld_196, ld_9, ld_3, ldE0, ldE1, ldE2, ldE3, ce_0, ce_1, ce_2, ce_3, b_eqi, f1, c2, k4, k5, ld_en, ldG_en, beq_cel])
              refine put_fc H B2 R2 (e := e) hp (fun s9 F9 B9 R9 => ?_)
              repeat (first | with_reducible (refine w_one H ?_; constructor) | simp only [rB, rP, rQ, boolA, intA, resultA, resA, reduceIte, reduceCtorEq, Nat.reduceAdd, Nat.reduceLT, Nat.reduceEqDiff, UInt8.reduceToNat, pe3, pf3, fa_f0, fa_en0, fa_en1, fa_en2, fa_en3, ld_196, ld_9, ld_3, ldE0, ldE1, ldE2, ldE3, ce_0, ce_1, ce_2, ce_3, b_eqi, Tryz.results74])
              have A := ApR.new (K := K) (Or.inr h2) hl k4'
              rw [e5] at A
              exact hk s9 true _ _ (F2.trans F9) B9 A R9
            | true =>
              repeat (first | with_reducible (refine w_one H ?_; constructor) | simp only [rB, rP, rQ, boolA, intA, resultA, resA, reduceIte, reduceCtorEq, Nat.reduceAdd, Nat.reduceLT, Nat.reduceEqDiff, UInt8.reduceToNat, pe3, pf3, fa_f0, fa_en0, fa_en1, fa_en2, fa_en3, ld_196, ld_9, ld_3, ldE0, ldE1, ldE2, ldE3, ce_0, ce_1, ce_2, ce_3, b_eqi, f1, c2, o2, k4, k1])
              have cu : s2.h.get s.nx = some (.cells [.str e.1, .raw (.int .i64 e.2.1), .raw (.int .i64 e.2.2.1), .str e.2.2.2] 25 0) := c2
              have hp' : (kd5 e).1.length ≤ 1000000 := hp
              have hlt := B2 _ _ c2
              have e5 : kd5 e = (e.1, 1, e.2.2.1, e.2.2.2) := by unfold kd5; rw [k5]; rfl
              have Bq : Below0 { s2 with h := s2.h.set s.nx (.cells [.str e.1, .raw (.int .i64 1), .raw (.int .i64 e.2.2.1), .str e.2.2.2] 25 0) } := below_set B2 hlt _
              have Rq : FR { s2 with h := s2.h.set s.nx (.cells [.str e.1, .raw (.int .i64 1), .raw (.int .i64 e.2.2.1), .str e.2.2.2] 25 0) } fb nb kb N K := ⟨(hs_ne (by omega)).trans R2.f, (hs_ne (by omega)).trans R2.n, (hs_ne (by omega)).trans R2.k, R2.d⟩
              have Fq : FrF nb kb s { s2 with h := s2.h.set s.nx (.cells [.str e.1, .raw (.int .i64 1), .raw (.int .i64 e.2.2.1), .str e.2.2.2] 25 0) } := F2.trans' ⟨rfl, fun z hz _ _ => hs_ne (by omega)⟩
              repeat (first | with_reducible (refine w_one H ?_; constructor) | simp only [rB, rP, rQ, boolA, intA, resultA, resA, reduceIte, reduceCtorEq, Nat.reduceAdd, Nat.reduceLT, Nat.reduceEqDiff, UInt8.reduceToNat, pe3, pf3, fa_f0, fa_en0, fa_en1, fa_en2, fa_en3, ld_196, ld_9, ld_3, ldE0, ldE1, ldE2, ldE3, ce_0, ce_1, ce_2, ce_3, b_eqi, f1, cu, k4, k5, st_3, ld_en, ldG_4])
              refine put_fc H Bq Rq (e := (e.1, 1, e.2.2.1, e.2.2.2)) hp (fun s9 F9 B9 R9 => ?_)
              repeat (first | with_reducible (refine w_one H ?_; constructor) | simp only [rB, rP, rQ, boolA, intA, resultA, resA, reduceIte, reduceCtorEq, Nat.reduceAdd, Nat.reduceLT, Nat.reduceEqDiff, UInt8.reduceToNat, pe3, pf3, fa_f0, fa_en0, fa_en1, fa_en2, fa_en3, ld_196, ld_9, ld_3, ldE0, ldE1, ldE2, ldE3, ce_0, ce_1, ce_2, ce_3, b_eqi, Tryz.results74])
              have A := ApR.new (K := K) (Or.inr h2) hl k4'
              rw [e5] at A
              exact hk s9 true _ _ (Fq.trans F9) B9 A R9
      | some old =>
        rw [hl] at lt
        simp only [Option.getD_some, Option.isSome_some] at lt
        have B2 : Below0 { h := (s1.alloc (.cells [.str [], .raw (.int .i64 0), .raw (.int .i64 0), .str []] 25 0)).h.set s1.nx (.cells (celE old) 25 0), nx := s1.nx + 1 } := below_putS hB1
        have E2 : Ext s1 { h := (s1.alloc (.cells [.str [], .raw (.int .i64 0), .raw (.int .i64 0), .str []] 25 0)).h.set s1.nx (.cells (celE old) 25 0), nx := s1.nx + 1 } := ext_putS
        have o2 : ({ h := (s1.alloc (.cells [.str [], .raw (.int .i64 0), .raw (.int .i64 0), .str []] 25 0)).h.set s1.nx (.cells (celE old) 25 0), nx := s1.nx + 1 } : St).h.get s1.nx = some (.cells (celE old) 25 0) := hs_same
        have R2 := R1.ext hB1 E2
        have c2 := (E2.2 _ (hB1 _ _ c1)).trans c1
        have F2 : FrF nb kb s _ := F1.trans (FrF.of E2)
        have n2 : ({ h := (s1.alloc (.cells [.str [], .raw (.int .i64 0), .raw (.int .i64 0), .str []] 25 0)).h.set s1.nx (.cells (celE old) 25 0), nx := s1.nx + 1 } : St).nx = s1.nx + 1 := rfl
        generalize hS2 : ({ h := (s1.alloc (.cells [.str [], .raw (.int .i64 0), .raw (.int .i64 0), .str []] 25 0)).h.set s1.nx (.cells (celE old) 25 0), nx := s1.nx + 1 } : St) = s2 at *
        repeat (first | with_reducible (refine w_one H ?_; constructor) | simp only [rB, rP, rQ, boolA, intA, resultA, resA, reduceIte, reduceCtorEq, Nat.reduceAdd, Nat.reduceLT, Nat.reduceEqDiff, UInt8.reduceToNat, pe3, pf3, fa_f0, fa_en0, fa_en1, fa_en2, fa_en3, ld_196, ld_9, ld_3, ldE0, ldE1, ldE2, ldE3, ce_0, ce_1, ce_2, ce_3, b_eqi, f1, c1, lt, ia, all_en, st_en, stA_en, n1', m1, m2, m3, rf_mapE, beq_cel, hS2] | (with_reducible refine w_plan H (i := 4) (.take 0 (.take 1 (.take 2 (.take 3 (.take 4 (.take 5 (.take 6 (.take 7 (.take 8 (.take 9 (.alt 10 [] (.alt 11 [0, 1, 2, 3, 4, 5, 6, 7, 8, 10] (.take 12 (.done)) (.yes)) (.yes)))))))))))) rfl (by kernel_rfl) ?_))
        have f1 := R2.f
        cases k4 : e.2.1 == 4 with
        | true =>
          have k4' : e.2.1 = 4 := by simpa using k4
          have k1 : (e.2.1 == 1) = false := by rw [k4']; rfl
          repeat (first | with_reducible (refine w_one H ?_; constructor) | simp only [rB, rP, rQ, boolA, intA, resultA, resA, reduceIte, reduceCtorEq, Nat.reduceAdd, Nat.reduceLT, Nat.reduceEqDiff, UInt8.reduceToNat, pe3, pf3, fa_f0, fa_en0, fa_en1, fa_en2, fa_en3, ld_196, ld_9, ld_3, ldE0, ldE1, ldE2, ldE3, ce_0, ce_1, ce_2, ce_3, b_eqi, f1, c2, o2, b_eqi, k4, Bool.not_true, k1])
          refine gone_fc H B2 R2 hN hp (fun s3 DN F3 B3 G3 R3 => ?_)
          have c3 := (F3.2 _ (by omega) (by omega) (by omega)).trans c2
          have F23 := F2.trans F3
          repeat (first | with_reducible (refine w_one H ?_; constructor) | simp only [rB, rP, rQ, boolA, intA, resultA, resA, reduceIte, reduceCtorEq, Nat.reduceAdd, Nat.reduceLT, Nat.reduceEqDiff, UInt8.reduceToNat, pe3, pf3, fa_f0, fa_en0, fa_en1, fa_en2, fa_en3, ld_196, ld_9, ld_3, ldE0, ldE1, ldE2, ldE3, ce_0, ce_1, ce_2, ce_3, b_eqi, c3, k4, Tryz.results74])
          exact hk s3 true _ _ F23 B3 (.gone1 old DN.1 DN.2 (Or.inr h2) hl k4' G3) R3
        | false =>
          have k4' : e.2.1 ≠ 4 := by simpa using k4
          cases k1 : e.2.1 == 1 with
          | true =>
            have k1' : e.2.1 = 1 := by simpa using k1
            have k5 : (e.2.1 == 5) = false := by rw [k1']; rfl
            cases z1 : old.2.1 == 1 with
            | true =>
              have z1' : old.2.1 = 1 := by simpa using z1
              have o2' : s2.h.get s1.nx = some (.cells [.str old.1, .raw (.int .i64 old.2.1), .raw (.int .i64 old.2.2.1), .str old.2.2.2] 25 0) := o2
              have hlt := B2 _ _ o2
              have B3 : Below0 { s2 with h := s2.h.set s1.nx (.cells [.str old.1, .raw (.int .i64 old.2.1), .raw (.int .i64 e.2.2.1), .str old.2.2.2] 25 0) } := below_set B2 hlt _
              have R3 : FR { s2 with h := s2.h.set s1.nx (.cells [.str old.1, .raw (.int .i64 old.2.1), .raw (.int .i64 e.2.2.1), .str old.2.2.2] 25 0) } fb nb kb N K := ⟨(hs_ne (by omega)).trans R2.f, (hs_ne (by omega)).trans R2.n, (hs_ne (by omega)).trans R2.k, R2.d⟩
              have F3 : FrF nb kb s { s2 with h := s2.h.set s1.nx (.cells [.str old.1, .raw (.int .i64 old.2.1), .raw (.int .i64 e.2.2.1), .str old.2.2.2] 25 0) } := F2.trans' ⟨rfl, fun z hz _ _ => hs_ne (by omega)⟩
              have c3 : ({ s2 with h := s2.h.set s1.nx (.cells [.str old.1, .raw (.int .i64 old.2.1), .raw (.int .i64 e.2.2.1), .str old.2.2.2] 25 0) } : St).h.get s.nx = some (.cells (celE e) 25 0) := (hs_ne (by omega)).trans c2
              have o3 : ({ s2 with h := s2.h.set s1.nx (.cells [.str old.1, .raw (.int .i64 old.2.1), .raw (.int .i64 e.2.2.1), .str old.2.2.2] 25 0) } : St).h.get s1.nx = some (.cells [.str old.1, .raw (.int .i64 old.2.1), .raw (.int .i64 e.2.2.1), .str old.2.2.2] 25 0) := hs_same
              generalize hS3 : ({ s2 with h := s2.h.set s1.nx (.cells [.str old.1, .raw (.int .i64 old.2.1), .raw (.int .i64 e.2.2.1), .str old.2.2.2] 25 0) } : St) = s3 at *
              have f3 := R3.f
              have u3 : mapUpdateA TE s3 196 (.map nb) (.str e.1) (.agg [.str old.1, .raw (.int .i64 old.2.1), .raw (.int .i64 e.2.2.1), .str old.2.2.2]) = some { s3 with h := s3.h.set nb (.map (mapG agE (setG e.1 (old.1, old.2.1, e.2.2.1, old.2.2.2) N))) } := up_ne (j := (old.1, old.2.1, e.2.2.1, old.2.2.2)) R3.n
              repeat (first | with_reducible (refine w_one H ?_; constructor) | simp only [rB, rP, rQ, boolA, intA, resultA, resA, reduceIte, reduceCtorEq, Nat.reduceAdd, Nat.reduceLT, Nat.reduceEqDiff, UInt8.reduceToNat, pe3, pf3, fa_f0, fa_en0, fa_en1, fa_en2, fa_en3, ld_196, ld_9, ld_3, ldE0, ldE1, ldE2, ldE3, ce_0, ce_1, ce_2, ce_3, b_eqi, f1, c2, o2', k4, k1, z1, st_3, hS3, f3, c3, o3, ld_en, ldG_4, u3, Tryz.results74] | (with_reducible refine w_plan H (i := 9) (.take 0 (.take 1 (.take 2 (.take 3 (.take 4 (.take 5 (.take 6 (.alt 7 [0, 1, 2, 3, 4, 5, 6] (.done) (.yes))))))))) rfl (by kernel_rfl) ?_))
              exact hk _ true _ _ (F3.trans (FrF.put (Or.inl rfl))) (below_set B3 (B3 _ _ R3.n) _) (.mode old (Or.inr h2) hl k1' z1') R3.setN
            | false =>
              have z1' : old.2.1 ≠ 1 := by simpa using z1
              repeat (first | with_reducible (refine w_one H ?_; constructor) | simp only [rB, rP, rQ, boolA, intA, resultA, resA, reduceIte, reduceCtorEq, Nat.reduceAdd, Nat.reduceLT, Nat.reduceEqDiff, UInt8.reduceToNat, pe3, pf3, fa_f0, fa_en0, fa_en1, fa_en2, fa_en3, ld_196, ld_9, ld_3, ldE0, ldE1, ldE2, ldE3, ce_0, ce_1, ce_2, ce_3, b_eqi, f1, c2, o2, b_eqi, k4, k1, z1])
              refine gone_fc H B2 R2 hN hp (fun s3 DN F3 B3 G3 R3 => ?_)
              have c3 := (F3.2 _ (by omega) (by omega) (by omega)).trans c2
              have F23 := F2.trans F3
              have e5 : kd5 e = e := by
                unfold kd5
                rw [k5]
                rfl
              repeat (first | with_reducible (refine w_one H ?_; constructor) | simp only [rB, rP, rQ, boolA, intA, resultA, resA, reduceIte, reduceCtorEq, Nat.reduceAdd, Nat.reduceLT, Nat.reduceEqDiff, UInt8.reduceToNat, pe3, pf3, fa_f0, fa_en0, fa_en1, fa_en2, fa_en3, ld_196, ld_9, ld_3, ldE0, ldE1, ldE2, ldE3, ce_0, ce_1, ce_2, ce_3, b_eqi, f1, c3, k4, k5, ld_en, ldG_en, beq_cel])
              refine put_fc H B3 R3 (e := e) hp (fun s9 F9 B9 R9 => ?_)
              repeat (first | with_reducible (refine w_one H ?_; constructor) | simp only [rB, rP, rQ, boolA, intA, resultA, resA, reduceIte, reduceCtorEq, Nat.reduceAdd, Nat.reduceLT, Nat.reduceEqDiff, UInt8.reduceToNat, pe3, pf3, fa_f0, fa_en0, fa_en1, fa_en2, fa_en3, ld_196, ld_9, ld_3, ldE0, ldE1, ldE2, ldE3, ce_0, ce_1, ce_2, ce_3, b_eqi, Tryz.results74])
              have A := ApR.over old DN.1 DN.2 (Or.inr h2) hl k4' (fun _ => z1') G3
              rw [e5] at A
              exact hk s9 true _ _ (F23.trans F9) B9 A R9
          | false =>
            have k1' : e.2.1 ≠ 1 := by simpa using k1
            cases k5 : e.2.1 == 5 with
            | false =>
              repeat (first | with_reducible (refine w_one H ?_; constructor) | simp only [rB, rP, rQ, boolA, intA, resultA, resA, reduceIte, reduceCtorEq, Nat.reduceAdd, Nat.reduceLT, Nat.reduceEqDiff, UInt8.reduceToNat, pe3, pf3, fa_f0, fa_en0, fa_en1, fa_en2, fa_en3, ld_196, ld_9, ld_3, ldE0, ldE1, ldE2, ldE3, ce_0, ce_1, ce_2, ce_3, b_eqi, f1, c2, o2, b_eqi, k4, k1])
              refine gone_fc H B2 R2 hN hp (fun s3 DN F3 B3 G3 R3 => ?_)
              have c3 := (F3.2 _ (by omega) (by omega) (by omega)).trans c2
              have F23 := F2.trans F3
              have e5 : kd5 e = e := by
                unfold kd5
                rw [k5]
                rfl
              repeat (first | with_reducible (refine w_one H ?_; constructor) | simp only [rB, rP, rQ, boolA, intA, resultA, resA, reduceIte, reduceCtorEq, Nat.reduceAdd, Nat.reduceLT, Nat.reduceEqDiff, UInt8.reduceToNat, pe3, pf3, fa_f0, fa_en0, fa_en1, fa_en2, fa_en3, ld_196, ld_9, ld_3, ldE0, ldE1, ldE2, ldE3, ce_0, ce_1, ce_2, ce_3, b_eqi, f1, c3, k4, k5, ld_en, ldG_en, beq_cel])
              refine put_fc H B3 R3 (e := e) hp (fun s9 F9 B9 R9 => ?_)
              repeat (first | with_reducible (refine w_one H ?_; constructor) | simp only [rB, rP, rQ, boolA, intA, resultA, resA, reduceIte, reduceCtorEq, Nat.reduceAdd, Nat.reduceLT, Nat.reduceEqDiff, UInt8.reduceToNat, pe3, pf3, fa_f0, fa_en0, fa_en1, fa_en2, fa_en3, ld_196, ld_9, ld_3, ldE0, ldE1, ldE2, ldE3, ce_0, ce_1, ce_2, ce_3, b_eqi, Tryz.results74])
              have A := ApR.over old DN.1 DN.2 (Or.inr h2) hl k4' (fun h => absurd h k1') G3
              rw [e5] at A
              exact hk s9 true _ _ (F23.trans F9) B9 A R9
            | true =>
              repeat (first | with_reducible (refine w_one H ?_; constructor) | simp only [rB, rP, rQ, boolA, intA, resultA, resA, reduceIte, reduceCtorEq, Nat.reduceAdd, Nat.reduceLT, Nat.reduceEqDiff, UInt8.reduceToNat, pe3, pf3, fa_f0, fa_en0, fa_en1, fa_en2, fa_en3, ld_196, ld_9, ld_3, ldE0, ldE1, ldE2, ldE3, ce_0, ce_1, ce_2, ce_3, b_eqi, f1, c2, o2, b_eqi, k4, k1])
              refine gone_fc H B2 R2 hN hp (fun s3 DN F3 B3 G3 R3 => ?_)
              have c3 := (F3.2 _ (by omega) (by omega) (by omega)).trans c2
              have F23 := F2.trans F3
              have cu : s3.h.get s.nx = some (.cells [.str e.1, .raw (.int .i64 e.2.1), .raw (.int .i64 e.2.2.1), .str e.2.2.2] 25 0) := c3
              have hp' : (kd5 e).1.length ≤ 1000000 := hp
              have hlt := B3 _ _ c3
              have e5 : kd5 e = (e.1, 1, e.2.2.1, e.2.2.2) := by unfold kd5; rw [k5]; rfl
              have Bq : Below0 { s3 with h := s3.h.set s.nx (.cells [.str e.1, .raw (.int .i64 1), .raw (.int .i64 e.2.2.1), .str e.2.2.2] 25 0) } := below_set B3 hlt _
              have Rq : FR { s3 with h := s3.h.set s.nx (.cells [.str e.1, .raw (.int .i64 1), .raw (.int .i64 e.2.2.1), .str e.2.2.2] 25 0) } fb nb kb (delG e.1 DN.2) (bumpK (upE e.1) (-1) (delG e.1 (delsK DN.1 K))) := ⟨(hs_ne (by omega)).trans R3.f, (hs_ne (by omega)).trans R3.n, (hs_ne (by omega)).trans R3.k, R3.d⟩
              have Fq : FrF nb kb s { s3 with h := s3.h.set s.nx (.cells [.str e.1, .raw (.int .i64 1), .raw (.int .i64 e.2.2.1), .str e.2.2.2] 25 0) } := F23.trans' ⟨rfl, fun z hz _ _ => hs_ne (by omega)⟩
              repeat (first | with_reducible (refine w_one H ?_; constructor) | simp only [rB, rP, rQ, boolA, intA, resultA, resA, reduceIte, reduceCtorEq, Nat.reduceAdd, Nat.reduceLT, Nat.reduceEqDiff, UInt8.reduceToNat, pe3, pf3, fa_f0, fa_en0, fa_en1, fa_en2, fa_en3, ld_196, ld_9, ld_3, ldE0, ldE1, ldE2, ldE3, ce_0, ce_1, ce_2, ce_3, b_eqi, f1, cu, k4, k5, st_3, ld_en, ldG_4])
              refine put_fc H Bq Rq (e := (e.1, 1, e.2.2.1, e.2.2.2)) hp (fun s9 F9 B9 R9 => ?_)
              repeat (first | with_reducible (refine w_one H ?_; constructor) | simp only [rB, rP, rQ, boolA, intA, resultA, resA, reduceIte, reduceCtorEq, Nat.reduceAdd, Nat.reduceLT, Nat.reduceEqDiff, UInt8.reduceToNat, pe3, pf3, fa_f0, fa_en0, fa_en1, fa_en2, fa_en3, ld_196, ld_9, ld_3, ldE0, ldE1, ldE2, ldE3, ce_0, ce_1, ce_2, ce_3, b_eqi, Tryz.results74])
              have A := ApR.over old DN.1 DN.2 (Or.inr h2) hl k4' (fun h => absurd h k1') G3
              rw [e5] at A
              exact hk s9 true _ _ (Fq.trans F9) B9 A R9
  | true =>
    repeat (first | with_reducible (refine w_one H ?_; constructor) | simp only [rB, rP, rQ, boolA, intA, resultA, resA, reduceIte, reduceCtorEq, Nat.reduceAdd, Nat.reduceLT, Nat.reduceEqDiff, UInt8.reduceToNat, pe3, pf3, b_nes0, h1, Bool.not_true])
    have n1' := R1.n
    have m1 : (nb = s1.nx) = False := by simp; omega
    have m2 : (s.nx = s1.nx) = False := by simp; omega
    have m3 : (fb = s1.nx) = False := by simp; omega
    have lt := lk_nt (p := e.1) R1.n
    cases hl : lookG e.1 N with
    | none =>
      rw [hl] at lt
      simp only [Option.getD_none, Option.isSome_none] at lt
      have B2 : Below0 { h := (s1.alloc (.cells [.str [], .raw (.int .i64 0), .raw (.int .i64 0), .str []] 25 0)).h.set s1.nx (.cells (celE enZ) 25 0), nx := s1.nx + 1 } := below_putS hB1
      have E2 : Ext s1 { h := (s1.alloc (.cells [.str [], .raw (.int .i64 0), .raw (.int .i64 0), .str []] 25 0)).h.set s1.nx (.cells (celE enZ) 25 0), nx := s1.nx + 1 } := ext_putS
      have o2 : ({ h := (s1.alloc (.cells [.str [], .raw (.int .i64 0), .raw (.int .i64 0), .str []] 25 0)).h.set s1.nx (.cells (celE enZ) 25 0), nx := s1.nx + 1 } : St).h.get s1.nx = some (.cells (celE enZ) 25 0) := hs_same
      have R2 := R1.ext hB1 E2
      have c2 := (E2.2 _ (hB1 _ _ c1)).trans c1
      have F2 : FrF nb kb s _ := F1.trans (FrF.of E2)
      have n2 : ({ h := (s1.alloc (.cells [.str [], .raw (.int .i64 0), .raw (.int .i64 0), .str []] 25 0)).h.set s1.nx (.cells (celE enZ) 25 0), nx := s1.nx + 1 } : St).nx = s1.nx + 1 := rfl
      generalize hS2 : ({ h := (s1.alloc (.cells [.str [], .raw (.int .i64 0), .raw (.int .i64 0), .str []] 25 0)).h.set s1.nx (.cells (celE enZ) 25 0), nx := s1.nx + 1 } : St) = s2 at *
      repeat (first | with_reducible (refine w_one H ?_; constructor) | simp only [rB, rP, rQ, boolA, intA, resultA, resA, reduceIte, reduceCtorEq, Nat.reduceAdd, Nat.reduceLT, Nat.reduceEqDiff, UInt8.reduceToNat, pe3, pf3, fa_f0, fa_en0, fa_en1, fa_en2, fa_en3, ld_196, ld_9, ld_3, ldE0, ldE1, ldE2, ldE3, ce_0, ce_1, ce_2, ce_3, b_eqi, f1, c1, lt, ia, all_en, st_en, stA_en, n1', m1, m2, m3, rf_mapE, beq_cel, hS2] | (with_reducible refine w_plan H (i := 4) (.take 0 (.take 1 (.take 2 (.take 3 (.take 4 (.take 5 (.take 6 (.take 7 (.take 8 (.take 9 (.alt 10 [] (.alt 11 [0, 1, 2, 3, 4, 5, 6, 7, 8, 10] (.take 12 (.done)) (.yes)) (.yes)))))))))))) rfl (by kernel_rfl) ?_))
      have f1 := R2.f
      have z1 : (enZ.2.1 == 1) = false := rfl
      cases k4 : e.2.1 == 4 with
      | true =>
        repeat (first | with_reducible (refine w_one H ?_; constructor) | simp only [rB, rP, rQ, boolA, intA, resultA, resA, reduceIte, reduceCtorEq, Nat.reduceAdd, Nat.reduceLT, Nat.reduceEqDiff, UInt8.reduceToNat, pe3, pf3, fa_f0, fa_en0, fa_en1, fa_en2, fa_en3, ld_196, ld_9, ld_3, ldE0, ldE1, ldE2, ldE3, ce_0, ce_1, ce_2, ce_3, b_eqi, f1, c2, o2, k4, Bool.not_false, Tryz.results74])
        exact hk s2 false N K F2 B2 (.gone0 (by simpa using k4) hl) R2
      | false =>
        have k4' : e.2.1 ≠ 4 := by simpa using k4
        cases k1 : e.2.1 == 1 with
        | true =>
          have k5 : (e.2.1 == 5) = false := by
            have : e.2.1 = 1 := by simpa using k1
            rw [this]; rfl
          repeat (first | with_reducible (refine w_one H ?_; constructor) | simp only [rB, rP, rQ, boolA, intA, resultA, resA, reduceIte, reduceCtorEq, Nat.reduceAdd, Nat.reduceLT, Nat.reduceEqDiff, UInt8.reduceToNat, pe3, pf3, fa_f0, fa_en0, fa_en1, fa_en2, fa_en3, ld_196, ld_9, ld_3, ldE0, ldE1, ldE2, ldE3, ce_0, ce_1, ce_2, ce_3, b_eqi, f1, c2, o2, k4, k1, z1])
          have e5 : kd5 e = e := by
            unfold kd5
            rw [k5]
            rfl
          repeat (first | with_reducible (refine w_one H ?_; constructor) | simp only [rB, rP, rQ, boolA, intA, resultA, resA, reduceIte, reduceCtorEq, Nat.reduceAdd, Nat.reduceLT, Nat.reduceEqDiff, UInt8.reduceToNat, pe3, pf3, fa_f0, fa_en0, fa_en1, fa_en2, fa_en3, ld_196, ld_9, ld_3, ldE0, ldE1, ldE2, ldE3, ce_0, ce_1, ce_2, ce_3, b_eqi, f1, c2, k4, k5, ld_en, ldG_en, beq_cel])
          refine put_fc H B2 R2 (e := e) hp (fun s9 F9 B9 R9 => ?_)
          repeat (first | with_reducible (refine w_one H ?_; constructor) | simp only [rB, rP, rQ, boolA, intA, resultA, resA, reduceIte, reduceCtorEq, Nat.reduceAdd, Nat.reduceLT, Nat.reduceEqDiff, UInt8.reduceToNat, pe3, pf3, fa_f0, fa_en0, fa_en1, fa_en2, fa_en3, ld_196, ld_9, ld_3, ldE0, ldE1, ldE2, ldE3, ce_0, ce_1, ce_2, ce_3, b_eqi, Tryz.results74])
          have A := ApR.new (K := K) (Or.inl h1) hl k4'
          rw [e5] at A
          exact hk s9 true _ _ (F2.trans F9) B9 A R9
        | false =>
          cases k5 : e.2.1 == 5 with
          | false =>
            repeat (first | with_reducible (refine w_one H ?_; constructor) | simp only [rB, rP, rQ, boolA, intA, resultA, resA, reduceIte, reduceCtorEq, Nat.reduceAdd, Nat.reduceLT, Nat.reduceEqDiff, UInt8.reduceToNat, pe3, pf3, fa_f0, fa_en0, fa_en1, fa_en2, fa_en3, ld_196, ld_9, ld_3, ldE0, ldE1, ldE2, ldE3, ce_0, ce_1, ce_2, ce_3, b_eqi, f1, c2, o2, k4, k1])
            have e5 : kd5 e = e := by
              unfold kd5
              rw [k5]
              rfl
            repeat (first | with_reducible (refine w_one H ?_; constructor) | simp only [rB, rP, rQ, boolA, intA, resultA, resA, reduceIte, reduceCtorEq, Nat.reduceAdd, Nat.reduceLT, Nat.reduceEqDiff, UInt8.reduceToNat, pe3, pf3, fa_f0, fa_en0, fa_en1, fa_en2, fa_en3, ld_196, ld_9, ld_3, ldE0, ldE1, ldE2, ldE3, ce_0, ce_1, ce_2, ce_3, b_eqi, f1, c2, k4, k5, ld_en, ldG_en, beq_cel])
            refine put_fc H B2 R2 (e := e) hp (fun s9 F9 B9 R9 => ?_)
            repeat (first | with_reducible (refine w_one H ?_; constructor) | simp only [rB, rP, rQ, boolA, intA, resultA, resA, reduceIte, reduceCtorEq, Nat.reduceAdd, Nat.reduceLT, Nat.reduceEqDiff, UInt8.reduceToNat, pe3, pf3, fa_f0, fa_en0, fa_en1, fa_en2, fa_en3, ld_196, ld_9, ld_3, ldE0, ldE1, ldE2, ldE3, ce_0, ce_1, ce_2, ce_3, b_eqi, Tryz.results74])
            have A := ApR.new (K := K) (Or.inl h1) hl k4'
            rw [e5] at A
            exact hk s9 true _ _ (F2.trans F9) B9 A R9
          | true =>
            repeat (first | with_reducible (refine w_one H ?_; constructor) | simp only [rB, rP, rQ, boolA, intA, resultA, resA, reduceIte, reduceCtorEq, Nat.reduceAdd, Nat.reduceLT, Nat.reduceEqDiff, UInt8.reduceToNat, pe3, pf3, fa_f0, fa_en0, fa_en1, fa_en2, fa_en3, ld_196, ld_9, ld_3, ldE0, ldE1, ldE2, ldE3, ce_0, ce_1, ce_2, ce_3, b_eqi, f1, c2, o2, k4, k1])
            have cu : s2.h.get s.nx = some (.cells [.str e.1, .raw (.int .i64 e.2.1), .raw (.int .i64 e.2.2.1), .str e.2.2.2] 25 0) := c2
            have hp' : (kd5 e).1.length ≤ 1000000 := hp
            have hlt := B2 _ _ c2
            have e5 : kd5 e = (e.1, 1, e.2.2.1, e.2.2.2) := by unfold kd5; rw [k5]; rfl
            have Bq : Below0 { s2 with h := s2.h.set s.nx (.cells [.str e.1, .raw (.int .i64 1), .raw (.int .i64 e.2.2.1), .str e.2.2.2] 25 0) } := below_set B2 hlt _
            have Rq : FR { s2 with h := s2.h.set s.nx (.cells [.str e.1, .raw (.int .i64 1), .raw (.int .i64 e.2.2.1), .str e.2.2.2] 25 0) } fb nb kb N K := ⟨(hs_ne (by omega)).trans R2.f, (hs_ne (by omega)).trans R2.n, (hs_ne (by omega)).trans R2.k, R2.d⟩
            have Fq : FrF nb kb s { s2 with h := s2.h.set s.nx (.cells [.str e.1, .raw (.int .i64 1), .raw (.int .i64 e.2.2.1), .str e.2.2.2] 25 0) } := F2.trans' ⟨rfl, fun z hz _ _ => hs_ne (by omega)⟩
            repeat (first | with_reducible (refine w_one H ?_; constructor) | simp only [rB, rP, rQ, boolA, intA, resultA, resA, reduceIte, reduceCtorEq, Nat.reduceAdd, Nat.reduceLT, Nat.reduceEqDiff, UInt8.reduceToNat, pe3, pf3, fa_f0, fa_en0, fa_en1, fa_en2, fa_en3, ld_196, ld_9, ld_3, ldE0, ldE1, ldE2, ldE3, ce_0, ce_1, ce_2, ce_3, b_eqi, f1, cu, k4, k5, st_3, ld_en, ldG_4])
            refine put_fc H Bq Rq (e := (e.1, 1, e.2.2.1, e.2.2.2)) hp (fun s9 F9 B9 R9 => ?_)
            repeat (first | with_reducible (refine w_one H ?_; constructor) | simp only [rB, rP, rQ, boolA, intA, resultA, resA, reduceIte, reduceCtorEq, Nat.reduceAdd, Nat.reduceLT, Nat.reduceEqDiff, UInt8.reduceToNat, pe3, pf3, fa_f0, fa_en0, fa_en1, fa_en2, fa_en3, ld_196, ld_9, ld_3, ldE0, ldE1, ldE2, ldE3, ce_0, ce_1, ce_2, ce_3, b_eqi, Tryz.results74])
            have A := ApR.new (K := K) (Or.inl h1) hl k4'
            rw [e5] at A
            exact hk s9 true _ _ (Fq.trans F9) B9 A R9
    | some old =>
      rw [hl] at lt
      simp only [Option.getD_some, Option.isSome_some] at lt
      have B2 : Below0 { h := (s1.alloc (.cells [.str [], .raw (.int .i64 0), .raw (.int .i64 0), .str []] 25 0)).h.set s1.nx (.cells (celE old) 25 0), nx := s1.nx + 1 } := below_putS hB1
      have E2 : Ext s1 { h := (s1.alloc (.cells [.str [], .raw (.int .i64 0), .raw (.int .i64 0), .str []] 25 0)).h.set s1.nx (.cells (celE old) 25 0), nx := s1.nx + 1 } := ext_putS
      have o2 : ({ h := (s1.alloc (.cells [.str [], .raw (.int .i64 0), .raw (.int .i64 0), .str []] 25 0)).h.set s1.nx (.cells (celE old) 25 0), nx := s1.nx + 1 } : St).h.get s1.nx = some (.cells (celE old) 25 0) := hs_same
      have R2 := R1.ext hB1 E2
      have c2 := (E2.2 _ (hB1 _ _ c1)).trans c1
      have F2 : FrF nb kb s _ := F1.trans (FrF.of E2)
      have n2 : ({ h := (s1.alloc (.cells [.str [], .raw (.int .i64 0), .raw (.int .i64 0), .str []] 25 0)).h.set s1.nx (.cells (celE old) 25 0), nx := s1.nx + 1 } : St).nx = s1.nx + 1 := rfl
      generalize hS2 : ({ h := (s1.alloc (.cells [.str [], .raw (.int .i64 0), .raw (.int .i64 0), .str []] 25 0)).h.set s1.nx (.cells (celE old) 25 0), nx := s1.nx + 1 } : St) = s2 at *
      repeat (first | with_reducible (refine w_one H ?_; constructor) | simp only [rB, rP, rQ, boolA, intA, resultA, resA, reduceIte, reduceCtorEq, Nat.reduceAdd, Nat.reduceLT, Nat.reduceEqDiff, UInt8.reduceToNat, pe3, pf3, fa_f0, fa_en0, fa_en1, fa_en2, fa_en3, ld_196, ld_9, ld_3, ldE0, ldE1, ldE2, ldE3, ce_0, ce_1, ce_2, ce_3, b_eqi, f1, c1, lt, ia, all_en, st_en, stA_en, n1', m1, m2, m3, rf_mapE, beq_cel, hS2] | (with_reducible refine w_plan H (i := 4) (.take 0 (.take 1 (.take 2 (.take 3 (.take 4 (.take 5 (.take 6 (.take 7 (.take 8 (.take 9 (.alt 10 [] (.alt 11 [0, 1, 2, 3, 4, 5, 6, 7, 8, 10] (.take 12 (.done)) (.yes)) (.yes)))))))))))) rfl (by kernel_rfl) ?_))
      have f1 := R2.f
      cases k4 : e.2.1 == 4 with
      | true =>
        have k4' : e.2.1 = 4 := by simpa using k4
        have k1 : (e.2.1 == 1) = false := by rw [k4']; rfl
        repeat (first | with_reducible (refine w_one H ?_; constructor) | simp only [rB, rP, rQ, boolA, intA, resultA, resA, reduceIte, reduceCtorEq, Nat.reduceAdd, Nat.reduceLT, Nat.reduceEqDiff, UInt8.reduceToNat, pe3, pf3, fa_f0, fa_en0, fa_en1, fa_en2, fa_en3, ld_196, ld_9, ld_3, ldE0, ldE1, ldE2, ldE3, ce_0, ce_1, ce_2, ce_3, b_eqi, f1, c2, o2, b_eqi, k4, Bool.not_true, k1])
        refine gone_fc H B2 R2 hN hp (fun s3 DN F3 B3 G3 R3 => ?_)
        have c3 := (F3.2 _ (by omega) (by omega) (by omega)).trans c2
        have F23 := F2.trans F3
        repeat (first | with_reducible (refine w_one H ?_; constructor) | simp only [rB, rP, rQ, boolA, intA, resultA, resA, reduceIte, reduceCtorEq, Nat.reduceAdd, Nat.reduceLT, Nat.reduceEqDiff, UInt8.reduceToNat, pe3, pf3, fa_f0, fa_en0, fa_en1, fa_en2, fa_en3, ld_196, ld_9, ld_3, ldE0, ldE1, ldE2, ldE3, ce_0, ce_1, ce_2, ce_3, b_eqi, c3, k4, Tryz.results74])
        exact hk s3 true _ _ F23 B3 (.gone1 old DN.1 DN.2 (Or.inl h1) hl k4' G3) R3
      | false =>
        have k4' : e.2.1 ≠ 4 := by simpa using k4
        cases k1 : e.2.1 == 1 with
        | true =>
          have k1' : e.2.1 = 1 := by simpa using k1
          have k5 : (e.2.1 == 5) = false := by rw [k1']; rfl
          cases z1 : old.2.1 == 1 with
          | true =>
            have z1' : old.2.1 = 1 := by simpa using z1
            have o2' : s2.h.get s1.nx = some (.cells [.str old.1, .raw (.int .i64 old.2.1), .raw (.int .i64 old.2.2.1), .str old.2.2.2] 25 0) := o2
            have hlt := B2 _ _ o2
            have B3 : Below0 { s2 with h := s2.h.set s1.nx (.cells [.str old.1, .raw (.int .i64 old.2.1), .raw (.int .i64 e.2.2.1), .str old.2.2.2] 25 0) } := below_set B2 hlt _
            have R3 : FR { s2 with h := s2.h.set s1.nx (.cells [.str old.1, .raw (.int .i64 old.2.1), .raw (.int .i64 e.2.2.1), .str old.2.2.2] 25 0) } fb nb kb N K := ⟨(hs_ne (by omega)).trans R2.f, (hs_ne (by omega)).trans R2.n, (hs_ne (by omega)).trans R2.k, R2.d⟩
            have F3 : FrF nb kb s { s2 with h := s2.h.set s1.nx (.cells [.str old.1, .raw (.int .i64 old.2.1), .raw (.int .i64 e.2.2.1), .str old.2.2.2] 25 0) } := F2.trans' ⟨rfl, fun z hz _ _ => hs_ne (by omega)⟩
            have c3 : ({ s2 with h := s2.h.set s1.nx (.cells [.str old.1, .raw (.int .i64 old.2.1), .raw (.int .i64 e.2.2.1), .str old.2.2.2] 25 0) } : St).h.get s.nx = some (.cells (celE e) 25 0) := (hs_ne (by omega)).trans c2
            have o3 : ({ s2 with h := s2.h.set s1.nx (.cells [.str old.1, .raw (.int .i64 old.2.1), .raw (.int .i64 e.2.2.1), .str old.2.2.2] 25 0) } : St).h.get s1.nx = some (.cells [.str old.1, .raw (.int .i64 old.2.1), .raw (.int .i64 e.2.2.1), .str old.2.2.2] 25 0) := hs_same
            generalize hS3 : ({ s2 with h := s2.h.set s1.nx (.cells [.str old.1, .raw (.int .i64 old.2.1), .raw (.int .i64 e.2.2.1), .str old.2.2.2] 25 0) } : St) = s3 at *
            have f3 := R3.f
            have u3 : mapUpdateA TE s3 196 (.map nb) (.str e.1) (.agg [.str old.1, .raw (.int .i64 old.2.1), .raw (.int .i64 e.2.2.1), .str old.2.2.2]) = some { s3 with h := s3.h.set nb (.map (mapG agE (setG e.1 (old.1, old.2.1, e.2.2.1, old.2.2.2) N))) } := up_ne (j := (old.1, old.2.1, e.2.2.1, old.2.2.2)) R3.n
            repeat (first | with_reducible (refine w_one H ?_; constructor) | simp only [rB, rP, rQ, boolA, intA, resultA, resA, reduceIte, reduceCtorEq, Nat.reduceAdd, Nat.reduceLT, Nat.reduceEqDiff, UInt8.reduceToNat, pe3, pf3, fa_f0, fa_en0, fa_en1, fa_en2, fa_en3, ld_196, ld_9, ld_3, ldE0, ldE1, ldE2, ldE3, ce_0, ce_1, ce_2, ce_3, b_eqi, f1, c2, o2', k4, k1, z1, st_3, hS3, f3, c3, o3, ld_en, ldG_4, u3, Tryz.results74] | (with_reducible refine w_plan H (i := 9) (.take 0 (.take 1 (.take 2 (.take 3 (.take 4 (.take 5 (.take 6 (.alt 7 [0, 1, 2, 3, 4, 5, 6] (.done) (.yes))))))))) rfl (by kernel_rfl) ?_))
            exact hk _ true _ _ (F3.trans (FrF.put (Or.inl rfl))) (below_set B3 (B3 _ _ R3.n) _) (.mode old (Or.inl h1) hl k1' z1') R3.setN
          | false =>
            have z1' : old.2.1 ≠ 1 := by simpa using z1
            repeat (first | with_reducible (refine w_one H ?_; constructor) | simp only [rB, rP, rQ, boolA, intA, resultA, resA, reduceIte, reduceCtorEq, Nat.reduceAdd, Nat.reduceLT, Nat.reduceEqDiff, UInt8.reduceToNat, pe3, pf3, fa_f0, fa_en0, fa_en1, fa_en2, fa_en3, ld_196, ld_9, ld_3, ldE0, ldE1, ldE2, ldE3, ce_0, ce_1, ce_2, ce_3, b_eqi, f1, c2, o2, b_eqi, k4, k1, z1])
            refine gone_fc H B2 R2 hN hp (fun s3 DN F3 B3 G3 R3 => ?_)
            have c3 := (F3.2 _ (by omega) (by omega) (by omega)).trans c2
            have F23 := F2.trans F3
            have e5 : kd5 e = e := by
              unfold kd5
              rw [k5]
              rfl
            repeat (first | with_reducible (refine w_one H ?_; constructor) | simp only [rB, rP, rQ, boolA, intA, resultA, resA, reduceIte, reduceCtorEq, Nat.reduceAdd, Nat.reduceLT, Nat.reduceEqDiff, UInt8.reduceToNat, pe3, pf3, fa_f0, fa_en0, fa_en1, fa_en2, fa_en3, ld_196, ld_9, ld_3, ldE0, ldE1, ldE2, ldE3, ce_0, ce_1, ce_2, ce_3, b_eqi, f1, c3, k4, k5, ld_en, ldG_en, beq_cel])
            refine put_fc H B3 R3 (e := e) hp (fun s9 F9 B9 R9 => ?_)
            repeat (first | with_reducible (refine w_one H ?_; constructor) | simp only [rB, rP, rQ, boolA, intA, resultA, resA, reduceIte, reduceCtorEq, Nat.reduceAdd, Nat.reduceLT, Nat.reduceEqDiff, UInt8.reduceToNat, pe3, pf3, fa_f0, fa_en0, fa_en1, fa_en2, fa_en3, ld_196, ld_9, ld_3, ldE0, ldE1, ldE2, ldE3, ce_0, ce_1, ce_2, ce_3, b_eqi, Tryz.results74])
            have A := ApR.over old DN.1 DN.2 (Or.inl h1) hl k4' (fun _ => z1') G3
            rw [e5] at A
            exact hk s9 true _ _ (F23.trans F9) B9 A R9
        | false =>
          have k1' : e.2.1 ≠ 1 := by simpa using k1
          cases k5 : e.2.1 == 5 with
          | false =>
            repeat (first | with_reducible (refine w_one H ?_; constructor) | simp only [rB, rP, rQ, boolA, intA, resultA, resA, reduceIte, reduceCtorEq, Nat.reduceAdd, Nat.reduceLT, Nat.reduceEqDiff, UInt8.reduceToNat, pe3, pf3, fa_f0, fa_en0, fa_en1, fa_en2, fa_en3, ld_196, ld_9, ld_3, ldE0, ldE1, ldE2, ldE3, ce_0, ce_1, ce_2, ce_3, b_eqi, f1, c2, o2, b_eqi, k4, k1])
            refine gone_fc H B2 R2 hN hp (fun s3 DN F3 B3 G3 R3 => ?_)
            have c3 := (F3.2 _ (by omega) (by omega) (by omega)).trans c2
            have F23 := F2.trans F3
            have e5 : kd5 e = e := by
              unfold kd5
              rw [k5]
              rfl
            repeat (first | with_reducible (refine w_one H ?_; constructor) | simp only [rB, rP, rQ, boolA, intA, resultA, resA, reduceIte, reduceCtorEq, Nat.reduceAdd, Nat.reduceLT, Nat.reduceEqDiff, UInt8.reduceToNat, pe3, pf3, fa_f0, fa_en0, fa_en1, fa_en2, fa_en3, ld_196, ld_9, ld_3, ldE0, ldE1, ldE2, ldE3, ce_0, ce_1, ce_2, ce_3, b_eqi, f1, c3, k4, k5, ld_en, ldG_en, beq_cel])
            refine put_fc H B3 R3 (e := e) hp (fun s9 F9 B9 R9 => ?_)
            repeat (first | with_reducible (refine w_one H ?_; constructor) | simp only [rB, rP, rQ, boolA, intA, resultA, resA, reduceIte, reduceCtorEq, Nat.reduceAdd, Nat.reduceLT, Nat.reduceEqDiff, UInt8.reduceToNat, pe3, pf3, fa_f0, fa_en0, fa_en1, fa_en2, fa_en3, ld_196, ld_9, ld_3, ldE0, ldE1, ldE2, ldE3, ce_0, ce_1, ce_2, ce_3, b_eqi, Tryz.results74])
            have A := ApR.over old DN.1 DN.2 (Or.inl h1) hl k4' (fun h => absurd h k1') G3
            rw [e5] at A
            exact hk s9 true _ _ (F23.trans F9) B9 A R9
          | true =>
            repeat (first | with_reducible (refine w_one H ?_; constructor) | simp only [rB, rP, rQ, boolA, intA, resultA, resA, reduceIte, reduceCtorEq, Nat.reduceAdd, Nat.reduceLT, Nat.reduceEqDiff, UInt8.reduceToNat, pe3, pf3, fa_f0, fa_en0, fa_en1, fa_en2, fa_en3, ld_196, ld_9, ld_3, ldE0, ldE1, ldE2, ldE3, ce_0, ce_1, ce_2, ce_3, b_eqi, f1, c2, o2, b_eqi, k4, k1])
            refine gone_fc H B2 R2 hN hp (fun s3 DN F3 B3 G3 R3 => ?_)
            have c3 := (F3.2 _ (by omega) (by omega) (by omega)).trans c2
            have F23 := F2.trans F3
            have cu : s3.h.get s.nx = some (.cells [.str e.1, .raw (.int .i64 e.2.1), .raw (.int .i64 e.2.2.1), .str e.2.2.2] 25 0) := c3
            have hp' : (kd5 e).1.length ≤ 1000000 := hp
            have hlt := B3 _ _ c3
            have e5 : kd5 e = (e.1, 1, e.2.2.1, e.2.2.2) := by unfold kd5; rw [k5]; rfl
            have Bq : Below0 { s3 with h := s3.h.set s.nx (.cells [.str e.1, .raw (.int .i64 1), .raw (.int .i64 e.2.2.1), .str e.2.2.2] 25 0) } := below_set B3 hlt _
            have Rq : FR { s3 with h := s3.h.set s.nx (.cells [.str e.1, .raw (.int .i64 1), .raw (.int .i64 e.2.2.1), .str e.2.2.2] 25 0) } fb nb kb (delG e.1 DN.2) (bumpK (upE e.1) (-1) (delG e.1 (delsK DN.1 K))) := ⟨(hs_ne (by omega)).trans R3.f, (hs_ne (by omega)).trans R3.n, (hs_ne (by omega)).trans R3.k, R3.d⟩
            have Fq : FrF nb kb s { s3 with h := s3.h.set s.nx (.cells [.str e.1, .raw (.int .i64 1), .raw (.int .i64 e.2.2.1), .str e.2.2.2] 25 0) } := F23.trans' ⟨rfl, fun z hz _ _ => hs_ne (by omega)⟩
            repeat (first | with_reducible (refine w_one H ?_; constructor) | simp only [rB, rP, rQ, boolA, intA, resultA, resA, reduceIte, reduceCtorEq, Nat.reduceAdd, Nat.reduceLT, Nat.reduceEqDiff, UInt8.reduceToNat, pe3, pf3, fa_f0, fa_en0, fa_en1, fa_en2, fa_en3, ld_196, ld_9, ld_3, ldE0, ldE1, ldE2, ldE3, ce_0, ce_1, ce_2, ce_3, b_eqi, f1, cu, k4, k5, st_3, ld_en, ldG_4])
            refine put_fc H Bq Rq (e := (e.1, 1, e.2.2.1, e.2.2.2)) hp (fun s9 F9 B9 R9 => ?_)
            repeat (first | with_reducible (refine w_one H ?_; constructor) | simp only [rB, rP, rQ, boolA, intA, resultA, resA, reduceIte, reduceCtorEq, Nat.reduceAdd, Nat.reduceLT, Nat.reduceEqDiff, UInt8.reduceToNat, pe3, pf3, fa_f0, fa_en0, fa_en1, fa_en2, fa_en3, ld_196, ld_9, ld_3, ldE0, ldE1, ldE2, ldE3, ce_0, ce_1, ce_2, ce_3, b_eqi, Tryz.results74])
            have A := ApR.over old DN.1 DN.2 (Or.inl h1) hl k4' (fun h => absurd h k1') G3
            rw [e5] at A
            exact hk s9 true _ _ (Fq.trans F9) B9 A R9
end Go.AX
