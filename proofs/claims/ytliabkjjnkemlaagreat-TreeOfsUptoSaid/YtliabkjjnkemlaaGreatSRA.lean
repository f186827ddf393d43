import Derived.Test.YtliabkjjnkemlaaGreatSOF
import Derived.Test.YtliabkjjnkemlaaGreatSPL
set_option linter.unusedVariables false
set_option linter.unusedSimpArgs false
set_option linter.defProp false
namespace Go.AX
open Go.Proofs Go.RowKit
set_option maxRecDepth 1000000
set_option maxHeartbeats 40000000
set_option linter.unusedSimpArgs false
set_option linter.unusedVariables false
theorem flat_call {f : FuncId} {args : List AV} {v : AV} (ha : args.all flat1 = true) (hf : flatA v = true) (h : ∀ kr kp : AV → St → Bool, (∀ s', kr v s' = true) → (sem Tryz.prog).call f args st0 kr kp = true)
    {s : St} {kr kp : AV → St → Bool} (hk : kr v s = true) : (sem Tryz.prog).call f args s kr kp = true := by
  refine sem_call.2 fun w0 w E Args R Rp hv hs hkr hkp => ?_
  obtain ⟨h1, h2⟩ := lift_flat ha hf h hv hs
  refine ⟨h1, CallsIn.mono h2 ?_⟩
  rintro en w' ⟨V, E', rfl, hE, hV, hS⟩
  exact hkr E' v s V w' hE hV hS hk
theorem slice_call {f : FuncId} {args : List AV} {names : List (List Nat)} (hn : names ≠ []) (ha : args.all flat1 = true) (h : ∀ kr kp : AV → St → Bool, (∀ V s', SlR 9 (fun _ => True) s' V names → kr V s' = true) → (sem Tryz.prog).call f args st0 kr kp = true)
    {s : St} {kr kp : AV → St → Bool} (hk : kr (mkSl 9 names s).1 (mkSl 9 names s).2 = true) : (sem Tryz.prog).call f args s kr kp = true := by
  refine sem_call.2 fun w0 w E Args R Rp hv hs hkr hkp => ?_
  obtain ⟨h1, h2⟩ := lift_slice (ty := 9) (s := s) hn ha h hv hs
  refine ⟨h1, CallsIn.mono h2 ?_⟩
  rintro en w' ⟨V, E', rfl, hE, hV, hS⟩
  exact hkr E' _ _ V w' hE hV hS hk
theorem nat_plus {k : Nat} (h : k ≤ 4000000000000000000) : IntKind.i64.wrap ((k : Int) + 1) = ((k + 1 : Nat) : Int) := by
  rw [show (k : Int) + 1 = ((k + 1 : Nat) : Int) from by simp]
  exact wrap_nat (by omega)
theorem dec_lt {a b : Nat} (h : a < b) : decide ((a : Int) < (b : Int)) = true := by rw [decide_eq_true_eq]; omega
theorem dec_nlt {a b : Nat} (h : ¬ a < b) : decide ((a : Int) < (b : Int)) = false := by rw [decide_eq_false_iff_not]; omega
def badR : List Nat → Bool → Bool
  | [], b => b
  | c :: l, b => badR l (bif b then true else bif Nat.beq c 47 then true else Nat.beq c 0)
theorem u8_eq {c d : Nat} : ((c : Int) == (d : Int)) = Nat.beq c d := by
  cases h : Nat.beq c d with
  | true => have := Nat.eq_of_beq_eq_true h; subst this; simp
  | false =>
    rw [beq_eq_false_iff_ne]
    intro e
    have : c = d := by omega
    rw [this, Nat.beq_refl] at h
    cases h
def nameR (b : List Nat) : Int := bif eqB b [] then 400 else bif badR b (bif eqB b [46] then true else bif eqB b [46, 46] then true else decide ((b.length : Int) > 16)) then 401 else 0
theorem name4_c {s : St} (H : Ok TE Tryz.prog pr3) {b : List Nat} (hb : b.length ≤ 1048576) {kr kp : AV → St → Bool} (hk : kr (.raw (.int .i64 (nameR b))) s = true) : (sem Tryz.prog).call 73 [.str b] s kr kp = true := by
  refine w_call H 38 fn_73 rfl rfl ?_
  unfold nameR at hk
  cases h0 : eqB b [] with
  | true =>
    rw [h0, cond_true] at hk
    repeat (first | with_reducible (refine w_one H ?_; constructor) | simp only [rB, rP, rQ, boolA, intA, resultA, resA, reduceIte, reduceCtorEq, Nat.reduceAdd, Nat.reduceLT, Nat.reduceEqDiff, UInt8.reduceToNat, pe3, pf3, b_eqs, h0, Tryz.results73])
    exact hk
  | false =>
  rw [h0, cond_false] at hk
  obtain ⟨bad, hbad⟩ : ∃ x : Bool, (bif eqB b [46] then true else bif eqB b [46, 46] then true else decide ((b.length : Int) > 16)) = x := ⟨_, rfl⟩
  rw [hbad] at hk
  have key : (eqB b [46] = true ∧ eqB b [46] = true ∧ eqB b [46] = true ∧ bad = true) ∨ (eqB b [46] = false ∧ eqB b [46, 46] = true ∧ eqB b [46, 46] = true ∧ bad = true) ∨ (eqB b [46] = false ∧ eqB b [46, 46] = false ∧ decide ((b.length : Int) > 16) = bad ∧ bad = bad) := by
    cases h1 : eqB b [46] with
    | true => rw [h1] at hbad; exact Or.inl ⟨rfl, rfl, rfl, hbad.symm⟩
    | false =>
      cases h2 : eqB b [46, 46] with
      | true => rw [h1, h2] at hbad; exact Or.inr (Or.inl ⟨rfl, rfl, rfl, hbad.symm⟩)
      | false => rw [h1, h2] at hbad; exact Or.inr (Or.inr ⟨rfl, rfl, hbad, rfl⟩)
  rcases key with ⟨h1, h2, h3, rfl⟩ | ⟨h1, h2, h3, rfl⟩ | ⟨h1, h2, h3, -⟩
  all_goals
    repeat (first | with_reducible (refine w_one H ?_; constructor) | simp only [rB, rP, rQ, boolA, intA, resultA, resA, reduceIte, reduceCtorEq, Nat.reduceAdd, Nat.reduceLT, Nat.reduceEqDiff, UInt8.reduceToNat, pe3, pf3, b_eqs, h0, h1, h2, h3, len_str, b_gt])
    refine w_loop_ind H (fun n t s' => ∃ (k : Nat) (bd : Bool), n + k = b.length ∧ s' = s ∧ tg t 0 = .str b ∧ tg t 3 = .raw (.bool bd) ∧ tg t 4 = .raw (.int .i64 (k : Int)) ∧ badR b _ = badR (b.drop k) bd) (n := b.length)
      ⟨0, _, rfl, rfl, by simp only [rB, rP, rQ, boolA, intA, resultA, resA, reduceIte, reduceCtorEq, Nat.reduceAdd, Nat.reduceLT, Nat.reduceEqDiff, UInt8.reduceToNat], by simp only [rB, rP, rQ, boolA, intA, resultA, resA, reduceIte, reduceCtorEq, Nat.reduceAdd, Nat.reduceLT, Nat.reduceEqDiff, UInt8.reduceToNat]; rfl, by simp only [rB, rP, rQ, boolA, intA, resultA, resA, reduceIte, reduceCtorEq, Nat.reduceAdd, Nat.reduceLT, Nat.reduceEqDiff, UInt8.reduceToNat]; rfl, rfl⟩ ?_
    rintro n t s' ih ⟨k, bd, hn, rfl, t0, t3, t4, hrun⟩
    cases n with
    | zero =>
      have g0 := dec_nlt (a := k) (b := b.length) (by omega)
      rw [List.drop_eq_nil_of_le (by omega)] at hrun
      rw [hrun] at hk
      cases bd with
      | true =>
        repeat (first | with_reducible (refine w_one H ?_; constructor) | simp only [rB, rP, rQ, boolA, intA, resultA, resA, reduceIte, reduceCtorEq, Nat.reduceAdd, Nat.reduceLT, Nat.reduceEqDiff, UInt8.reduceToNat, pe3, pf3, t0, t3, t4, len_str, b_lt, g0, Tryz.results73])
        exact hk
      | false =>
        repeat (first | with_reducible (refine w_one H ?_; constructor) | simp only [rB, rP, rQ, boolA, intA, resultA, resA, reduceIte, reduceCtorEq, Nat.reduceAdd, Nat.reduceLT, Nat.reduceEqDiff, UInt8.reduceToNat, pe3, pf3, t0, t3, t4, len_str, b_lt, g0, Tryz.results73])
        exact hk
    | succ n =>
      have hlt : k < b.length := by omega
      have g0 := dec_lt hlt
      have ew := nat_plus (k := k) (by omega)
      rw [List.drop_eq_getElem_cons hlt] at hrun
      have hx : b[k]? = some b[k] := List.getElem?_eq_getElem hlt
      generalize b[k] = x at hx hrun
      have ix := ix_b hx
      have g47 : ((x : Int) == 47) = Nat.beq x 47 := u8_eq
      have gz : ((x : Int) == 0) = Nat.beq x 0 := u8_eq
      simp only [badR] at hrun
      cases bd with
      | true =>
        repeat (first | with_reducible (refine w_one H ?_; constructor) | simp only [rB, rP, rQ, boolA, intA, resultA, resA, reduceIte, reduceCtorEq, Nat.reduceAdd, Nat.reduceLT, Nat.reduceEqDiff, UInt8.reduceToNat, pe3, pf3, t0, t3, t4, len_str, b_lt, g0, b_plus, ew])
        exact ih n _ _ (Nat.lt_succ_self n) ⟨k + 1, true, by omega, rfl, by simp only [rB, rP, rQ, boolA, intA, resultA, resA, reduceIte, reduceCtorEq, Nat.reduceAdd, Nat.reduceLT, Nat.reduceEqDiff, UInt8.reduceToNat, t0], by simp only [rB, rP, rQ, boolA, intA, resultA, resA, reduceIte, reduceCtorEq, Nat.reduceAdd, Nat.reduceLT, Nat.reduceEqDiff, UInt8.reduceToNat], by simp only [rB, rP, rQ, boolA, intA, resultA, resA, reduceIte, reduceCtorEq, Nat.reduceAdd, Nat.reduceLT, Nat.reduceEqDiff, UInt8.reduceToNat], hrun⟩
      | false =>
        cases h47 : Nat.beq x 47 with
        | true =>
          rw [h47] at hrun
          repeat (first | with_reducible (refine w_one H ?_; constructor) | simp only [rB, rP, rQ, boolA, intA, resultA, resA, reduceIte, reduceCtorEq, Nat.reduceAdd, Nat.reduceLT, Nat.reduceEqDiff, UInt8.reduceToNat, pe3, pf3, t0, t3, t4, len_str, b_lt, g0, b_plus, ew, ix, b_eqi, g47, h47])
          exact ih n _ _ (Nat.lt_succ_self n) ⟨k + 1, true, by omega, rfl, by simp only [rB, rP, rQ, boolA, intA, resultA, resA, reduceIte, reduceCtorEq, Nat.reduceAdd, Nat.reduceLT, Nat.reduceEqDiff, UInt8.reduceToNat, t0], by simp only [rB, rP, rQ, boolA, intA, resultA, resA, reduceIte, reduceCtorEq, Nat.reduceAdd, Nat.reduceLT, Nat.reduceEqDiff, UInt8.reduceToNat], by simp only [rB, rP, rQ, boolA, intA, resultA, resA, reduceIte, reduceCtorEq, Nat.reduceAdd, Nat.reduceLT, Nat.reduceEqDiff, UInt8.reduceToNat], hrun⟩
        | false =>
          rw [h47] at hrun
          cases hz : Nat.beq x 0 with
          | true =>
            rw [hz] at hrun
            repeat (first | with_reducible (refine w_one H ?_; constructor) | simp only [rB, rP, rQ, boolA, intA, resultA, resA, reduceIte, reduceCtorEq, Nat.reduceAdd, Nat.reduceLT, Nat.reduceEqDiff, UInt8.reduceToNat, pe3, pf3, t0, t3, t4, len_str, b_lt, g0, b_plus, ew, ix, b_eqi, g47, h47, gz, hz])
            exact ih n _ _ (Nat.lt_succ_self n) ⟨k + 1, true, by omega, rfl, by simp only [rB, rP, rQ, boolA, intA, resultA, resA, reduceIte, reduceCtorEq, Nat.reduceAdd, Nat.reduceLT, Nat.reduceEqDiff, UInt8.reduceToNat, t0], by simp only [rB, rP, rQ, boolA, intA, resultA, resA, reduceIte, reduceCtorEq, Nat.reduceAdd, Nat.reduceLT, Nat.reduceEqDiff, UInt8.reduceToNat], by simp only [rB, rP, rQ, boolA, intA, resultA, resA, reduceIte, reduceCtorEq, Nat.reduceAdd, Nat.reduceLT, Nat.reduceEqDiff, UInt8.reduceToNat], hrun⟩
          | false =>
            rw [hz] at hrun
            repeat (first | with_reducible (refine w_one H ?_; constructor) | simp only [rB, rP, rQ, boolA, intA, resultA, resA, reduceIte, reduceCtorEq, Nat.reduceAdd, Nat.reduceLT, Nat.reduceEqDiff, UInt8.reduceToNat, pe3, pf3, t0, t3, t4, len_str, b_lt, g0, b_plus, ew, ix, b_eqi, g47, h47, gz, hz])
            exact ih n _ _ (Nat.lt_succ_self n) ⟨k + 1, false, by omega, rfl, by simp only [rB, rP, rQ, boolA, intA, resultA, resA, reduceIte, reduceCtorEq, Nat.reduceAdd, Nat.reduceLT, Nat.reduceEqDiff, UInt8.reduceToNat, t0], by simp only [rB, rP, rQ, boolA, intA, resultA, resA, reduceIte, reduceCtorEq, Nat.reduceAdd, Nat.reduceLT, Nat.reduceEqDiff, UInt8.reduceToNat], by simp only [rB, rP, rQ, boolA, intA, resultA, resA, reduceIte, reduceCtorEq, Nat.reduceAdd, Nat.reduceLT, Nat.reduceEqDiff, UInt8.reduceToNat], hrun⟩
theorem sl_mid {b : List Nat} {l h : Nat} (h1 : l ≤ h) (h2 : h ≤ b.length) : sliceOpA TE 9 (.str b) (some (.raw (.int .i64 (l : Int)))) (some (.raw (.int .i64 (h : Int)))) none = some (.str ((b.drop l).take (h - l))) := by
  rw [sl_str]
  simp only [sliceBoundsA, no_cast, Nat.ble_eq.mpr h1, Nat.ble_eq.mpr h2, Bool.and_self, cond_true]
theorem cut4_0 (H : Ok TE Tryz.prog pr3) {b : List Nat} (hb : b.length ≤ 1048575) {kr kp : AV → St → Bool} (hk : ∀ V s', SlRep (fun _ => True) s' V (pieces b) → kr V s' = true) : (sem Tryz.prog).call 74 [.str b] st0 kr kp = true := by
  refine w_call H 32 fn_74 rfl rfl ?_
  repeat (first | with_reducible (refine w_one H ?_; constructor) | simp only [rB, rP, rQ, boolA, intA, resultA, resA, reduceIte, reduceCtorEq, Nat.reduceAdd, Nat.reduceLT, Nat.reduceEqDiff, UInt8.reduceToNat, pe3, pf3])
  refine w_loop_ind H (fun n t s' => ∃ (k fr : Nat) (V : AV) (dn : List (List Nat)), n + k = b.length + 1 ∧ tg t 0 = .str b ∧ tg t 3 = V ∧ tg t 4 = .raw (.int .i64 (fr : Int)) ∧ tg t 5 = .raw (.int .i64 (k : Int)) ∧ SlRep (fun _ => True) s' V dn ∧ dn.length ≤ k ∧
      ((k ≤ b.length ∧ fr ≤ k ∧ pieces b = dn ++ pieces (b.drop fr) ∧ 47 ∉ (b.drop fr).take (k - fr)) ∨ (k = b.length + 1 ∧ pieces b = dn))) (n := b.length + 1)
    ⟨0, 0, _, [], rfl, by simp only [rB, rP, rQ, boolA, intA, resultA, resA, reduceIte, reduceCtorEq, Nat.reduceAdd, Nat.reduceLT, Nat.reduceEqDiff, UInt8.reduceToNat], by simp only [rB, rP, rQ, boolA, intA, resultA, resA, reduceIte, reduceCtorEq, Nat.reduceAdd, Nat.reduceLT, Nat.reduceEqDiff, UInt8.reduceToNat], by simp only [rB, rP, rQ, boolA, intA, resultA, resA, reduceIte, reduceCtorEq, Nat.reduceAdd, Nat.reduceLT, Nat.reduceEqDiff, UInt8.reduceToNat]; rfl, by simp only [rB, rP, rQ, boolA, intA, resultA, resA, reduceIte, reduceCtorEq, Nat.reduceAdd, Nat.reduceLT, Nat.reduceEqDiff, UInt8.reduceToNat]; rfl, Or.inl ⟨rfl, rfl⟩, Nat.le_refl _, Or.inl ⟨Nat.zero_le _, Nat.le_refl _, rfl, by simp⟩⟩ ?_
  rintro n t s' ih ⟨k, fr, V, dn, hn, t0, t3, t4, t5, hV, hd, hcase⟩
  cases n with
  | zero =>
    rcases hcase with ⟨h1, _⟩ | ⟨h1, h2⟩
    · omega
    have g0 : decide ((k : Int) ≤ (b.length : Int)) = false := by rw [decide_eq_false_iff_not]; omega
    repeat (first | with_reducible (refine w_one H ?_; constructor) | simp only [rB, rP, rQ, boolA, intA, resultA, resA, reduceIte, reduceCtorEq, Nat.reduceAdd, Nat.reduceLT, Nat.reduceEqDiff, UInt8.reduceToNat, pe3, pf3, t0, t3, t4, t5, len_str, b_le, g0, Tryz.results74])
    refine hk _ _ ?_
    rw [h2]
    exact hV
  | succ n =>
    rcases hcase with ⟨h1, h2, h3, h4⟩ | ⟨h1, h2⟩
    · have g0 : decide ((k : Int) ≤ (b.length : Int)) = true := by rw [decide_eq_true_eq]; omega
      have ew := nat_plus (k := k) (by omega)
      have sm := sl_mid h2 h1
      by_cases hend : k = b.length
      · have g1 : ((k : Int) == (b.length : Int)) = true := by simp; omega
        have g1' : ((b.length : Int) == (b.length : Int)) = true := by simp
        repeat (first | with_reducible (refine w_one H ?_; constructor) | simp only [rB, rP, rQ, boolA, intA, resultA, resA, reduceIte, reduceCtorEq, Nat.reduceAdd, Nat.reduceLT, Nat.reduceEqDiff, UInt8.reduceToNat, pe3, pf3, t0, t3, t4, t5, len_str, b_le, g0, b_eqi, g1, b_plus, ew, sm, bs_one])
        refine app_step (F := fun _ => True) (p := (b.drop fr).take (k - fr)) (names := dn) (hV.alloc _) al_same trivial (by omega) ?_
        intro V' s2 hr _ _
        repeat (first | with_reducible (refine w_one H ?_; constructor) | simp only [rB, rP, rQ, boolA, intA, resultA, resA, reduceIte, reduceCtorEq, Nat.reduceAdd, Nat.reduceLT, Nat.reduceEqDiff, UInt8.reduceToNat, t0, t3, t4, t5, b_plus, ew])
        have hp : pieces (b.drop fr) = [(b.drop fr).take (k - fr)] := by
          have e : (b.drop fr).take (k - fr) = b.drop fr := List.take_of_length_le (by simp; omega)
          rw [e] at h4 ⊢
          exact pieces_plain h4
        exact ih n _ _ (Nat.lt_succ_self n) ⟨k + 1, k + 1, _, _, by omega, by simp only [rB, rP, rQ, boolA, intA, resultA, resA, reduceIte, reduceCtorEq, Nat.reduceAdd, Nat.reduceLT, Nat.reduceEqDiff, UInt8.reduceToNat, t0], by simp only [rB, rP, rQ, boolA, intA, resultA, resA, reduceIte, reduceCtorEq, Nat.reduceAdd, Nat.reduceLT, Nat.reduceEqDiff, UInt8.reduceToNat], by simp only [rB, rP, rQ, boolA, intA, resultA, resA, reduceIte, reduceCtorEq, Nat.reduceAdd, Nat.reduceLT, Nat.reduceEqDiff, UInt8.reduceToNat], by simp only [rB, rP, rQ, boolA, intA, resultA, resA, reduceIte, reduceCtorEq, Nat.reduceAdd, Nat.reduceLT, Nat.reduceEqDiff, UInt8.reduceToNat], hr, by simp; omega, Or.inr ⟨by omega, by rw [h3, hp]⟩⟩
      · have hlt : k < b.length := by omega
        have g1 : ((k : Int) == (b.length : Int)) = false := by simp; omega
        have hx : b[k]? = some b[k] := List.getElem?_eq_getElem hlt
        have hdk : b.drop k = b[k] :: b.drop (k + 1) := List.drop_eq_getElem_cons hlt
        have hsp : b.drop fr = (b.drop fr).take (k - fr) ++ b.drop k := by
          have := (List.take_append_drop (k - fr) (b.drop fr)).symm
          rw [List.drop_drop, show fr + (k - fr) = k from by omega] at this
          exact this
        have htk : (b.drop fr).take (k + 1 - fr) = (b.drop fr).take (k - fr) ++ [b[k]] := by
          rw [show k + 1 - fr = (k - fr) + 1 from by omega, List.take_add_one, List.getElem?_drop, show fr + (k - fr) = k from by omega, hx]
          rfl
        generalize b[k] = x at hx hdk htk
        have ix := ix_b hx
        have g47 : ((x : Int) == 47) = Nat.beq x 47 := u8_eq
        cases h47 : Nat.beq x 47 with
        | true =>
          have hx47 := Nat.eq_of_beq_eq_true h47
          subst hx47
          repeat (first | with_reducible (refine w_one H ?_; constructor) | simp only [rB, rP, rQ, boolA, intA, resultA, resA, reduceIte, reduceCtorEq, Nat.reduceAdd, Nat.reduceLT, Nat.reduceEqDiff, UInt8.reduceToNat, pe3, pf3, t0, t3, t4, t5, len_str, b_le, g0, b_eqi, g1, b_plus, ew, sm, bs_one, ix, g47, h47])
          refine app_step (F := fun _ => True) (p := (b.drop fr).take (k - fr)) (names := dn) (hV.alloc _) al_same trivial (by omega) ?_
          intro V' s2 hr _ _
          repeat (first | with_reducible (refine w_one H ?_; constructor) | simp only [rB, rP, rQ, boolA, intA, resultA, resA, reduceIte, reduceCtorEq, Nat.reduceAdd, Nat.reduceLT, Nat.reduceEqDiff, UInt8.reduceToNat, t0, t3, t4, t5, b_plus, ew])
          have hp : pieces (b.drop fr) = (b.drop fr).take (k - fr) :: pieces (b.drop (k + 1)) := by
            rw [hdk] at hsp
            have e2 := hsp
            have h5 := h4
            generalize List.take (k - fr) (List.drop fr b) = pre at e2 h5 ⊢
            rw [e2, pieces_app h5]
          exact ih n _ _ (Nat.lt_succ_self n) ⟨k + 1, k + 1, _, _, by omega, by simp only [rB, rP, rQ, boolA, intA, resultA, resA, reduceIte, reduceCtorEq, Nat.reduceAdd, Nat.reduceLT, Nat.reduceEqDiff, UInt8.reduceToNat, t0], by simp only [rB, rP, rQ, boolA, intA, resultA, resA, reduceIte, reduceCtorEq, Nat.reduceAdd, Nat.reduceLT, Nat.reduceEqDiff, UInt8.reduceToNat], by simp only [rB, rP, rQ, boolA, intA, resultA, resA, reduceIte, reduceCtorEq, Nat.reduceAdd, Nat.reduceLT, Nat.reduceEqDiff, UInt8.reduceToNat], by simp only [rB, rP, rQ, boolA, intA, resultA, resA, reduceIte, reduceCtorEq, Nat.reduceAdd, Nat.reduceLT, Nat.reduceEqDiff, UInt8.reduceToNat], hr, by simp; omega, Or.inl ⟨by omega, Nat.le_refl _, by rw [h3, hp]; simp, by simp⟩⟩
        | false =>
          repeat (first | with_reducible (refine w_one H ?_; constructor) | simp only [rB, rP, rQ, boolA, intA, resultA, resA, reduceIte, reduceCtorEq, Nat.reduceAdd, Nat.reduceLT, Nat.reduceEqDiff, UInt8.reduceToNat, pe3, pf3, t0, t3, t4, t5, len_str, b_le, g0, b_eqi, g1, b_plus, ew, sm, ix, g47, h47])
          refine ih n _ _ (Nat.lt_succ_self n) ⟨k + 1, fr, V, dn, by omega, by simp only [rB, rP, rQ, boolA, intA, resultA, resA, reduceIte, reduceCtorEq, Nat.reduceAdd, Nat.reduceLT, Nat.reduceEqDiff, UInt8.reduceToNat, t0], by simp only [rB, rP, rQ, boolA, intA, resultA, resA, reduceIte, reduceCtorEq, Nat.reduceAdd, Nat.reduceLT, Nat.reduceEqDiff, UInt8.reduceToNat, t3], by simp only [rB, rP, rQ, boolA, intA, resultA, resA, reduceIte, reduceCtorEq, Nat.reduceAdd, Nat.reduceLT, Nat.reduceEqDiff, UInt8.reduceToNat, t4], by simp only [rB, rP, rQ, boolA, intA, resultA, resA, reduceIte, reduceCtorEq, Nat.reduceAdd, Nat.reduceLT, Nat.reduceEqDiff, UInt8.reduceToNat], hV, by omega, Or.inl ⟨by omega, by omega, h3, ?_⟩⟩
          rw [htk]
          simp only [List.mem_append, List.mem_singleton, not_or]
          exact ⟨h4, fun e => by rw [← e] at h47; cases h47⟩
    · omega
theorem parts4_c {s : St} (H : Ok TE Tryz.prog pr3) {b : List Nat} (hb : b.length ≤ 1048575) {kr kp : AV → St → Bool} (hk : kr (mkSl 9 (partsL b) s).1 (mkSl 9 (partsL b) s).2 = true) : (sem Tryz.prog).call 50 [.str b] s kr kp = true := by
  by_cases h0 : b = []
  · subst h0
    have e0 : eqB ([] : List Nat) [] = true := rfl
    refine w_call H 7 fn_50 rfl rfl ?_
    repeat (first | with_reducible (refine w_one H ?_; constructor) | simp only [rB, rP, rQ, boolA, intA, resultA, resA, reduceIte, reduceCtorEq, Nat.reduceAdd, Nat.reduceLT, Nat.reduceEqDiff, UInt8.reduceToNat, pe3, pf3, b_eqs, e0, Tryz.results50])
    exact hk
  · have hne : partsL b ≠ [] := by rw [partsL_ne h0]; exact pieces_ne b
    refine slice_call hne rfl (fun kr kp hk => ?_) hk
    have e0 := eqB_of h0
    refine w_call H 7 fn_50 rfl rfl ?_
    repeat (first | with_reducible (refine w_one H ?_; constructor) | simp only [rB, rP, rQ, boolA, intA, resultA, resA, reduceIte, reduceCtorEq, Nat.reduceAdd, Nat.reduceLT, Nat.reduceEqDiff, UInt8.reduceToNat, pe3, pf3, b_eqs, e0])
    refine cut4_0 H hb (fun V s' hV => ?_)
    repeat (first | with_reducible (refine w_one H ?_; constructor) | simp only [rB, rP, rQ, boolA, intA, resultA, resA, reduceIte, reduceCtorEq, Nat.reduceAdd, Nat.reduceLT, Nat.reduceEqDiff, UInt8.reduceToNat, pe3, pf3, Tryz.results50])
    rw [partsL_ne h0] at hk
    exact hk _ _ hV
def allR : List (List Nat) → Bool
  | [] => true
  | p :: l => bif nameR p != 0 then false else allR l
def isCleanR (b : List Nat) : Bool := bif decide (((partsL b).length : Int) > 8) then false else bif decide ((b.length : Int) > 140) then false else allR (partsL b)
theorem mem_pieces_len : ∀ {b p : List Nat}, p ∈ pieces b → p.length ≤ b.length := by
  intro b p h
  have e := join_pieces (b := b)
  have key : ∀ l : List (List Nat), p ∈ l → p.length ≤ (joinL [47] l).length := by
    intro l
    induction l with
    | nil => intro h; cases h
    | cons x l ih =>
      intro h
      cases l with
      | nil =>
        rcases List.mem_cons.mp h with rfl | h
        · exact Nat.le_refl _
        · cases h
      | cons y l =>
        rw [joinL_cons (by simp)]
        rcases List.mem_cons.mp h with rfl | h
        · simp
        · have := ih h
          simp
          omega
  have := key _ h
  rw [e] at this
  exact this
theorem partsL_mem_len {b p : List Nat} (h : p ∈ partsL b) : p.length ≤ b.length := by
  cases b with
  | nil => cases h
  | cons x l => exact mem_pieces_len (b := x :: l) h
theorem SlV.at {s : St} {V : AV} {names : List (List Nat)} {p : List Nat} {j : Nat} (h : SlV s V names) (hp : names[j]? = some p) : ∃ id o, indexAddrA TE 41 V (.raw (.int .i64 (j : Int))) = some (.ptr id o) ∧ ldO (s.h.get id) o = some (.str p) ∧ ∀ b, inO (s.h.get id) b = b := by
  obtain ⟨id, o, x1, x2, ob, x3⟩ := h.idx hp
  exact ⟨id, o, x1, by rw [← ldC_o]; exact x2, fun b => by rw [x3]; rfl⟩
theorem isclean4_c {s : St} (H : Ok TE Tryz.prog pr3) {b : List Nat} (hb : b.length ≤ 1048575) {kr kp : AV → St → Bool} (hk : kr (.raw (.bool (isCleanR b))) s = true) : (sem Tryz.prog).call 48 [.str b] s kr kp = true := by
  refine flat_call rfl rfl (fun kr kp hk => ?_) hk
  refine w_call H 27 fn_48 rfl rfl ?_
  repeat (first | with_reducible (refine w_one H ?_; constructor) | simp only [rB, rP, rQ, boolA, intA, resultA, resA, reduceIte, reduceCtorEq, Nat.reduceAdd, Nat.reduceLT, Nat.reduceEqDiff, UInt8.reduceToNat, pe3, pf3])
  refine parts4_c H hb ?_
  have hV := SlV.mk (s := st0) (names := partsL b)
  have hml := fun {p : List Nat} (h : p ∈ partsL b) => partsL_mem_len h
  unfold isCleanR at hk
  have hpl := parts_le (b := b)
  generalize (mkSl 9 (partsL b) st0).1 = V at hV ⊢
  generalize (mkSl 9 (partsL b) st0).2 = s1 at hV ⊢
  generalize partsL b = ps at hV hk hml hpl
  have vl := hV.len
  have vi := hV.ids
  cases h1 : decide ((ps.length : Int) > 8) with
  | true =>
    rw [h1] at hk
    repeat (first | with_reducible (refine w_one H ?_; constructor) | simp only [rB, rP, rQ, boolA, intA, resultA, resA, reduceIte, reduceCtorEq, Nat.reduceAdd, Nat.reduceLT, Nat.reduceEqDiff, UInt8.reduceToNat, pe3, pf3, vl, vi, b_gt, h1, Tryz.results48])
    exact hk _
  | false =>
  rw [h1] at hk
  cases h2 : decide ((b.length : Int) > 140) with
  | true =>
    rw [h2] at hk
    repeat (first | with_reducible (refine w_one H ?_; constructor) | simp only [rB, rP, rQ, boolA, intA, resultA, resA, reduceIte, reduceCtorEq, Nat.reduceAdd, Nat.reduceLT, Nat.reduceEqDiff, UInt8.reduceToNat, pe3, pf3, vl, vi, b_gt, h1, h2, len_str, Tryz.results48])
    exact hk _
  | false =>
  rw [h2, cond_false, cond_false] at hk
  repeat (first | with_reducible (refine w_one H ?_; constructor) | simp only [rB, rP, rQ, boolA, intA, resultA, resA, reduceIte, reduceCtorEq, Nat.reduceAdd, Nat.reduceLT, Nat.reduceEqDiff, UInt8.reduceToNat, pe3, pf3, vl, vi, b_gt, h1, h2, len_str])
  refine w_loop_ind H (fun n t s' => ∃ k : Nat, n + k = ps.length ∧ s' = s1 ∧ tg t 3 = V ∧ tg t 4 = .raw (.int .i64 (k : Int)) ∧ allR ps = allR (ps.drop k)) (n := ps.length)
    ⟨0, rfl, rfl, by simp only [rB, rP, rQ, boolA, intA, resultA, resA, reduceIte, reduceCtorEq, Nat.reduceAdd, Nat.reduceLT, Nat.reduceEqDiff, UInt8.reduceToNat], by simp only [rB, rP, rQ, boolA, intA, resultA, resA, reduceIte, reduceCtorEq, Nat.reduceAdd, Nat.reduceLT, Nat.reduceEqDiff, UInt8.reduceToNat]; rfl, rfl⟩ ?_
  rintro n t s' ih ⟨k, hn, rfl, t3, t4, hrun⟩
  cases n with
  | zero =>
    have g0 := dec_nlt (a := k) (b := ps.length) (by omega)
    rw [List.drop_eq_nil_of_le (by omega)] at hrun
    rw [hrun] at hk
    repeat (first | with_reducible (refine w_one H ?_; constructor) | simp only [rB, rP, rQ, boolA, intA, resultA, resA, reduceIte, reduceCtorEq, Nat.reduceAdd, Nat.reduceLT, Nat.reduceEqDiff, UInt8.reduceToNat, pe3, pf3, t3, t4, vl, vi, b_lt, g0, Tryz.results48])
    exact hk _
  | succ n =>
    have hlt : k < ps.length := by omega
    have g0 := dec_lt hlt
    have ew := nat_plus (k := k) (by omega)
    rw [List.drop_eq_getElem_cons hlt] at hrun
    have hx : ps[k]? = some ps[k] := List.getElem?_eq_getElem hlt
    have hm := hml (List.getElem_mem hlt)
    generalize ps[k] = x at hx hrun hm
    obtain ⟨id, o, i1, i2, i3⟩ := hV.at hx
    repeat (first | with_reducible (refine w_one H ?_; constructor) | simp only [rB, rP, rQ, boolA, intA, resultA, resA, reduceIte, reduceCtorEq, Nat.reduceAdd, Nat.reduceLT, Nat.reduceEqDiff, UInt8.reduceToNat, pe3, pf3, t3, t4, vl, vi, b_lt, g0, i1, i2, i3, ld_9])
    refine name4_c H (by omega) ?_
    cases hz : nameR x != 0 with
    | true =>
      simp only [allR, hz, cond_true] at hrun
      rw [hrun] at hk
      repeat (first | with_reducible (refine w_one H ?_; constructor) | simp only [rB, rP, rQ, boolA, intA, resultA, resA, reduceIte, reduceCtorEq, Nat.reduceAdd, Nat.reduceLT, Nat.reduceEqDiff, UInt8.reduceToNat, pe3, pf3, t3, t4, b_nei, hz, Tryz.results48])
      exact hk _
    | false =>
      simp only [allR, hz, cond_false] at hrun
      repeat (first | with_reducible (refine w_one H ?_; constructor) | simp only [rB, rP, rQ, boolA, intA, resultA, resA, reduceIte, reduceCtorEq, Nat.reduceAdd, Nat.reduceLT, Nat.reduceEqDiff, UInt8.reduceToNat, pe3, pf3, t3, t4, b_nei, hz, b_plus, ew])
      exact ih n _ _ (Nat.lt_succ_self n) ⟨k + 1, by omega, rfl, by simp only [rB, rP, rQ, boolA, intA, resultA, resA, reduceIte, reduceCtorEq, Nat.reduceAdd, Nat.reduceLT, Nat.reduceEqDiff, UInt8.reduceToNat, t3], by simp only [rB, rP, rQ, boolA, intA, resultA, resA, reduceIte, reduceCtorEq, Nat.reduceAdd, Nat.reduceLT, Nat.reduceEqDiff, UInt8.reduceToNat], hrun⟩
def lessR : List Nat → List Nat → Bool
  | a :: x, b :: y => bif Nat.beq a b then lessR x y else bif Nat.beq a 47 then true else bif Nat.beq b 47 then false else decide ((a : Int) < (b : Int))
  | [], b => decide (((0 : Nat) : Int) < (b.length : Int))
  | _ :: _, [] => false
theorem lessR_end {a b : List Nat} {k : Nat} (h : ¬ (k < a.length ∧ k < b.length)) (ha : k ≤ a.length) (hb : k ≤ b.length) : lessR (a.drop k) (b.drop k) = decide ((a.length : Int) < (b.length : Int)) := by
  by_cases h1 : k < a.length
  · have h2 : b.length = k := by omega
    rw [List.drop_eq_nil_of_le (by omega : b.length ≤ k), List.drop_eq_getElem_cons h1]
    show false = _
    symm
    rw [decide_eq_false_iff_not]
    omega
  · rw [List.drop_eq_nil_of_le (by omega : a.length ≤ k)]
    show decide (((0 : Nat) : Int) < ((b.drop k).length : Int)) = _
    rw [List.length_drop]
    congr 1
    apply propext
    omega
theorem less4_c {s : St} (H : Ok TE Tryz.prog pr3) {a b : List Nat} (ha : a.length ≤ 1048575) {kr kp : AV → St → Bool} (hk : kr (.raw (.bool (lessR a b))) s = true) : (sem Tryz.prog).call 26 [.str a, .str b] s kr kp = true := by
  refine w_call H 49 fn_26 rfl rfl ?_
  repeat (first | with_reducible (refine w_one H ?_; constructor) | simp only [rB, rP, rQ, boolA, intA, resultA, resA, reduceIte, reduceCtorEq, Nat.reduceAdd, Nat.reduceLT, Nat.reduceEqDiff, UInt8.reduceToNat, pe3, pf3])
  refine w_loop_ind H (fun n t s' => ∃ k : Nat, n + k = a.length ∧ k ≤ b.length ∧ s' = s ∧ tg t 0 = .str a ∧ tg t 1 = .str b ∧ tg t 5 = .raw (.int .i64 (k : Int)) ∧ lessR a b = lessR (a.drop k) (b.drop k)) (n := a.length)
    ⟨0, rfl, Nat.zero_le _, rfl, by simp only [rB, rP, rQ, boolA, intA, resultA, resA, reduceIte, reduceCtorEq, Nat.reduceAdd, Nat.reduceLT, Nat.reduceEqDiff, UInt8.reduceToNat], by simp only [rB, rP, rQ, boolA, intA, resultA, resA, reduceIte, reduceCtorEq, Nat.reduceAdd, Nat.reduceLT, Nat.reduceEqDiff, UInt8.reduceToNat], by simp only [rB, rP, rQ, boolA, intA, resultA, resA, reduceIte, reduceCtorEq, Nat.reduceAdd, Nat.reduceLT, Nat.reduceEqDiff, UInt8.reduceToNat]; rfl, rfl⟩ ?_
  rintro n t s' ih ⟨k, hn, hkb, rfl, t0, t1, t5, hrun⟩
  have fin : ¬ (k < a.length ∧ k < b.length) → lessR a b = decide ((a.length : Int) < (b.length : Int)) := fun h => hrun.trans (lessR_end h (by omega) hkb)
  cases n with
  | zero =>
    have g0 := dec_nlt (a := k) (b := a.length) (by omega)
    rw [fin (by omega)] at hk
    repeat (first | with_reducible (refine w_one H ?_; constructor) | simp only [rB, rP, rQ, boolA, intA, resultA, resA, reduceIte, reduceCtorEq, Nat.reduceAdd, Nat.reduceLT, Nat.reduceEqDiff, UInt8.reduceToNat, pe3, pf3, t0, t1, t5, len_str, b_lt, g0, Tryz.results26])
    exact hk
  | succ n =>
    have hlt : k < a.length := by omega
    have g0 := dec_lt hlt
    by_cases hlb : k < b.length
    · have g1 := dec_lt hlb
      have ew := nat_plus (k := k) (by omega)
      rw [List.drop_eq_getElem_cons hlt, List.drop_eq_getElem_cons hlb] at hrun
      have hx : a[k]? = some a[k] := List.getElem?_eq_getElem hlt
      have hy : b[k]? = some b[k] := List.getElem?_eq_getElem hlb
      generalize a[k] = x at hx hrun
      generalize b[k] = y at hy hrun
      have ix := ix_b hx
      have iy := ix_b hy
      simp only [lessR] at hrun
      have gx47 : ((x : Int) == 47) = Nat.beq x 47 := u8_eq
      have gy47 : ((y : Int) != 47) = !(Nat.beq y 47) := congrArg Bool.not u8_eq
      have gxy : ((x : Int) != (y : Int)) = !(Nat.beq x y) := congrArg Bool.not u8_eq
      cases hxy : Nat.beq x y with
      | true =>
        rw [hxy, cond_true] at hrun
        repeat (first | with_reducible (refine w_one H ?_; constructor) | simp only [rB, rP, rQ, boolA, intA, resultA, resA, reduceIte, reduceCtorEq, Nat.reduceAdd, Nat.reduceLT, Nat.reduceEqDiff, UInt8.reduceToNat, pe3, pf3, t0, t1, t5, len_str, b_lt, g0, g1, ix, iy, b_nei, gxy, hxy, Bool.not_true, b_plus, ew] | (with_reducible refine w_plan H (i := 4) (.take 0 (.take 1 (.take 2 (.take 3 (.take 4 (.take 5 (.take 6 (.done)))))))) rfl (by kernel_rfl) ?_))
        exact ih n _ _ (Nat.lt_succ_self n) ⟨k + 1, by omega, by omega, rfl, by simp only [rB, rP, rQ, boolA, intA, resultA, resA, reduceIte, reduceCtorEq, Nat.reduceAdd, Nat.reduceLT, Nat.reduceEqDiff, UInt8.reduceToNat, t0], by simp only [rB, rP, rQ, boolA, intA, resultA, resA, reduceIte, reduceCtorEq, Nat.reduceAdd, Nat.reduceLT, Nat.reduceEqDiff, UInt8.reduceToNat, t1], by simp only [rB, rP, rQ, boolA, intA, resultA, resA, reduceIte, reduceCtorEq, Nat.reduceAdd, Nat.reduceLT, Nat.reduceEqDiff, UInt8.reduceToNat], hrun⟩
      | false =>
        rw [hxy, cond_false] at hrun
        cases hx4 : Nat.beq x 47 with
        | true =>
          rw [hx4, cond_true] at hrun
          rw [hrun] at hk
          repeat (first | with_reducible (refine w_one H ?_; constructor) | simp only [rB, rP, rQ, boolA, intA, resultA, resA, reduceIte, reduceCtorEq, Nat.reduceAdd, Nat.reduceLT, Nat.reduceEqDiff, UInt8.reduceToNat, pe3, pf3, t0, t1, t5, len_str, b_lt, g0, g1, ix, iy, b_nei, b_eqi, gxy, hxy, gx47, hx4, Bool.not_false, Tryz.results26] | (with_reducible refine w_plan H (i := 4) (.take 0 (.take 1 (.take 2 (.take 3 (.take 4 (.take 5 (.take 6 (.done)))))))) rfl (by kernel_rfl) ?_) | (with_reducible refine w_plan H (i := 5) (.take 0 (.take 1 (.take 2 (.take 3 (.take 4 (.take 5 (.take 6 (.take 7 (.take 8 (.take 9 (.take 10 (.take 11 (.take 12 (.take 13 (.take 14 (.take 15 (.take 16 (.take 17 (.take 18 (.take 19 (.done))))))))))))))))))))) rfl (by kernel_rfl) ?_))
          exact hk
        | false =>
          rw [hx4, cond_false] at hrun
          cases hy4 : Nat.beq y 47 with
          | true =>
            rw [hy4, cond_true] at hrun
            rw [hrun] at hk
            repeat (first | with_reducible (refine w_one H ?_; constructor) | simp only [rB, rP, rQ, boolA, intA, resultA, resA, reduceIte, reduceCtorEq, Nat.reduceAdd, Nat.reduceLT, Nat.reduceEqDiff, UInt8.reduceToNat, pe3, pf3, t0, t1, t5, len_str, b_lt, g0, g1, ix, iy, b_nei, b_eqi, gxy, hxy, gx47, hx4, gy47, hy4, Bool.not_true, Bool.not_false, Tryz.results26] | (with_reducible refine w_plan H (i := 4) (.take 0 (.take 1 (.take 2 (.take 3 (.take 4 (.take 5 (.take 6 (.done)))))))) rfl (by kernel_rfl) ?_) | (with_reducible refine w_plan H (i := 5) (.take 0 (.take 1 (.take 2 (.take 3 (.take 4 (.take 5 (.take 6 (.take 7 (.take 8 (.take 9 (.take 10 (.take 11 (.take 12 (.take 13 (.take 14 (.take 15 (.take 16 (.take 17 (.take 18 (.take 19 (.done))))))))))))))))))))) rfl (by kernel_rfl) ?_))
            exact hk
          | false =>
            rw [hy4, cond_false] at hrun
            rw [hrun] at hk
            repeat (first | with_reducible (refine w_one H ?_; constructor) | simp only [rB, rP, rQ, boolA, intA, resultA, resA, reduceIte, reduceCtorEq, Nat.reduceAdd, Nat.reduceLT, Nat.reduceEqDiff, UInt8.reduceToNat, pe3, pf3, t0, t1, t5, len_str, b_lt, g0, g1, ix, iy, b_nei, b_eqi, gxy, hxy, gx47, hx4, gy47, hy4, Bool.not_false, Tryz.results26] | (with_reducible refine w_plan H (i := 4) (.take 0 (.take 1 (.take 2 (.take 3 (.take 4 (.take 5 (.take 6 (.done)))))))) rfl (by kernel_rfl) ?_) | (with_reducible refine w_plan H (i := 5) (.take 0 (.take 1 (.take 2 (.take 3 (.take 4 (.take 5 (.take 6 (.take 7 (.take 8 (.take 9 (.take 10 (.take 11 (.take 12 (.take 13 (.take 14 (.take 15 (.take 16 (.take 17 (.take 18 (.take 19 (.done))))))))))))))))))))) rfl (by kernel_rfl) ?_))
            exact hk
    · have g1 := dec_nlt hlb
      rw [fin (by omega)] at hk
      repeat (first | with_reducible (refine w_one H ?_; constructor) | simp only [rB, rP, rQ, boolA, intA, resultA, resA, reduceIte, reduceCtorEq, Nat.reduceAdd, Nat.reduceLT, Nat.reduceEqDiff, UInt8.reduceToNat, pe3, pf3, t0, t1, t5, len_str, b_lt, g0, g1, Tryz.results26])
      exact hk
def splitR (b : List Nat) : List Nat × List Nat := bif decide (lastI b 47 b.length ≥ 0) then (b.take (lastI b 47 b.length).toNat, b.drop ((lastI b 47 b.length).toNat + 1)) else ([], b)
theorem sl_to4 {b : List Nat} {j : Nat} (h : j ≤ b.length) : sliceOpA TE 9 (.str b) none (some (.raw (.int .i64 (j : Int)))) none = some (.str (b.take j)) := by
  rw [sl_str, sb_hi no_cast h]
  simp
theorem sl_at4 {b : List Nat} {j : Nat} (h : j ≤ b.length) : sliceOpA TE 9 (.str b) (some (.raw (.int .i64 (j : Int)))) none none = some (.str (b.drop j)) := by
  rw [sl_str, sb_lo no_cast h (Nat.le_refl _)]
  simp only
  rw [List.take_of_length_le (by simp)]
theorem split4_c {s : St} (H : Ok TE Tryz.prog pr3) {b : List Nat} (hb : b.length ≤ 1048575) {kr kp : AV → St → Bool} (hk : kr (.tuple [.str (splitR b).1, .str (splitR b).2]) s = true) : (sem Tryz.prog).call 27 [.str b] s kr kp = true := by
  refine w_call H 24 fn_27 rfl rfl ?_
  have e0 : IntKind.i64.wrap ((b.length : Int) - 1) = (b.length : Int) - 1 := Go.IntWalk.i64_in _ (by omega)
  unfold splitR at hk
  repeat (first | with_reducible (refine w_one H ?_; constructor) | simp only [rB, rP, rQ, boolA, intA, resultA, resA, reduceIte, reduceCtorEq, Nat.reduceAdd, Nat.reduceLT, Nat.reduceEqDiff, UInt8.reduceToNat, pe3, pf3, len_str, b_minus, e0])
  refine w_loop_ind H (fun n t s' => n ≤ b.length ∧ s' = s ∧ tg t 0 = .str b ∧ tg t 4 = .raw (.int .i64 ((n : Int) - 1)) ∧ lastI b 47 b.length = lastI b 47 n) (n := b.length)
    ⟨Nat.le_refl _, rfl, by simp only [rB, rP, rQ, boolA, intA, resultA, resA, reduceIte, reduceCtorEq, Nat.reduceAdd, Nat.reduceLT, Nat.reduceEqDiff, UInt8.reduceToNat], by simp only [rB, rP, rQ, boolA, intA, resultA, resA, reduceIte, reduceCtorEq, Nat.reduceAdd, Nat.reduceLT, Nat.reduceEqDiff, UInt8.reduceToNat], rfl⟩ ?_
  rintro n t s' ih ⟨hn, rfl, t0, t4, hl⟩
  cases n with
  | zero =>
    have g0 : decide (((0 : Nat) : Int) - 1 ≥ 0) = false := rfl
    have h1 : decide (lastI b 47 b.length ≥ 0) = false := by rw [hl]; rfl
    rw [h1] at hk
    repeat (first | with_reducible (refine w_one H ?_; constructor) | simp only [rB, rP, rQ, boolA, intA, resultA, resA, reduceIte, reduceCtorEq, Nat.reduceAdd, Nat.reduceLT, Nat.reduceEqDiff, UInt8.reduceToNat, pe3, pf3, t0, t4, b_ge, g0, Tryz.results27])
    exact hk
  | succ n =>
    have e1 : ((n + 1 : Nat) : Int) - 1 = (n : Int) := by omega
    rw [e1] at t4
    have g0 : decide ((n : Int) ≥ 0) = true := by rw [decide_eq_true_eq]; omega
    have hx : b[n]? = some b[n] := List.getElem?_eq_getElem (by omega)
    generalize b[n] = x at hx
    have ix := ix_b hx
    simp only [lastI, hx] at hl
    have g47 : ((x : Int) == 47) = Nat.beq x 47 := u8_eq
    cases hc : Nat.beq x 47 with
    | true =>
      rw [hc, cond_true] at hl
      have h1 : decide (lastI b 47 b.length ≥ 0) = true := by rw [hl, decide_eq_true_eq]; omega
      rw [h1, hl] at hk
      have ew := nat_plus (k := n) (by omega)
      repeat (first | with_reducible (refine w_one H ?_; constructor) | simp only [rB, rP, rQ, boolA, intA, resultA, resA, reduceIte, reduceCtorEq, Nat.reduceAdd, Nat.reduceLT, Nat.reduceEqDiff, UInt8.reduceToNat, pe3, pf3, t0, t4, b_ge, g0, ix, b_eqi, g47, hc, b_plus, ew, sl_to4 (b := b) (j := n) (by omega), sl_at4 (b := b) (j := n + 1) (by omega), Tryz.results27] | (with_reducible refine w_plan H (i := 5) (.take 0 (.take 1 (.take 2 (.take 3 (.take 4 (.take 5 (.take 6 (.take 7 (.take 8 (.done)))))))))) rfl (by kernel_rfl) ?_))
      exact hk
    | false =>
      rw [hc, cond_false] at hl
      have e2 : IntKind.i64.wrap ((n : Int) - 1) = (n : Int) - 1 := Go.IntWalk.i64_in _ (by omega)
      repeat (first | with_reducible (refine w_one H ?_; constructor) | simp only [rB, rP, rQ, boolA, intA, resultA, resA, reduceIte, reduceCtorEq, Nat.reduceAdd, Nat.reduceLT, Nat.reduceEqDiff, UInt8.reduceToNat, pe3, pf3, t0, t4, b_ge, g0, ix, b_eqi, g47, hc, b_minus, e2])
      exact ih n _ _ (Nat.lt_succ_self n) ⟨by omega, rfl, by simp only [rB, rP, rQ, boolA, intA, resultA, resA, reduceIte, reduceCtorEq, Nat.reduceAdd, Nat.reduceLT, Nat.reduceEqDiff, UInt8.reduceToNat, t0], by simp only [rB, rP, rQ, boolA, intA, resultA, resA, reduceIte, reduceCtorEq, Nat.reduceAdd, Nat.reduceLT, Nat.reduceEqDiff, UInt8.reduceToNat], hl⟩
end Go.AX
namespace Go.AX
open Go.Proofs Go.RowKit
set_option maxRecDepth 1000000
set_option maxHeartbeats 40000000
set_option linter.unusedSimpArgs false
set_option linter.unusedVariables false
def appG (ty : Nat) (el : TI) (s : St) (V X : AV) : Option (AV × St) := match lenA X with
  | none => none
  | some n =>
    match firstA s 1 n X with
    | none => none
    | some new => bif Nat.beq new.length (n * 1) && new.all AV.one then growA s ty el V n new else none
structure RowT (st ty : Nat) (el : TI) : Prop where
  sz : el.size = 1
  by' : el.bytes ≤ 16
  app : ∀ s V X, appendA TE s [st, st] [V, X] = appG ty el s V X
  so : ∀ id off len ci cap ex lo hi, sliceOpA TE st (.slice id off len ci cap ex) lo hi none = match sliceBoundsA len cap lo hi with
    | some (l, h) => bif Nat.blt l cap || Nat.beq l 0 then some (.slice id (off + l * 1) (h - l) (ci + l) (cap - l) ex) else bif ex then some (.slice id off 0 ci 0 true) else some (.esl id off ci l 1)
    | none => none
  so0 : ∀ lo hi, sliceOpA TE st nilS lo hi none = match sliceBoundsA 0 0 lo hi with | some _ => some nilS | none => none
  ix : ∀ (id off n ci cap : Nat) (ex : Bool) (k : Nat), indexAddrA TE st (.slice id off n ci cap ex) (.raw (.int .i64 (k : Int))) = bif Nat.blt k n then some (.ptr id (off + k * 1)) else none
  ln : ∀ s' (id off n ci cap : Nat) (ex : Bool), lenOpA TE s' [st] [.slice id off n ci cap ex] = some (.raw (.int .i64 (n : Int)))
  ln0 : ∀ s', lenOpA TE s' [st] [nilS] = some (.raw (.int .i64 0))
def elS : TI := { desc := .string, size := 1, bytes := 16, zero := some (.string ⟨#[]⟩) }
theorem rowS : RowT 41 9 elS where
  sz := rfl
  by' := by decide
  app := fun s V X => app_eq
  so := fun id off len ci cap ex lo hi => so_sl
  so0 := fun lo hi => by
    have h : sliceOpA TE 41 nilS lo hi none = (match (some elS : Option TI), sliceBoundsA 0 0 lo hi with
      | some _, some _ => some (.raw (.slice none 0 0))
      | _, _ => none) := by kernel_rfl
    rw [h]
    cases sliceBoundsA 0 0 lo hi <;> rfl
  ix := fun id off n ci cap ex k => by kernel_rfl
  ln := fun s' id off n ci cap ex => by kernel_rfl
  ln0 := fun s' => by kernel_rfl
noncomputable def elN : TI := (TE.info 65).getD default
theorem sizeN : elN.size = 1 := by kernel_rfl
theorem putL_nil {cs : List AV} {n : Nat} : putL cs n [] = some cs := by cases cs <;> cases n <;> rfl
theorem rowN : RowT 67 65 elN where
  sz := sizeN
  by' := Nat.le_of_ble_eq_true (by kernel_rfl)
  app := fun s V X => by kernel_rfl
  so := fun id off len ci cap ex lo hi => by
    have h : sliceOpA TE 67 (.slice id off len ci cap ex) lo hi none = (match (some elN : Option TI), sliceBoundsA len cap lo hi with
      | some el, some (l, h) =>
        bif Nat.blt l cap || Nat.beq l 0 then some (.slice id (off + l * el.size) (h - l) (ci + l) (cap - l) ex)
        else bif ex then some (.slice id off 0 ci 0 true)
        else some (.esl id off ci l el.size)
      | _, _ => none) := by kernel_rfl
    rw [h]
    cases sliceBoundsA len cap lo hi with
    | none => rfl
    | some x =>
      obtain ⟨l, h⟩ := x
      simp only [sizeN]
  so0 := fun lo hi => by
    have h : sliceOpA TE 67 nilS lo hi none = (match (some elN : Option TI), sliceBoundsA 0 0 lo hi with
      | some _, some _ => some (.raw (.slice none 0 0))
      | _, _ => none) := by kernel_rfl
    rw [h]
    cases sliceBoundsA 0 0 lo hi <;> rfl
  ix := fun id off n ci cap ex k => by kernel_rfl
  ln := fun s' id off n ci cap ex => by kernel_rfl
  ln0 := fun s' => by kernel_rfl
def blk : AV → Option Nat
  | .slice id _ _ _ _ _ => some id
  | _ => none
def RowV (ty : Nat) (s : St) (V : AV) (cs : List AV) : Prop := (V = nilS ∧ cs = []) ∨ ∃ id ex fz, V = .slice id 0 cs.length 0 cs.length ex ∧ s.h.get id = some (.cells cs ty fz) ∧ (ex = false → fz = 2)
section
variable {st ty : Nat} {el : TI} {s : St} {V : AV} {cs : List AV}
theorem RowV.len (RT : RowT st ty el) (h : RowV ty s V cs) : ∀ s', lenOpA TE s' [st] [V] = some (.raw (.int .i64 (cs.length : Int))) := by
  intro s'
  rcases h with ⟨rfl, rfl⟩ | ⟨id, ex, fz, rfl, _⟩
  · exact RT.ln0 s'
  · exact RT.ln s' _ _ _ _ _ _
theorem RowV.ids (h : RowV ty s V cs) : idsOf V = [] := by
  rcases h with ⟨rfl, rfl⟩ | ⟨id, ex, fz, rfl, _⟩ <;> rfl
theorem RowV.cells1 (h : RowV ty s V cs) : V.cells = [V] ∧ V.one = true := by
  rcases h with ⟨rfl, rfl⟩ | ⟨id, ex, fz, rfl, _⟩ <;> exact ⟨rfl, rfl⟩
theorem RowV.beq (h : RowV ty s V cs) : beqA V V = true := by
  rcases h with ⟨rfl, rfl⟩ | ⟨id, ex, fz, rfl, _⟩
  · rfl
  · simp [beqA]
theorem RowV.at (RT : RowT st ty el) (h : RowV ty s V cs) {k : Nat} {v : AV} (hk : cs[k]? = some v) : ∃ id, indexAddrA TE st V (.raw (.int .i64 (k : Int))) = some (.ptr id k) ∧ ldO (s.h.get id) k = some v ∧ (∀ b, inO (s.h.get id) b = b) ∧ blk V = some id ∧ ∃ fz, s.h.get id = some (.cells cs ty fz) := by
  have hlt := (List.getElem?_eq_some_iff.mp hk).1
  rcases h with ⟨rfl, rfl⟩ | ⟨id, ex, fz, rfl, hg, _⟩
  · simp at hk
  · refine ⟨id, ?_, ?_, fun b => by rw [hg]; rfl, rfl, fz, hg⟩
    · rw [RT.ix, Nat.blt_eq.mpr hlt]
      simp
    · rw [hg]
      exact hk
theorem RowV.lt (hB : Below0 s) (h : RowV ty s V cs) {b : Nat} (hb : blk V = some b) : b < s.nx := by
  rcases h with ⟨rfl, rfl⟩ | ⟨id, ex, fz, rfl, hg, _⟩
  · cases hb
  · cases hb
    exact hB _ _ hg
theorem RowV.keep {s' : St} (h : RowV ty s V cs) (hk : ∀ b, blk V = some b → s'.h.get b = s.h.get b) : RowV ty s' V cs := by
  rcases h with h | ⟨id, ex, fz, rfl, hg, hf⟩
  · exact Or.inl h
  · exact Or.inr ⟨id, ex, fz, rfl, (hk id rfl).trans hg, hf⟩
theorem RowV.get (h : RowV ty s V cs) {b : Nat} (hb : blk V = some b) : ∃ fz, s.h.get b = some (.cells cs ty fz) := by
  rcases h with ⟨rfl, rfl⟩ | ⟨id, ex, fz, rfl, hg, _⟩
  · cases hb
  · cases hb
    exact ⟨fz, hg⟩
theorem below_move {s : St} (hB : Below0 s) {i : Nat} {o : AO} : Below0 { h := (s.h.del i).set s.nx o, nx := s.nx + 1 } := by
  intro j y hj
  show j < s.nx + 1
  by_cases e : j = s.nx
  · omega
  · have h1 : ((s.h.del i).set s.nx o).get j = (s.h.del i).get j := hs_ne e
    have h2 : ((s.h.del i).set s.nx o).get j = some y := hj
    rw [h1, Tr.get_del] at h2
    by_cases e2 : j = i
    · rw [if_pos e2] at h2; cases h2
    · rw [if_neg e2] at h2
      have := hB j y h2
      omega
theorem all_one_of {cs : List AV} (h : ∀ v ∈ cs, v.one = true) : cs.all AV.one = true := List.all_eq_true.mpr h
theorem nb_self1 {n : Nat} : Nat.beq n (n * 1) = true := by rw [Nat.mul_one]; exact Nat.beq_refl n
theorem row_ins (RT : RowT st ty el) (hB : Below0 s) (hV : RowV ty s V cs) (h1 : ∀ v ∈ cs, v.one = true) {i : Nat} (hi : i ≤ cs.length) (hn : cs.length ≤ 1000) {x : AV} (hx : x.one = true) {q : Nat} (hq : s.h.get q = some (.cells [x] ty 0)) (hqV : blk V ≠ some q) :
    ∃ Va Vb W V' s2 s3, sliceOpA TE st V none (some (.raw (.int .i64 (i : Int)))) none = some Va ∧ sliceOpA TE st V (some (.raw (.int .i64 (i : Int)))) none none = some Vb ∧ appendA TE s [st, st] [.slice q 0 1 0 1 true, Vb] = some (W, s2) ∧
      appendA TE s2 [st, st] [Va, W] = some (V', s3) ∧ RowV ty s3 V' (cs.take i ++ x :: cs.drop i) ∧ Below0 s3 ∧ s.nx ≤ s3.nx ∧ (∀ j, j < s.nx → blk V ≠ some j → s3.h.get j = s.h.get j) ∧ (∀ b, blk V' = some b → s.nx ≤ b) ∧
      (∀ j, j < s.nx → s2.h.get j = s.h.get j) := by
  have hql := hB _ _ hq
  have hsz := RT.sz
  have hby := RT.by'
  have e3 : ∀ n, n ≤ 2000 → Nat.ble (n * el.bytes) 134217728 = true := fun n hn => Nat.ble_eq.mpr (by have := Nat.mul_le_mul hn hby; omega)
  have e4 : ∀ n, n ≤ 2000 → Nat.ble n 1048576 = true := fun n hn => Nat.ble_eq.mpr (by omega)
  have a1 : ∀ n m (o : AO), Nat.ble (n + (m + 1)) n = false := fun n m _ => by
    cases hb : Nat.ble (n + (m + 1)) n with
    | false => rfl
    | true => have := Nat.ble_eq.mp hb; omega
  have c11 : cutL 0 1 [x] = some [x] := rfl
  have ax : [x].all AV.one = true := by simp [hx]
  -- the inner append, of what stands behind
  have inner : ∀ (Vb : AV) (r : List AV), lenA Vb = some r.length → firstA s 1 r.length Vb = some r → r.length ≤ 1000 → (∀ v ∈ r, v.one = true) →
      ∃ W s2, appendA TE s [st, st] [.slice q 0 1 0 1 true, Vb] = some (W, s2) ∧ (∃ id ex fz, W = .slice id 0 (1 + r.length) 0 (1 + r.length) ex ∧ s2.h.get id = some (.cells (x :: r) ty fz) ∧ (id = q ∨ s.nx ≤ id)) ∧ Below0 s2 ∧ s.nx ≤ s2.nx ∧ ∀ j, j < s.nx → s2.h.get j = s.h.get j := by
    intro Vb r hl hf hr ho
    rw [RT.app]
    simp only [appG, hl, hf, nb_self1, all_one_of ho, Bool.and_self, cond_true, growA, gc_of hq]
    cases r with
    | nil =>
      have e1 : Nat.ble 1 1 = true := rfl
      simp only [List.length_nil, Nat.add_zero, e1, cond_true, storeCellsA, gc_of hq, List.all_nil, putL_nil]
      refine ⟨.slice q 0 1 0 1 true, { s with h := s.h.set q (.cells [x] ty 0) }, rfl, ⟨q, true, 0, rfl, hs_same, Or.inl rfl⟩, below_set hB hql _, Nat.le_refl _, fun j hj => ?_⟩
      show (s.h.set q _).get j = _
      by_cases e : j = q
      · subst e; rw [hs_same, hq]
      · exact hs_ne e
    | cons y r =>
      have e1 : Nat.ble (1 + (r.length + 1)) 1 = false := by
        cases hb : Nat.ble (1 + (r.length + 1)) 1 with
        | false => rfl
        | true => have := Nat.ble_eq.mp hb; omega
      simp only [List.length_cons] at hr
      simp only [e1, cond_false, Nat.one_mul, hsz, c11, List.length_cons, e3 (1 + (r.length + 1)) (by omega), e4 (1 + (r.length + 1)) (by omega), Bool.and_self, cond_true]
      exact ⟨_, _, rfl, ⟨s.nx, false, _, rfl, al_same, Or.inr (Nat.le_refl _)⟩, below_al hB _, Nat.le_succ _, fun j hj => al_ne (by omega)⟩
  rcases hV with ⟨rfl, rfl⟩ | ⟨id, ex, fz, rfl, hg, hf⟩
  · simp only [List.length_nil, Nat.le_zero_eq] at hi
    subst hi
    obtain ⟨W, s2, w1, ⟨wi, we, wf, rfl, wg, wq⟩, w3, w4, w5⟩ := inner nilS [] rfl rfl (by simp) (by simp)
    refine ⟨nilS, nilS, _, .slice s2.nx 0 1 0 1 false, s2, s2.alloc (.cells [x] ty (2 * el.size)), by rw [RT.so0]; rfl, by rw [RT.so0]; rfl, w1, ?_, Or.inr ⟨s2.nx, false, 2 * el.size, rfl, al_same, fun _ => by rw [hsz]⟩, below_al w3 _, by show s.nx ≤ s2.nx + 1; omega, fun j hj _ => ?_, fun b hb => ?_, w5⟩
    · rw [RT.app]
      simp only [appG, lenA, firstA, gc_of wg, List.length_nil, Nat.add_zero, Nat.mul_one, c11, ax, Bool.and_true]
      simp only [List.length_cons, List.length_nil, Nat.zero_add, Nat.beq_refl, cond_true, nilS, growA, e3 1 (by omega), e4 1 (by omega), Bool.and_self]
      rfl
    · rw [al_ne (by omega), w5 j hj]
    · have hb : some s2.nx = some b := hb
      cases hb
      exact w4
  · have hid : id < s.nx := hB _ _ hg
    have hidq : id ≠ q := fun e => hqV (by rw [e]; rfl)
    have hta : sliceOpA TE st (.slice id 0 cs.length 0 cs.length ex) none (some (.raw (.int .i64 (i : Int)))) none = some (.slice id 0 i 0 cs.length ex) := by
      rw [RT.so, sb_hi (i := i) no_cast hi]
      simp
    obtain ⟨Vb, hb1, hb2, hb3⟩ : ∃ Vb, sliceOpA TE st (.slice id 0 cs.length 0 cs.length ex) (some (.raw (.int .i64 (i : Int)))) none none = some Vb ∧ lenA Vb = some (cs.drop i).length ∧ firstA s 1 (cs.drop i).length Vb = some (cs.drop i) := by
      rw [RT.so, sb_lo (i := i) no_cast hi (Nat.le_refl _)]
      simp only
      by_cases hlt : i < cs.length
      · rw [Nat.blt_eq.mpr hlt]
        refine ⟨_, rfl, by simp [lenA], ?_⟩
        simp only [firstA, gc_of hg, Nat.zero_add, Nat.mul_one]
        rw [cutL_eq (by simp; omega), List.take_of_length_le (Nat.le_refl _)]
      · have hie : i = cs.length := by omega
        have e1 : Nat.blt i cs.length = false := by rw [← Bool.not_eq_true, Nat.blt_eq]; exact hlt
        have hd : cs.drop i = [] := List.drop_eq_nil_of_le (by omega)
        rw [e1, hd]
        by_cases h0 : i = 0
        · subst h0
          refine ⟨_, rfl, by show some (cs.length - 0) = some 0; rw [← hie], ?_⟩
          simp only [firstA, gc_of hg, List.length_nil, Nat.zero_mul]
          rfl
        · have e2 : Nat.beq i 0 = false := beq_ne h0
          rw [e2]
          cases ex with
          | true =>
            refine ⟨_, rfl, rfl, ?_⟩
            simp only [firstA, gc_of hg, List.length_nil, Nat.zero_mul]
            rfl
          | false => exact ⟨_, rfl, rfl, rfl⟩
    have hr : (cs.drop i).length ≤ 1000 := by simp; omega
    obtain ⟨W, s2, w1, ⟨wi, we, wf, rfl, wg, wq⟩, w3, w4, w5⟩ := inner Vb (cs.drop i) hb2 hb3 hr (fun v hv => h1 v (List.mem_of_mem_drop hv))
    have hg2 := (w5 id hid).trans hg
    have f2 : firstA s2 1 (1 + (cs.drop i).length) (.slice wi 0 (1 + (cs.drop i).length) 0 (1 + (cs.drop i).length) we) = some (x :: cs.drop i) := by
      simp only [firstA, gc_of wg, Nat.mul_one]
      rw [cutL_eq (by simp; omega), List.drop_zero, List.take_of_length_le (by simp; omega)]
    have nl : Nat.beq (x :: cs.drop i).length (1 + (cs.drop i).length) = true := by
      rw [List.length_cons, Nat.add_comm]; exact Nat.beq_refl _
    have ox : (x :: cs.drop i).all AV.one = true := all_one_of (fun v hv => by
      rcases List.mem_cons.mp hv with rfl | hv
      · exact hx
      · exact h1 v (List.mem_of_mem_drop hv))
    have need : i + (1 + (cs.drop i).length) = cs.length + 1 := by simp; omega
    have e1 : Nat.ble (cs.length + 1) cs.length = false := by
      cases hb : Nat.ble (cs.length + 1) cs.length with
      | false => rfl
      | true => have := Nat.ble_eq.mp hb; omega
    have ct : cutL 0 i cs = some (cs.take i) := cutL_zero hi
    have hlen : (cs.take i ++ x :: cs.drop i).length = cs.length + 1 := by simp; omega
    cases ex with
    | true =>
      refine ⟨_, Vb, _, .slice s2.nx 0 (cs.length + 1) 0 (cs.length + 1) false, s2, s2.alloc (.cells (cs.take i ++ x :: cs.drop i) ty (2 * el.size)), hta, hb1, w1, ?_, Or.inr ⟨s2.nx, false, 2 * el.size, by rw [hlen], al_same, fun _ => by rw [hsz]⟩, below_al w3 _, by show s.nx ≤ s2.nx + 1; omega, fun j hj _ => ?_, fun b hb => ?_, w5⟩
      · rw [RT.app]
        simp only [appG, lenA, f2, nl, ox, Bool.and_self, cond_true, growA, gc_of hg2, need, e1, cond_false, hsz, Nat.mul_one, ct, e3 (cs.length + 1) (by omega), e4 (cs.length + 1) (by omega)]
      · rw [al_ne (by omega), w5 j hj]
      · have hb : some s2.nx = some b := hb
        cases hb
        exact w4
    | false =>
      have hfz := hf rfl
      subst hfz
      refine ⟨_, Vb, _, .slice s2.nx 0 (cs.length + 1) 0 (cs.length + 1) false, s2, { h := (s2.h.del id).set s2.nx (.cells (cs.take i ++ x :: cs.drop i) ty 2), nx := s2.nx + 1 }, hta, hb1, w1, ?_, Or.inr ⟨s2.nx, false, 2, by rw [hlen], hs_same, fun _ => rfl⟩, below_move w3, by show s.nx ≤ s2.nx + 1; omega, fun j hj hne => ?_, fun b hb => ?_, w5⟩
      · rw [RT.app]
        simp only [appG, lenA, f2, nl, ox, Bool.and_self, cond_true, growA, gc_of hg2, need, e1, cond_false, hsz, Nat.mul_one, ct, e3 (cs.length + 1) (by omega), e4 (cs.length + 1) (by omega), Nat.beq_refl, Nat.zero_mul]
        rfl
      · show ((s2.h.del id).set s2.nx _).get j = _
        rw [hs_ne (by omega), Tr.get_del, if_neg (fun e => hne (by rw [e]; rfl)), w5 j hj]
      · have hb : some s2.nx = some b := hb
        cases hb
        exact w4
end
end Go.AX
namespace Go.AX
open Go.Proofs Go.RowKit
set_option maxRecDepth 1000000
set_option maxHeartbeats 40000000
set_option linter.unusedSimpArgs false
set_option linter.unusedVariables false
structure RN where
  id : Int
  kind : Int
  mode : Int
  data : List Nat
  names : List (List Nat)
  kids : List Nat
  up : Option Nat
structure RM where
  nodes : List RN
  cwd : Nat
  fds : List (Option Nat)
  next : Int
def rnA (ι : Nat → Nat) (nd : RN) (V K : AV) : AO := .cells [.raw (.int .i64 nd.id), .raw (.int .i64 nd.kind), .raw (.int .i64 nd.mode), .str nd.data, V, K, upA (nd.up.map ι)] 69 0
def rtA (r c : Nat) (F : AV) (nx : Int) : AO := .cells [.ptr r 0, .ptr c 0, F, .raw (.int .i64 1024), .raw (.int .i64 512), .raw (.int .i64 128), .raw (.int .i64 nx), .raw (.bool false)] 83 0
def ptrsA (ι : Nat → Nat) (l : List Nat) : List AV := l.map fun j => .ptr (ι j) 0
structure RepR (s : St) (x : Nat) (R : RM) (ι : Nat → Nat) (ν κ : Nat → AV) (φ : AV) : Prop where
  nd : ∀ (k : Nat) (nd : RN), R.nodes[k]? = some nd → s.h.get (ι k) = some (rnA ι nd (ν k) (κ k)) ∧ RowV 9 s (ν k) (nd.names.map .str) ∧ RowV 65 s (κ k) (ptrsA ι nd.kids)
  tr : s.h.get x = some (rtA (ι 0) (ι R.cwd) φ R.next)
  fd : RowV 65 s φ (R.fds.map fun o => upA (o.map ι))
  ij : ∀ j k, j < R.nodes.length → k < R.nodes.length → ι j = ι k → j = k
  nj : ∀ j k b, j < R.nodes.length → k < R.nodes.length → blk (ν j) = some b → blk (ν k) = some b → j = k
  kj : ∀ j k b, j < R.nodes.length → k < R.nodes.length → blk (κ j) = some b → blk (κ k) = some b → j = k
  fj : ∀ k b, k < R.nodes.length → blk (κ k) = some b → blk φ ≠ some b
  kd : ∀ (k : Nat) (nd : RN), R.nodes[k]? = some nd → ∀ j ∈ nd.kids, j < R.nodes.length
  up : ∀ (k : Nat) (nd : RN) (u : Nat), R.nodes[k]? = some nd → nd.up = some u → u < R.nodes.length
  rt : 0 < R.nodes.length
  cw : R.cwd < R.nodes.length
  fo : ∀ o ∈ R.fds, ∀ k, o = some k → k < R.nodes.length
  nn : ∀ (k : Nat) (nd : RN), R.nodes[k]? = some nd → nd.kids.length = nd.names.length ∧ nd.names.length ≤ 900
  nx : 0 ≤ R.next ∧ R.next ≤ 1000000000
def OwnR (x : Nat) (R : RM) (ι : Nat → Nat) (ν κ : Nat → AV) (φ : AV) (i : Nat) : Prop := i = x ∨ (∃ k, k < R.nodes.length ∧ (i = ι k ∨ blk (ν k) = some i ∨ blk (κ k) = some i)) ∨ blk φ = some i
theorem ld_rn (s : St) (x o : Nat) : loadA TE s 65 (.ptr x o) = ldC s x o := ld_gen (by kernel_rfl)
theorem st_rn (s : St) (x o : Nat) (v : AV) (h1 : v.cells = [v]) (h2 : v.one = true) : storeA TE s 65 (.ptr x o) v = stC s x o v := st_gen (by kernel_rfl) h1 h2
theorem ld_rs (s : St) (x o : Nat) : loadA TE s 67 (.ptr x o) = ldC s x o := ld_gen (by kernel_rfl)
theorem st_rs (s : St) (x o : Nat) (v : AV) (h1 : v.cells = [v]) (h2 : v.one = true) : storeA TE s 67 (.ptr x o) v = stC s x o v := st_gen (by kernel_rfl) h1 h2
theorem fr5_0 {x : Nat} : fieldAddrA TE 69 (.ptr x 0) 0 = some (.ptr x 0) := by kernel_rfl
theorem fr5_1 {x : Nat} : fieldAddrA TE 69 (.ptr x 0) 1 = some (.ptr x 1) := by kernel_rfl
theorem fr5_4 {x : Nat} : fieldAddrA TE 69 (.ptr x 0) 4 = some (.ptr x 4) := by kernel_rfl
theorem fr5_5 {x : Nat} : fieldAddrA TE 69 (.ptr x 0) 5 = some (.ptr x 5) := by kernel_rfl
theorem fr5_6 {x : Nat} : fieldAddrA TE 69 (.ptr x 0) 6 = some (.ptr x 6) := by kernel_rfl
theorem ft5_0 {x : Nat} : fieldAddrA TE 83 (.ptr x 0) 0 = some (.ptr x 0) := by kernel_rfl
theorem ft5_6 {x : Nat} : fieldAddrA TE 83 (.ptr x 0) 6 = some (.ptr x 6) := by kernel_rfl
section
variable {ι : Nat → Nat} {nd : RN} {V K : AV}
theorem lr_1 : ldO (some (rnA ι nd V K)) 1 = some (.raw (.int .i64 nd.kind)) := (rfl)
theorem lr_4 : ldO (some (rnA ι nd V K)) 4 = some V := (rfl)
theorem lr_5 : ldO (some (rnA ι nd V K)) 5 = some K := (rfl)
theorem ir_n {b : Bool} : inO (some (rnA ι nd V K)) b = b := (rfl)
end
theorem b_ltS {a b : List Nat} : binFast .lss (.str a) (.str b) = some (boolA (ltB a b)) := (rfl)
def posR (nm : List Nat) : List (List Nat) → Nat
  | [] => 0
  | p :: l => bif ltB p nm then posR nm l + 1 else 0
theorem posR_le {nm : List Nat} : ∀ {l : List (List Nat)}, posR nm l ≤ l.length
  | [] => Nat.le_refl _
  | p :: l => by
    have := posR_le (nm := nm) (l := l)
    simp only [posR]
    cases ltB p nm <;> simp only [cond_true, cond_false, List.length_cons] <;> omega
theorem posR_stop {nm : List Nat} {l : List (List Nat)} {k : Nat} (h : posR nm l = k + posR nm (l.drop k)) (hs : l[k]? = none ∨ ∃ p, l[k]? = some p ∧ ltB p nm = false) : posR nm l = k := by
  rw [h]
  have : posR nm (l.drop k) = 0 := by
    rcases hs with hs | ⟨p, hs, hp⟩
    · rw [List.getElem?_eq_none_iff] at hs
      rw [List.drop_eq_nil_of_le hs]
      rfl
    · obtain ⟨hl, rfl⟩ := List.getElem?_eq_some_iff.mp hs
      rw [List.drop_eq_getElem_cons hl]
      simp only [posR, hp, cond_false]
  omega
def hasR (nm : List Nat) (l : List (List Nat)) : Bool := match l[posR nm l]? with
  | some p => eqB p nm
  | none => false
def kidR (nd : RN) (nm : List Nat) : Option Nat := bif hasR nm nd.names then nd.kids[posR nm nd.names]? else none
theorem upA_some {i : Nat} : upA (some i) = .ptr i 0 := (rfl)
theorem upA_none : upA none = .raw (.pointer none) := (rfl)
theorem kid_c {s : St} (H : Ok TE Tryz.prog pr3) {ι : Nat → Nat} {nd : RN} {V K : AV} {i : Nat} {nm : List Nat} (hi : s.h.get i = some (rnA ι nd V K)) (hV : RowV 9 s V (nd.names.map .str)) (hK : RowV 65 s K (ptrsA ι nd.kids))
    (hl : nd.kids.length = nd.names.length) (hn : nd.names.length ≤ 1000) {kr kp : AV → St → Bool} (hk : kr (.tuple [upA ((kidR nd nm).map ι), .raw (.int .i64 (posR nm nd.names : Int))]) s = true) :
    (sem Tryz.prog).call 51 [.ptr i 0, .str nm] s kr kp = true := by
  refine w_call H 54 fn_51 rfl rfl ?_
  have vl := hV.len rowS
  rw [List.length_map] at vl
  have vi := hV.ids
  have ki := hK.ids
  have gv : ∀ {k : Nat} {p : List Nat}, nd.names[k]? = some p → (nd.names.map AV.str)[k]? = some (.str p) := fun h => by rw [List.getElem?_map, h]; rfl
  repeat (first | with_reducible (refine w_one H ?_; constructor) | simp only [rB, rP, rQ, boolA, intA, resultA, resA, reduceIte, reduceCtorEq, Nat.reduceAdd, Nat.reduceLT, Nat.reduceEqDiff, UInt8.reduceToNat, pe3, pf3])
  refine w_loop_ind H (fun n t s' => ∃ k : Nat, n + k = nd.names.length ∧ s' = s ∧ tg t 0 = .ptr i 0 ∧ tg t 1 = .str nm ∧ tg t 6 = .raw (.int .i64 (k : Int)) ∧ posR nm nd.names = k + posR nm (nd.names.drop k)) (n := nd.names.length)
    ⟨0, rfl, rfl, by simp only [rB, rP, rQ, boolA, intA, resultA, resA, reduceIte, reduceCtorEq, Nat.reduceAdd, Nat.reduceLT, Nat.reduceEqDiff, UInt8.reduceToNat], by simp only [rB, rP, rQ, boolA, intA, resultA, resA, reduceIte, reduceCtorEq, Nat.reduceAdd, Nat.reduceLT, Nat.reduceEqDiff, UInt8.reduceToNat], by simp only [rB, rP, rQ, boolA, intA, resultA, resA, reduceIte, reduceCtorEq, Nat.reduceAdd, Nat.reduceLT, Nat.reduceEqDiff, UInt8.reduceToNat]; rfl, by simp⟩ ?_
  rintro n t s' ih ⟨k, hn', rfl, t0, t1, t6, hp⟩
  have tail : (nd.names[k]? = none ∨ ∃ p, nd.names[k]? = some p ∧ ltB p nm = false) → posR nm nd.names = k := posR_stop hp
  cases n with
  | zero =>
    have g0 := dec_nlt (a := k) (b := nd.names.length) (by omega)
    have hnone : nd.names[k]? = none := List.getElem?_eq_none (by omega)
    have e := tail (Or.inl hnone)
    have hk0 : kidR nd nm = none := by unfold kidR hasR; rw [e, hnone]; rfl
    rw [hk0, e] at hk
    repeat (first | with_reducible (refine w_one H ?_; constructor) | simp only [rB, rP, rQ, boolA, intA, resultA, resA, reduceIte, reduceCtorEq, Nat.reduceAdd, Nat.reduceLT, Nat.reduceEqDiff, UInt8.reduceToNat, pe3, pf3, t0, t1, t6, nilA_ptr, fr5_4, ld_41, hi, lr_4, ir_n, vl, vi, b_lt, g0, Tryz.results51])
    exact hk
  | succ n =>
    have hlt : k < nd.names.length := by omega
    have g0 := dec_lt hlt
    have ew := nat_plus (k := k) (by omega)
    have hx : nd.names[k]? = some nd.names[k] := List.getElem?_eq_getElem hlt
    rw [List.drop_eq_getElem_cons hlt] at hp
    generalize nd.names[k] = p at hx hp
    obtain ⟨id, i1, i2, i3, _⟩ := hV.at rowS (gv hx)
    cases hlp : ltB p nm with
    | true =>
      repeat (first | with_reducible (refine w_one H ?_; constructor) | simp only [rB, rP, rQ, boolA, intA, resultA, resA, reduceIte, reduceCtorEq, Nat.reduceAdd, Nat.reduceLT, Nat.reduceEqDiff, UInt8.reduceToNat, pe3, pf3, t0, t1, t6, nilA_ptr, fr5_4, ld_41, ld_9, hi, lr_4, ir_n, vl, vi, b_lt, g0, i1, i2, i3, b_ltS, hlp, b_plus, ew])
      refine ih n _ _ (Nat.lt_succ_self n) ⟨k + 1, by omega, rfl, by simp only [rB, rP, rQ, boolA, intA, resultA, resA, reduceIte, reduceCtorEq, Nat.reduceAdd, Nat.reduceLT, Nat.reduceEqDiff, UInt8.reduceToNat, t0], by simp only [rB, rP, rQ, boolA, intA, resultA, resA, reduceIte, reduceCtorEq, Nat.reduceAdd, Nat.reduceLT, Nat.reduceEqDiff, UInt8.reduceToNat, t1], by simp only [rB, rP, rQ, boolA, intA, resultA, resA, reduceIte, reduceCtorEq, Nat.reduceAdd, Nat.reduceLT, Nat.reduceEqDiff, UInt8.reduceToNat], ?_⟩
      rw [hp]
      simp only [posR, hlp, cond_true]
      omega
    | false =>
      have e := tail (Or.inr ⟨p, hx, hlp⟩)
      cases heq : eqB p nm with
      | false =>
        have hk0 : kidR nd nm = none := by unfold kidR hasR; rw [e, hx]; simp only [heq, cond_false]
        rw [hk0, e] at hk
        repeat (first | with_reducible (refine w_one H ?_; constructor) | simp only [rB, rP, rQ, boolA, intA, resultA, resA, reduceIte, reduceCtorEq, Nat.reduceAdd, Nat.reduceLT, Nat.reduceEqDiff, UInt8.reduceToNat, pe3, pf3, t0, t1, t6, nilA_ptr, fr5_4, ld_41, ld_9, hi, lr_4, ir_n, vl, vi, b_lt, g0, i1, i2, i3, b_ltS, hlp, b_eqs, heq, Tryz.results51])
        exact hk
      | true =>
        have hkl : k < nd.kids.length := by omega
        have hkk : nd.kids[k]? = some nd.kids[k] := List.getElem?_eq_getElem hkl
        have hk0 : kidR nd nm = some nd.kids[k] := by unfold kidR hasR; rw [e, hx]; simp only [heq, cond_true]; exact hkk
        rw [hk0, e] at hk
        generalize nd.kids[k] = j at hkk hk
        obtain ⟨id', j1, j2, j3, _⟩ := hK.at rowN (k := k) (v := .ptr (ι j) 0) (by unfold ptrsA; rw [List.getElem?_map, hkk]; rfl)
        repeat (first | with_reducible (refine w_one H ?_; constructor) | simp only [rB, rP, rQ, boolA, intA, resultA, resA, reduceIte, reduceCtorEq, Nat.reduceAdd, Nat.reduceLT, Nat.reduceEqDiff, UInt8.reduceToNat, pe3, pf3, t0, t1, t6, nilA_ptr, fr5_4, fr5_5, ld_41, ld_9, ld_rs, ld_rn, hi, lr_4, lr_5, ir_n, vl, vi, ki, b_lt, g0, i1, i2, i3, j1, j2, j3, b_ltS, hlp, b_eqs, heq, Tryz.results51])
        exact hk
end Go.AX
namespace Go.AX
open Go.Proofs Go.RowKit
set_option maxRecDepth 1000000
set_option maxHeartbeats 40000000
set_option linter.unusedSimpArgs false
set_option linter.unusedVariables false
structure Nxt (s s' : St) (O O' : Nat → Prop) : Prop where
  nx : s.nx ≤ s'.nx
  fr : ∀ i, i < s.nx → ¬ O i → s'.h.get i = s.h.get i
  ow : ∀ i, O' i → O i ∨ s.nx ≤ i
theorem Nxt.refl {s : St} {O : Nat → Prop} : Nxt s s O O := ⟨Nat.le_refl _, fun _ _ _ => rfl, fun _ h => Or.inl h⟩
theorem Nxt.trans {s s' s'' : St} {O O' O'' : Nat → Prop} (h : Nxt s s' O O') (h' : Nxt s' s'' O' O'') : Nxt s s'' O O'' := by
  refine ⟨Nat.le_trans h.nx h'.nx, fun i hi hn => ?_, fun i hi => ?_⟩
  · have h1 := h.nx
    refine (h'.fr i (by omega) (fun ho => ?_)).trans (h.fr i hi hn)
    rcases h.ow i ho with h2 | h2
    · exact hn h2
    · omega
  · rcases h'.ow i hi with h2 | h2
    · exact h.ow i h2
    · have := h.nx
      exact Or.inr (by omega)
theorem Nxt.held {s s' : St} {O O' : Nat → Prop} (h : Nxt s s' O O') (hB : Below0 s) {L : List (Nat × AO)} (hL : ∀ q ∈ L, s.h.get q.1 = some q.2 ∧ ¬ O q.1) : ∀ q ∈ L, s'.h.get q.1 = some q.2 ∧ ¬ O' q.1 := by
  intro q hq
  obtain ⟨h1, h2⟩ := hL q hq
  have hl := hB _ _ h1
  refine ⟨(h.fr _ hl h2).trans h1, fun ho => ?_⟩
  rcases h.ow _ ho with h3 | h3
  · exact h2 h3
  · omega
def updV (ν : Nat → AV) (k : Nat) (V : AV) : Nat → AV := fun j => if j = k then V else ν j
theorem updV_at {ν : Nat → AV} {k : Nat} {V : AV} : updV ν k V k = V := if_pos rfl
theorem updV_ne {ν : Nat → AV} {k j : Nat} {V : AV} (h : j ≠ k) : updV ν k V j = ν j := if_neg h
theorem updV_self {ν : Nat → AV} {k : Nat} : updV ν k (ν k) = ν := by
  funext j
  unfold updV
  split
  · next h => rw [h]
  · rfl
theorem rn_ty {s : St} {ι : Nat → Nat} {nd : RN} {V K : AV} {i ty fz : Nat} {cs : List AV} (h1 : s.h.get i = some (rnA ι nd V K)) (h2 : s.h.get i = some (.cells cs ty fz)) : ty = 69 := by
  unfold rnA at h1
  rw [h1] at h2
  injection h2 with h2
  injection h2 with _ h _
  exact h.symm
theorem row_ty {s : St} {ty ty' : Nat} {V V' : AV} {cs cs' : List AV} {b : Nat} (h : RowV ty s V cs) (h' : RowV ty' s V' cs') (hb : blk V = some b) (hb' : blk V' = some b) : ty = ty' := by
  obtain ⟨fz, e⟩ := h.get hb
  obtain ⟨fz', e'⟩ := h'.get hb'
  rw [e] at e'
  injection e' with e'
  injection e' with _ h _
theorem RepR.node_of {s : St} {x : Nat} {R : RM} {ι : Nat → Nat} {ν κ : Nat → AV} {φ : AV} (_ : RepR s x R ι ν κ φ) {k : Nat} (h : k < R.nodes.length) : ∃ nd, R.nodes[k]? = some nd := ⟨_, List.getElem?_eq_getElem h⟩
section
variable {s : St} {x : Nat} {R : RM} {ι : Nat → Nat} {ν κ : Nat → AV} {φ : AV} (Rp : RepR s x R ι ν κ φ)
include Rp
theorem RepR.li (hB : Below0 s) {k : Nat} (h : k < R.nodes.length) : ι k < s.nx := by
  obtain ⟨nd, hn⟩ := Rp.node_of h
  exact hB _ _ (Rp.nd k nd hn).1
theorem RepR.lx (hB : Below0 s) : x < s.nx := hB _ _ Rp.tr
theorem RepR.ix {k : Nat} (h : k < R.nodes.length) : ι k ≠ x := by
  intro e
  obtain ⟨nd, hn⟩ := Rp.node_of h
  have h1 := (Rp.nd k nd hn).1
  have h2 := Rp.tr
  rw [← e] at h2
  exact absurd (rn_ty h1 h2) (by decide)
theorem RepR.vi {j k b : Nat} (hj : j < R.nodes.length) (hk : k < R.nodes.length) (hb : blk (ν j) = some b) : b ≠ ι k := by
  intro e
  obtain ⟨nd, hn⟩ := Rp.node_of hj
  obtain ⟨nd', hn'⟩ := Rp.node_of hk
  obtain ⟨fz, h2⟩ := (Rp.nd j nd hn).2.1.get hb
  rw [e] at h2
  exact absurd (rn_ty (Rp.nd k nd' hn').1 h2) (by decide)
theorem RepR.ki {j k b : Nat} (hj : j < R.nodes.length) (hk : k < R.nodes.length) (hb : blk (κ j) = some b) : b ≠ ι k := by
  intro e
  obtain ⟨nd, hn⟩ := Rp.node_of hj
  obtain ⟨nd', hn'⟩ := Rp.node_of hk
  obtain ⟨fz, h2⟩ := (Rp.nd j nd hn).2.2.get hb
  rw [e] at h2
  exact absurd (rn_ty (Rp.nd k nd' hn').1 h2) (by decide)
theorem RepR.vk {j k b : Nat} (hj : j < R.nodes.length) (hk : k < R.nodes.length) (hb : blk (ν j) = some b) : blk (κ k) ≠ some b := by
  intro e
  obtain ⟨nd, hn⟩ := Rp.node_of hj
  obtain ⟨nd', hn'⟩ := Rp.node_of hk
  exact absurd (row_ty (Rp.nd j nd hn).2.1 (Rp.nd k nd' hn').2.2 hb e) (by decide)
theorem RepR.vf {j b : Nat} (hj : j < R.nodes.length) (hb : blk (ν j) = some b) : blk φ ≠ some b := by
  intro e
  obtain ⟨nd, hn⟩ := Rp.node_of hj
  exact absurd (row_ty (Rp.nd j nd hn).2.1 Rp.fd hb e) (by decide)
theorem RepR.fi {k b : Nat} (hk : k < R.nodes.length) (hb : blk φ = some b) : b ≠ ι k := by
  intro e
  obtain ⟨nd', hn'⟩ := Rp.node_of hk
  obtain ⟨fz, h2⟩ := Rp.fd.get hb
  rw [e] at h2
  exact absurd (rn_ty (Rp.nd k nd' hn').1 h2) (by decide)
theorem RepR.rx {ty b : Nat} {V : AV} {cs : List AV} (h : RowV ty s V cs) (hb : blk V = some b) (ht : ty ≠ 83) : b ≠ x := by
  intro e
  obtain ⟨fz, h2⟩ := h.get hb
  have h3 := Rp.tr
  rw [e, h3] at h2
  injection h2 with h2
  injection h2 with _ h4 _
  exact ht h4.symm
theorem RepR.node (hB : Below0 s) {k : Nat} {nd nd' : RN} (hk : R.nodes[k]? = some nd) {V' K' : AV} {s' : St}
    (g : s'.h.get (ι k) = some (rnA ι nd' V' K')) (gV : RowV 9 s' V' (nd'.names.map .str)) (gK : RowV 65 s' K' (ptrsA ι nd'.kids))
    (oV : ∀ b, blk V' = some b → blk (ν k) = some b ∨ s.nx ≤ b) (oK : ∀ b, blk K' = some b → blk (κ k) = some b ∨ s.nx ≤ b) (hnx : s.nx ≤ s'.nx)
    (fr : ∀ i, i < s.nx → i ≠ ι k → blk (ν k) ≠ some i → blk (κ k) ≠ some i → s'.h.get i = s.h.get i)
    (kd' : ∀ j ∈ nd'.kids, j < R.nodes.length) (up' : ∀ u, nd'.up = some u → u < R.nodes.length) (nn' : nd'.kids.length = nd'.names.length ∧ nd'.names.length ≤ 900) :
    RepR s' x { R with nodes := R.nodes.set k nd' } ι (updV ν k V') (updV κ k K') φ ∧ Nxt s s' (OwnR x R ι ν κ φ) (OwnR x { R with nodes := R.nodes.set k nd' } ι (updV ν k V') (updV κ k K') φ) := by
  have hkl := (List.getElem?_eq_some_iff.mp hk).1
  have hlen : (R.nodes.set k nd').length = R.nodes.length := List.length_set
  have hT : ∀ j jd, (R.nodes.set k nd')[j]? = some jd → (j = k ∧ jd = nd') ∨ (j ≠ k ∧ R.nodes[j]? = some jd) := by
    intro j jd h
    rw [List.getElem?_set] at h
    by_cases e : k = j
    · rw [if_pos e, if_pos hkl] at h
      cases h
      exact Or.inl ⟨e.symm, rfl⟩
    · rw [if_neg e] at h
      exact Or.inr ⟨fun e' => e e'.symm, h⟩
  have ltV : ∀ j b, j < R.nodes.length → blk (ν j) = some b → b < s.nx := fun j b hj hb => by
    obtain ⟨jd, hjd⟩ := Rp.node_of hj
    exact (Rp.nd j jd hjd).2.1.lt hB hb
  have ltK : ∀ j b, j < R.nodes.length → blk (κ j) = some b → b < s.nx := fun j b hj hb => by
    obtain ⟨jd, hjd⟩ := Rp.node_of hj
    exact (Rp.nd j jd hjd).2.2.lt hB hb
  have ltF : ∀ b, blk φ = some b → b < s.nx := fun b hb => Rp.fd.lt hB hb
  refine ⟨⟨?_, ?_, ?_, Rp.ij |> fun h => by intro a b ha hb; rw [hlen] at ha hb; exact h a b ha hb, ?_, ?_, ?_, ?_, ?_, ?_, ?_, ?_, ?_, Rp.nx⟩, hnx, ?_, ?_⟩
  · intro j jd h
    rcases hT j jd h with ⟨rfl, rfl⟩ | ⟨hjk, hj⟩
    · rw [updV_at, updV_at]
      exact ⟨g, gV, gK⟩
    · rw [updV_ne hjk, updV_ne hjk]
      have hjl := (List.getElem?_eq_some_iff.mp hj).1
      obtain ⟨o1, o2, o3⟩ := Rp.nd j jd hj
      refine ⟨(fr _ (Rp.li hB hjl) (fun e => hjk (Rp.ij _ _ hjl hkl e)) (fun e => Rp.vi hkl hjl e rfl) (fun e => Rp.ki hkl hjl e rfl)).trans o1, o2.keep (fun b hb => fr b (ltV j b hjl hb) (Rp.vi hjl hkl hb) (fun e => hjk (Rp.nj _ _ _ hjl hkl hb e)) (Rp.vk hjl hkl hb)), o3.keep (fun b hb => fr b (ltK j b hjl hb) (Rp.ki hjl hkl hb) (fun e => Rp.vk hkl hjl e hb) (fun e => hjk (Rp.kj _ _ _ hjl hkl hb e)))⟩
  · refine (fr x (Rp.lx hB) (fun e => Rp.ix hkl e.symm) (fun e => Rp.rx (Rp.nd k nd hk).2.1 e (by decide) rfl) (fun e => Rp.rx (Rp.nd k nd hk).2.2 e (by decide) rfl)).trans Rp.tr
  · exact Rp.fd.keep (fun b hb => fr b (ltF b hb) (Rp.fi hkl hb) (fun e => Rp.vf hkl e hb) (fun e => Rp.fj k b hkl e hb))
  · intro a b c ha hb ea eb
    rw [hlen] at ha hb
    by_cases h1 : a = k
    · by_cases h2 : b = k
      · rw [h1, h2]
      · exfalso
        rw [h1, updV_at] at ea
        rw [updV_ne h2] at eb
        rcases oV c ea with h3 | h3
        · exact h2 (Rp.nj _ _ _ hb hkl eb h3)
        · have := ltV b c hb eb; omega
    · rw [updV_ne h1] at ea
      by_cases h2 : b = k
      · exfalso
        rw [h2, updV_at] at eb
        rcases oV c eb with h3 | h3
        · exact h1 (Rp.nj _ _ _ ha hkl ea h3)
        · have := ltV a c ha ea; omega
      · rw [updV_ne h2] at eb
        exact Rp.nj _ _ _ ha hb ea eb
  · intro a b c ha hb ea eb
    rw [hlen] at ha hb
    by_cases h1 : a = k
    · by_cases h2 : b = k
      · rw [h1, h2]
      · exfalso
        rw [h1, updV_at] at ea
        rw [updV_ne h2] at eb
        rcases oK c ea with h3 | h3
        · exact h2 (Rp.kj _ _ _ hb hkl eb h3)
        · have := ltK b c hb eb; omega
    · rw [updV_ne h1] at ea
      by_cases h2 : b = k
      · exfalso
        rw [h2, updV_at] at eb
        rcases oK c eb with h3 | h3
        · exact h1 (Rp.kj _ _ _ ha hkl ea h3)
        · have := ltK a c ha ea; omega
      · rw [updV_ne h2] at eb
        exact Rp.kj _ _ _ ha hb ea eb
  · intro a c ha ea
    rw [hlen] at ha
    by_cases h1 : a = k
    · rw [h1, updV_at] at ea
      rcases oK c ea with h3 | h3
      · exact Rp.fj k c hkl h3
      · intro e; have := ltF c e; omega
    · rw [updV_ne h1] at ea
      exact Rp.fj a c ha ea
  · intro j jd h q hq
    show q < (R.nodes.set k nd').length
    rw [hlen]
    rcases hT j jd h with ⟨rfl, rfl⟩ | ⟨_, hj⟩
    · exact kd' q hq
    · exact Rp.kd j jd hj q hq
  · intro j jd u h hu
    show u < (R.nodes.set k nd').length
    rw [hlen]
    rcases hT j jd h with ⟨rfl, rfl⟩ | ⟨_, hj⟩
    · exact up' u hu
    · exact Rp.up j jd u hj hu
  · show 0 < (R.nodes.set k nd').length; rw [hlen]; exact Rp.rt
  · show R.cwd < (R.nodes.set k nd').length; rw [hlen]; exact Rp.cw
  · intro o ho u hu
    show u < (R.nodes.set k nd').length
    rw [hlen]
    exact Rp.fo o ho u hu
  · intro j jd h
    rcases hT j jd h with ⟨rfl, rfl⟩ | ⟨_, hj⟩
    · exact nn'
    · exact Rp.nn j jd hj
  · intro i hi hno
    refine fr i hi (fun e => hno (Or.inr (Or.inl ⟨k, hkl, Or.inl e⟩))) (fun e => hno (Or.inr (Or.inl ⟨k, hkl, Or.inr (Or.inl e)⟩))) (fun e => hno (Or.inr (Or.inl ⟨k, hkl, Or.inr (Or.inr e)⟩)))
  · intro i hi
    rcases hi with rfl | ⟨j, hj, hj'⟩ | hi
    · exact Or.inl (Or.inl rfl)
    · have hj : j < R.nodes.length := by have : j < (R.nodes.set k nd').length := hj; rw [hlen] at this; exact this
      rcases hj' with rfl | hj' | hj'
      · exact Or.inl (Or.inr (Or.inl ⟨j, hj, Or.inl rfl⟩))
      · by_cases e : j = k
        · rw [e, updV_at] at hj'
          rcases oV i hj' with h3 | h3
          · exact Or.inl (Or.inr (Or.inl ⟨k, hkl, Or.inr (Or.inl h3)⟩))
          · exact Or.inr h3
        · rw [updV_ne e] at hj'
          exact Or.inl (Or.inr (Or.inl ⟨j, hj, Or.inr (Or.inl hj')⟩))
      · by_cases e : j = k
        · rw [e, updV_at] at hj'
          rcases oK i hj' with h3 | h3
          · exact Or.inl (Or.inr (Or.inl ⟨k, hkl, Or.inr (Or.inr h3)⟩))
          · exact Or.inr h3
        · rw [updV_ne e] at hj'
          exact Or.inl (Or.inr (Or.inl ⟨j, hj, Or.inr (Or.inr hj')⟩))
    · exact Or.inl (Or.inr (Or.inr hi))
theorem RepR.keep {s' : St} (hk : ∀ i, OwnR x R ι ν κ φ i → s'.h.get i = s.h.get i) : RepR s' x R ι ν κ φ := by
  refine ⟨fun k nd h => ?_, (hk x (Or.inl rfl)).trans Rp.tr, Rp.fd.keep (fun b hb => hk b (Or.inr (Or.inr hb))), Rp.ij, Rp.nj, Rp.kj, Rp.fj, Rp.kd, Rp.up, Rp.rt, Rp.cw, Rp.fo, Rp.nn, Rp.nx⟩
  have hl := (List.getElem?_eq_some_iff.mp h).1
  obtain ⟨h1, h2, h3⟩ := Rp.nd k nd h
  exact ⟨(hk _ (Or.inr (Or.inl ⟨k, hl, Or.inl rfl⟩))).trans h1, h2.keep (fun b hb => hk b (Or.inr (Or.inl ⟨k, hl, Or.inr (Or.inl hb)⟩))), h3.keep (fun b hb => hk b (Or.inr (Or.inl ⟨k, hl, Or.inr (Or.inr hb)⟩)))⟩
theorem RepR.own_lt (hB : Below0 s) {i : Nat} (h : OwnR x R ι ν κ φ i) : i < s.nx := by
  rcases h with rfl | ⟨k, hk, h⟩ | h
  · exact Rp.lx hB
  · obtain ⟨nd, hn⟩ := Rp.node_of hk
    obtain ⟨h1, h2, h3⟩ := Rp.nd k nd hn
    rcases h with rfl | h | h
    · exact hB _ _ h1
    · exact h2.lt hB h
    · exact h3.lt hB h
  · exact Rp.fd.lt hB h
theorem RepR.ext {s' : St} (hB : Below0 s) (hE : Ext s s') : RepR s' x R ι ν κ φ := Rp.keep (fun i hi => hE.2 i (Rp.own_lt hB hi))
end
end Go.AX
namespace Go.AX
open Go.Proofs Go.RowKit
set_option maxRecDepth 1000000
set_option maxHeartbeats 40000000
set_option linter.unusedSimpArgs false
set_option linter.unusedVariables false
theorem sr_6p {s : St} {x u : Nat} {ι : Nat → Nat} {nd : RN} {V K : AV} : stO s x (some (rnA ι nd V K)) 6 (.ptr (ι u) 0) = some { s with h := s.h.set x (rnA ι { nd with up := some u } V K) } := (rfl)
theorem sr_4 {s : St} {x : Nat} {ι : Nat → Nat} {nd : RN} {V K V' : AV} : stO s x (some (rnA ι nd V K)) 4 V' = some { s with h := s.h.set x (rnA ι nd V' K) } := (rfl)
theorem sr_5 {s : St} {x : Nat} {ι : Nat → Nat} {nd : RN} {V K K' : AV} : stO s x (some (rnA ι nd V K)) 5 K' = some { s with h := s.h.set x (rnA ι nd V K') } := (rfl)
theorem sr_0 {s : St} {x : Nat} {ι : Nat → Nat} {nd : RN} {V K : AV} {z : Int} : stO s x (some (rnA ι nd V K)) 0 (.raw (.int .i64 z)) = some { s with h := s.h.set x (rnA ι { nd with id := z } V K) } := (rfl)
theorem upA_cells {o : Option Nat} : (upA o).cells = [upA o] := by cases o <;> rfl
theorem bo_rn {ι : Nat → Nat} {nd : RN} {V K : AV} : beqO (rnA ι nd V K) (rnA ι nd V K) = (beqA V V && beqA K K) := by
  have h : beqA (upA (nd.up.map ι)) (upA (nd.up.map ι)) = true := by cases nd.up <;> simp [upA, ba_ptr, ba_nilp]
  simp [rnA, beqO, beqAs, h, ba_int, ba_str]
theorem bs_n {s : St} {i : Nat} : buildSliceA TE s 67 1 [(0, .ptr i 0)] = some (.slice s.nx 0 1 0 1 true, s.alloc (.cells [.ptr i 0] 65 0)) := by kernel_rfl
theorem ne_rn {s : St} {i j : Nat} {d : Option (AV × List Nat)} : eqS TE s .neq 65 (.ptr i j) (.raw (.pointer none)) d = some (.raw (.bool true), []) := by kernel_rfl
theorem eq_rn {s : St} {i j : Nat} {d : Option (AV × List Nat)} : eqS TE s .eql 65 (.ptr i j) (.raw (.pointer none)) d = some (.raw (.bool false), []) := by kernel_rfl
theorem run_rnn {i : Nat} : pureRun TE.P (do let r ← (do eqGuard .neq 65 (.tmp i) (.const (.pointer none)) (.pointer none) (.pointer none); binOp .neq 65 (.pointer none) (.pointer none)); pure (Next.value r)) = some (.value (.bool false)) := by kernel_rfl
theorem pu_rnn {a : Ac} {dst : Option Tmp} {i : Nat} {ty : TypeId} {pos : String} {after : Array Edge} (hx : isNilP (a.eval (.tmp i)) = true) :
    stepPure TE a ⟨dst, .binOp .neq 65 (.tmp i) (.const (.pointer none)) 65, ty, pos, after, none⟩ = some (.raw (.bool false), []) := by
  have hx := isNilP_of hx
  have h1 : valAt a (.tmp i) = .pointer none := by simp [valAt, hx, toVal]
  have h2 : valAt a (.const (.pointer none)) = .pointer none := rfl
  have hall : (Op.operands (.binOp .neq 65 (.tmp i) (.const (.pointer none)) 65)).toList.all (fun x => (toVal (a.eval x)).isSome) = true := by
    show (List.all [.tmp i, .const (.pointer none)] (fun x => (toVal (a.eval x)).isSome)) = true
    simp only [List.all_cons, List.all_nil, hx]
    rfl
  have hr : pureRun TE.P (execOp (valAt a) ⟨dst, .binOp .neq 65 (.tmp i) (.const (.pointer none)) 65, ty, pos, after, none⟩) = some (.value (.bool false)) := by
    have he : execOp (valAt a) ⟨dst, .binOp .neq 65 (.tmp i) (.const (.pointer none)) 65, ty, pos, after, none⟩ = (do let r ← (do eqGuard .neq 65 (.tmp i) (.const (.pointer none)) (.pointer none) (.pointer none); binOp .neq 65 (.pointer none) (.pointer none)); pure (.value r)) := by
      simp only [execOp, h1, h2]
    rw [he]
    exact run_rnn
  simp only [stepPure, hall, cond_true, hr]
  rfl
theorem eqS_rnn {s : St} {d : Option (AV × List Nat)} : eqS TE s .neq 65 (.raw (.pointer none)) (.raw (.pointer none)) d = d := by kernel_rfl
theorem run_rne {i : Nat} : pureRun TE.P (do let r ← (do eqGuard .eql 65 (.tmp i) (.const (.pointer none)) (.pointer none) (.pointer none); binOp .eql 65 (.pointer none) (.pointer none)); pure (Next.value r)) = some (.value (.bool true)) := by kernel_rfl
theorem pu_rne {a : Ac} {dst : Option Tmp} {i : Nat} {ty : TypeId} {pos : String} {after : Array Edge} (hx : isNilP (a.eval (.tmp i)) = true) :
    stepPure TE a ⟨dst, .binOp .eql 65 (.tmp i) (.const (.pointer none)) 65, ty, pos, after, none⟩ = some (.raw (.bool true), []) := by
  have hx := isNilP_of hx
  have h1 : valAt a (.tmp i) = .pointer none := by simp [valAt, hx, toVal]
  have h2 : valAt a (.const (.pointer none)) = .pointer none := rfl
  have hall : (Op.operands (.binOp .eql 65 (.tmp i) (.const (.pointer none)) 65)).toList.all (fun x => (toVal (a.eval x)).isSome) = true := by
    show (List.all [.tmp i, .const (.pointer none)] (fun x => (toVal (a.eval x)).isSome)) = true
    simp only [List.all_cons, List.all_nil, hx]
    rfl
  have hr : pureRun TE.P (execOp (valAt a) ⟨dst, .binOp .eql 65 (.tmp i) (.const (.pointer none)) 65, ty, pos, after, none⟩) = some (.value (.bool true)) := by
    have he : execOp (valAt a) ⟨dst, .binOp .eql 65 (.tmp i) (.const (.pointer none)) 65, ty, pos, after, none⟩ = (do let r ← (do eqGuard .eql 65 (.tmp i) (.const (.pointer none)) (.pointer none) (.pointer none); binOp .eql 65 (.pointer none) (.pointer none)); pure (.value r)) := by
      simp only [execOp, h1, h2]
    rw [he]
    exact run_rne
  simp only [stepPure, hall, cond_true, hr]
  rfl
theorem eqS_rne {s : St} {d : Option (AV × List Nat)} : eqS TE s .eql 65 (.raw (.pointer none)) (.raw (.pointer none)) d = d := by kernel_rfl
def insL {α : Type} (i : Nat) (x : α) (l : List α) : List α := l.take i ++ x :: l.drop i
theorem insL_len {α : Type} {i : Nat} {x : α} {l : List α} (h : i ≤ l.length) : (insL i x l).length = l.length + 1 := by unfold insL; simp; omega
def putM (R : RM) (u : Nat) (ud : RN) (nm : List Nat) (j : Nat) (jd : RN) : RM := { R with nodes := (R.nodes.set j { jd with up := some u }).set u { ud with names := insL (posR nm ud.names) nm ud.names, kids := insL (posR nm ud.names) j ud.kids } }
theorem put_c {s : St} (H : Ok TE Tryz.prog pr3) {x : Nat} {R : RM} {ι : Nat → Nat} {ν κ : Nat → AV} {φ : AV} (Rp : RepR s x R ι ν κ φ) (hB : Below0 s) {u j : Nat} {ud jd : RN} (hu : R.nodes[u]? = some ud) (hj : R.nodes[j]? = some jd) (hju : j ≠ u) {nm : List Nat} (hnew : kidR ud nm = none)
    (hroom : ud.names.length < 900) {kr kp : AV → St → Bool} (hk : ∀ s' ν' κ', RepR s' x (putM R u ud nm j jd) ι ν' κ' φ → Below0 s' → Nxt s s' (OwnR x R ι ν κ φ) (OwnR x (putM R u ud nm j jd) ι ν' κ' φ) → kr (.tuple []) s' = true) :
    (sem Tryz.prog).call 29 [.ptr (ι u) 0, .str nm, .ptr (ι j) 0] s kr kp = true := by
  refine w_call H 68 fn_29 rfl rfl ?_
  obtain ⟨u1, u2, u3⟩ := Rp.nd u ud hu
  obtain ⟨j1, j2, j3⟩ := Rp.nd j jd hj
  have hul := (List.getElem?_eq_some_iff.mp hu).1
  have hjl := (List.getElem?_eq_some_iff.mp hj).1
  obtain ⟨n1, n2⟩ := Rp.nn u ud hu
  repeat (first | with_reducible (refine w_one H ?_; constructor) | simp only [rB, rP, rQ, boolA, intA, resultA, resA, reduceIte, reduceCtorEq, Nat.reduceAdd, Nat.reduceLT, Nat.reduceEqDiff, UInt8.reduceToNat, pe3, pf3])
  refine kid_c H u1 u2 u3 n1 (by omega) ?_
  rw [hnew]
  repeat (first | with_reducible (refine w_one H ?_; constructor) | simp only [rB, rP, rQ, boolA, intA, resultA, resA, reduceIte, reduceCtorEq, Nat.reduceAdd, Nat.reduceLT, Nat.reduceEqDiff, UInt8.reduceToNat, pe3, pf3, nilA_ptr, fr5_6, st_rn, j1, sr_6p, upA_none, Option.map_none, upA_cells, b_npn, eqS_rnn, pu_rnn, nil_nil])
  generalize hs1 : ({ h := s.h.set (ι j) (rnA ι { jd with up := some u } (ν j) (κ j)), nx := s.nx } : St) = s1
  have B1 : Below0 s1 := by rw [← hs1]; exact below_set hB (Rp.li hB hjl) _
  have x1 : s1.nx = s.nx := by rw [← hs1]
  have g1 : s1.h.get (ι u) = some (rnA ι ud (ν u) (κ u)) := by rw [← hs1]; exact (hs_ne (fun e => hju (Rp.ij _ _ hjl hul e.symm))).trans u1
  have v1 : RowV 9 s1 (ν u) (ud.names.map .str) := u2.keep (fun b hb => by rw [← hs1]; exact hs_ne (Rp.vi hul hjl hb))
  have k1 : RowV 65 s1 (κ u) (ptrsA ι ud.kids) := u3.keep (fun b hb => by rw [← hs1]; exact hs_ne (Rp.ki hul hjl hb))
  have pl := posR_le (nm := nm) (l := ud.names)
  have v1a : RowV 9 (s1.alloc (.cells [.str nm] 9 0)) (ν u) (ud.names.map .str) := v1.keep (fun b hb => al_ne (by have := v1.lt B1 hb; omega))
  obtain ⟨Va, Vb, W, V', s2, s3, c1, c2, c3, c4, r1, r2, r3, r4, r5, r6⟩ := row_ins rowS (below_al B1 _) v1a (fun v hv => by obtain ⟨p, _, rfl⟩ := List.mem_map.mp hv; rfl) (i := posR nm ud.names) (by rw [List.length_map]; exact pl) (by rw [List.length_map]; omega) (x := .str nm) rfl (q := s1.nx) al_same (fun e => by have := v1.lt B1 e; omega)
  have bV := v1.beq
  have bK := k1.beq
  have lu : ι u < s1.nx := by rw [x1]; exact Rp.li hB hul
  have m1 : (ι u = s1.nx) = False := by simp; omega
  have g2 : s2.h.get (ι u) = some (rnA ι ud (ν u) (κ u)) := (r6 _ (by show ι u < s1.nx + 1; omega)).trans ((al_ne (by omega)).trans g1)
  have r4' : ∀ i, i < s1.nx → blk (ν u) ≠ some i → s3.h.get i = s1.h.get i := fun i hi hne => (r4 i (by show i < s1.nx + 1; omega) hne).trans (al_ne (by omega))
  have g3 : s3.h.get (ι u) = some (rnA ι ud (ν u) (κ u)) := (r4' _ lu (fun e => Rp.vi hul hul e rfl)).trans g1
  obtain ⟨cV1, cV2⟩ := r1.cells1
  repeat (first | with_reducible (refine w_one H ?_; constructor) | simp only [rB, rP, rQ, boolA, intA, resultA, resA, reduceIte, reduceCtorEq, Nat.reduceAdd, Nat.reduceLT, Nat.reduceEqDiff, UInt8.reduceToNat, pe3, pf3, nilA_ptr, fr5_4, ld_41, st_41 _ _ _ _ cV1 cV2, g1, g2, g3, m1, lr_4, ir_n, c1, c2, c3, c4, bs_one, bV, bK, bo_rn, sr_4] | (with_reducible refine w_plan H (i := 5) (.take 0 (.take 1 (.take 2 (.take 3 (.take 4 (.take 5 (.take 6 (.take 7 (.take 9 (.take 10 (.take 11 (.take 12 (.take 13 (.take 14 (.alt 8 [7] (.alt 15 [7, 8, 9, 10, 11, 12, 13, 14] (.alt 16 [1, 2, 3, 4, 5, 6, 7, 8, 9, 10, 11, 12, 13, 14, 15] (.take 17 (.take 18 (.alt 19 [0, 1, 2, 3, 4, 5, 6, 7, 8, 9, 10, 11, 12, 13, 14, 15, 16, 17, 18] (.done) (.yes)))) (.yes)) (.yes)) (.yes)))))))))))))))) rfl (by kernel_rfl) ?_))
  generalize hs4 : ({ h := s3.h.set (ι u) (rnA ι ud V' (κ u)), nx := s3.nx } : St) = s4
  have lu3 : ι u < s3.nx := by have := r3; have : s1.nx + 1 ≤ s3.nx := this; omega
  have B4 : Below0 s4 := by rw [← hs4]; exact below_set r2 lu3 _
  have x4 : s4.nx = s3.nx := by rw [← hs4]
  have n3 : s1.nx < s3.nx := by have : s1.nx + 1 ≤ s3.nx := r3; omega
  have g4 : s4.h.get (ι u) = some (rnA ι ud V' (κ u)) := by rw [← hs4]; exact hs_same
  have f4 : ∀ i, i ≠ ι u → s4.h.get i = s3.h.get i := fun i hi => by rw [← hs4]; exact hs_ne hi
  have k4 : RowV 65 s4 (κ u) (ptrsA ι ud.kids) := k1.keep (fun b hb => (f4 b (Rp.ki hul hul hb)).trans (r4' b (k1.lt B1 hb) (fun e => Rp.vk hul hul e hb)))
  have k4a : RowV 65 (s4.alloc (.cells [.ptr (ι j) 0] 65 0)) (κ u) (ptrsA ι ud.kids) := k4.keep (fun b hb => al_ne (by have := k4.lt B4 hb; omega))
  have lk : (ptrsA ι ud.kids).length = ud.names.length := by unfold ptrsA; rw [List.length_map, n1]
  obtain ⟨Ka, Kb, KW, K', s5, s6, d1, d2, d3, d4, q1, q2, q3, q4, q5, q6⟩ := row_ins rowN (below_al B4 _) k4a (fun v hv => by obtain ⟨p, _, rfl⟩ := List.mem_map.mp hv; rfl) (i := posR nm ud.names) (by rw [lk]; exact pl) (by rw [lk]; omega) (x := .ptr (ι j) 0) rfl (q := s4.nx) al_same (fun e => by have := k4.lt B4 e; omega)
  have bV' := r1.beq
  have lu4 : ι u < s4.nx := by omega
  have m2 : (ι u = s4.nx) = False := by simp; omega
  have g5 : s5.h.get (ι u) = some (rnA ι ud V' (κ u)) := (q6 _ (by show ι u < s4.nx + 1; omega)).trans ((al_ne (by omega)).trans g4)
  have q4' : ∀ i, i < s4.nx → blk (κ u) ≠ some i → s6.h.get i = s4.h.get i := fun i hi hne => (q4 i (by show i < s4.nx + 1; omega) hne).trans (al_ne (by omega))
  have g6 : s6.h.get (ι u) = some (rnA ι ud V' (κ u)) := (q4' _ lu4 (fun e => Rp.ki hul hul e rfl)).trans g4
  obtain ⟨cK1, cK2⟩ := q1.cells1
  repeat (first | with_reducible (refine w_one H ?_; constructor) | simp only [rB, rP, rQ, boolA, intA, resultA, resA, reduceIte, reduceCtorEq, Nat.reduceAdd, Nat.reduceLT, Nat.reduceEqDiff, UInt8.reduceToNat, pe3, pf3, nilA_ptr, fr5_5, ld_rs, st_rs _ _ _ _ cK1 cK2, g4, g5, g6, m2, lr_5, ir_n, d1, d2, d3, d4, bs_n, bV', bK, bo_rn, sr_5, Tryz.results29] | (with_reducible refine w_plan H (i := 6) (.take 0 (.take 1 (.take 2 (.take 3 (.take 4 (.take 5 (.take 6 (.take 7 (.take 9 (.take 10 (.take 11 (.take 12 (.take 13 (.take 14 (.alt 8 [7] (.alt 15 [7, 8, 9, 10, 11, 12, 13, 14] (.alt 16 [1, 2, 3, 4, 5, 6, 7, 8, 9, 10, 11, 12, 13, 14, 15] (.take 17 (.take 18 (.alt 19 [0, 1, 2, 3, 4, 5, 6, 7, 8, 9, 10, 11, 12, 13, 14, 15, 16, 17, 18] (.done) (.yes)))) (.yes)) (.yes)) (.yes)))))))))))))))) rfl (by kernel_rfl) ?_))
  obtain ⟨Rp1, N1⟩ := Rp.node hB hj (nd' := { jd with up := some u }) (V' := ν j) (K' := κ j) (s' := s1) (by rw [← hs1]; exact hs_same)
    (j2.keep (fun b hb => by rw [← hs1]; exact hs_ne (Rp.vi hjl hjl hb))) (j3.keep (fun b hb => by rw [← hs1]; exact hs_ne (Rp.ki hjl hjl hb))) (fun b hb => Or.inl hb) (fun b hb => Or.inl hb) (by omega)
    (fun i hi h1 _ _ => by rw [← hs1]; exact hs_ne h1) (Rp.kd j jd hj) (fun w hw => by cases hw; exact hul) (Rp.nn j jd hj)
  rw [updV_self, updV_self] at Rp1 N1
  have hu1 : (R.nodes.set j { jd with up := some u })[u]? = some ud := by rw [List.getElem?_set_ne hju]; exact hu
  have ln1 : (R.nodes.set j { jd with up := some u }).length = R.nodes.length := List.length_set
  have x6 : s4.nx < s6.nx := by have : s4.nx + 1 ≤ s6.nx := q3; omega
  have lv : ∀ b, blk V' = some b → s1.nx < b ∧ b < s4.nx := fun b hb => ⟨by have : s1.nx + 1 ≤ b := r5 b hb; omega, by have := r1.lt r2 hb; omega⟩
  obtain ⟨Rp2, N2⟩ := Rp1.node B1 hu1 (nd' := { ud with names := insL (posR nm ud.names) nm ud.names, kids := insL (posR nm ud.names) j ud.kids }) (V' := V') (K' := K') (s' := { h := s6.h.set (ι u) (rnA ι ud V' K'), nx := s6.nx }) hs_same
    (by
      have := r1.keep (s' := { h := s6.h.set (ι u) (rnA ι ud V' K'), nx := s6.nx }) (fun b hb => by
        obtain ⟨l1, l2⟩ := lv b hb
        have e1 : (s6.h.set (ι u) (rnA ι ud V' K')).get b = s6.h.get b := hs_ne (by omega)
        exact e1.trans ((q4' b l2 (fun e => by have := k1.lt B1 e; omega)).trans (f4 b (by omega))))
      simpa [insL] using this)
    (by
      have := q1.keep (s' := { h := s6.h.set (ι u) (rnA ι ud V' K'), nx := s6.nx }) (fun b hb => hs_ne (by have : s4.nx + 1 ≤ b := q5 b hb; omega))
      simpa [insL, ptrsA] using this)
    (fun b hb => Or.inr (by have := (lv b hb).1; omega)) (fun b hb => Or.inr (by have : s4.nx + 1 ≤ b := q5 b hb; omega)) (by show s1.nx ≤ s6.nx; omega)
    (fun i hi h1 h2 h3 => by
      have e1 : (s6.h.set (ι u) (rnA ι ud V' K')).get i = s6.h.get i := hs_ne h1
      exact e1.trans ((q4' i (by omega) h3).trans ((f4 i h1).trans (r4' i hi h2))))
    (fun q hq => by
      rw [ln1]
      unfold insL at hq
      rcases List.mem_append.mp hq with h | h
      · exact Rp.kd u ud hu q (List.mem_of_mem_take h)
      · rcases List.mem_cons.mp h with rfl | h
        · exact hjl
        · exact Rp.kd u ud hu q (List.mem_of_mem_drop h))
    (fun w hw => by rw [ln1]; exact Rp.up u ud w hu hw) (by
      have l1 : (insL (posR nm ud.names) nm ud.names).length = ud.names.length + 1 := insL_len pl
      have l2 : (insL (posR nm ud.names) j ud.kids).length = ud.kids.length + 1 := insL_len (by omega)
      exact ⟨by show (insL _ _ _).length = (insL _ _ _).length; omega, by show (insL _ _ _).length ≤ 900; omega⟩)
  exact hk _ _ _ Rp2 (below_set q2 (by show ι u < s6.nx; omega) _) (N1.trans N2)
end Go.AX
namespace Go.AX
open Go.Proofs Go.RowKit
set_option maxRecDepth 1000000
set_option maxHeartbeats 40000000
set_option linter.unusedSimpArgs false
set_option linter.unusedVariables false
def newR (kind mode : Int) (data : List Nat) : RN := ⟨0, kind, mode, data, [], [], none⟩
def addM (R : RM) (nd : RN) : RM := { R with nodes := R.nodes ++ [{ nd with id := R.next + 1 }], next := R.next + 1 }
theorem lt_6 {r c : Nat} {F : AV} {z : Int} : ldO (some (rtA r c F z)) 6 = some (.raw (.int .i64 z)) := (rfl)
theorem lt_0 {r c : Nat} {F : AV} {z : Int} : ldO (some (rtA r c F z)) 0 = some (.ptr r 0) := (rfl)
theorem it_n {r c : Nat} {F : AV} {z : Int} {b : Bool} : inO (some (rtA r c F z)) b = b := (rfl)
theorem st5_6 {s : St} {x r c : Nat} {F : AV} {z z' : Int} : stO s x (some (rtA r c F z)) 6 (.raw (.int .i64 z')) = some { s with h := s.h.set x (rtA r c F z') } := (rfl)
theorem num5_c {s : St} (H : Ok TE Tryz.prog pr3) {x y r c : Nat} {F V K : AV} {z : Int} {ι : Nat → Nat} {nd : RN} (hx : s.h.get x = some (rtA r c F z)) (hy : s.h.get y = some (rnA ι nd V K)) (hxy : x ≠ y) (hz : 0 ≤ z ∧ z ≤ 1000000000)
    {kr kp : AV → St → Bool} (hk : kr (.ptr y 0) { s with h := (s.h.set x (rtA r c F (z + 1))).set y (rnA ι { nd with id := z + 1 } V K) } = true) :
    (sem Tryz.prog).call 30 [.ptr x 0, .ptr y 0] s kr kp = true := by
  refine w_call H 20 fn_30 rfl rfl ?_
  have ew : IntKind.i64.wrap (z + 1) = z + 1 := Go.IntWalk.i64_in _ (by omega)
  have m1 : (y = x) = False := by simp; omega
  repeat (first | with_reducible (refine w_one H ?_; constructor) | simp only [rB, rP, rQ, boolA, intA, resultA, resA, reduceIte, reduceCtorEq, Nat.reduceAdd, Nat.reduceLT, Nat.reduceEqDiff, UInt8.reduceToNat, pe3, pf3, nilA_ptr, ft5_6, fr5_0, ld_3, st_3, hx, hy, lt_6, it_n, st5_6, sr_0, b_plus, ew, m1, Tryz.results30])
  exact hk
theorem RepR.add {s s' : St} {x : Nat} {R : RM} {ι : Nat → Nat} {ν κ : Nat → AV} {φ : AV} (Rp : RepR s x R ι ν κ φ) (hB : Below0 s) {y : Nat} {nd : RN} (h0 : nd.names = [] ∧ nd.kids = [] ∧ nd.up = none) (hy : s.nx ≤ y) (hR : R.next ≤ 999999999)
    (g1 : s'.h.get x = some (rtA (ι 0) (ι R.cwd) φ (R.next + 1))) (g2 : s'.h.get y = some (rnA ι { nd with id := R.next + 1 } nilS nilS)) (fr : ∀ i, i < s.nx → i ≠ x → s'.h.get i = s.h.get i) (hnx : s.nx ≤ s'.nx) :
    RepR s' x (addM R nd) (updN ι R.nodes.length y) (updV ν R.nodes.length nilS) (updV κ R.nodes.length nilS) φ ∧ Nxt s s' (OwnR x R ι ν κ φ) (OwnR x (addM R nd) (updN ι R.nodes.length y) (updV ν R.nodes.length nilS) (updV κ R.nodes.length nilS) φ) := by
  obtain ⟨h1, h2, h3⟩ := h0
  have hlen : (addM R nd).nodes.length = R.nodes.length + 1 := by simp [addM]
  have i1 : updN ι R.nodes.length y R.nodes.length = y := if_pos rfl
  have i2 : ∀ {j}, j < R.nodes.length → updN ι R.nodes.length y j = ι j := fun hj => if_neg (by omega)
  have v2 : ∀ {ν : Nat → AV} {j}, j < R.nodes.length → updV ν R.nodes.length nilS j = ν j := fun hj => updV_ne (by omega)
  have hT : ∀ j jd, (addM R nd).nodes[j]? = some jd → (j = R.nodes.length ∧ jd = { nd with id := R.next + 1 }) ∨ (j < R.nodes.length ∧ R.nodes[j]? = some jd) := by
    intro j jd h
    unfold addM at h
    simp only at h
    by_cases hj : j < R.nodes.length
    · rw [List.getElem?_append_left hj] at h
      exact Or.inr ⟨hj, h⟩
    · have hj2 := (List.getElem?_eq_some_iff.mp h).1
      have hj3 : j = R.nodes.length := by simp at hj2; omega
      subst hj3
      rw [List.getElem?_append_right (Nat.le_refl _)] at h
      simp at h
      exact Or.inl ⟨rfl, h.symm⟩
  have cg : ∀ {l : List Nat}, (∀ j ∈ l, j < R.nodes.length) → ptrsA (updN ι R.nodes.length y) l = ptrsA ι l := fun h => List.map_congr_left (fun j hj => by rw [i2 (h j hj)])
  have nb : ∀ {b}, blk nilS = some b → False := fun h => by cases h
  have ltV : ∀ {j b}, j < R.nodes.length → blk (ν j) = some b → b < s.nx := fun {j b} hj hb => by
    obtain ⟨jd, hjd⟩ := Rp.node_of hj
    exact (Rp.nd j jd hjd).2.1.lt hB hb
  have ltK : ∀ {j b}, j < R.nodes.length → blk (κ j) = some b → b < s.nx := fun {j b} hj hb => by
    obtain ⟨jd, hjd⟩ := Rp.node_of hj
    exact (Rp.nd j jd hjd).2.2.lt hB hb
  refine ⟨⟨?_, ?_, ?_, ?_, ?_, ?_, ?_, ?_, ?_, ?_, ?_, ?_, ?_, ?_⟩, hnx, ?_, ?_⟩
  · intro j jd h
    rcases hT j jd h with ⟨rfl, rfl⟩ | ⟨hj, hjd⟩
    · rw [i1, updV_at, updV_at]
      refine ⟨?_, Or.inl ⟨rfl, by simp [h1]⟩, Or.inl ⟨rfl, by simp [h2, ptrsA]⟩⟩
      rw [g2]
      simp [rnA, h3]
    · obtain ⟨o1, o2, o3⟩ := Rp.nd j jd hjd
      rw [i2 hj, v2 hj, v2 hj, cg (Rp.kd j jd hjd)]
      have e : jd.up.map (updN ι R.nodes.length y) = jd.up.map ι := by
        cases hu : jd.up with
        | none => rfl
        | some w => simp only [Option.map_some, i2 (Rp.up j jd w hjd hu)]
      refine ⟨?_, o2.keep (fun b hb => fr b (ltV hj hb) (Rp.rx o2 hb (by decide))), o3.keep (fun b hb => fr b (ltK hj hb) (Rp.rx o3 hb (by decide)))⟩
      have := (fr (ι j) (Rp.li hB hj) (Rp.ix hj)).trans o1
      rw [this]
      simp only [rnA, e]
  · rw [g1]
    show _ = some (rtA (updN ι _ y 0) (updN ι _ y R.cwd) φ (R.next + 1))
    rw [i2 Rp.rt, i2 Rp.cw]
  · have e : (R.fds.map fun o => upA (o.map (updN ι R.nodes.length y))) = R.fds.map fun o => upA (o.map ι) := by
      refine List.map_congr_left fun o ho => ?_
      cases o with
      | none => rfl
      | some w => simp only [Option.map_some, i2 (Rp.fo _ ho w rfl)]
    show RowV _ s' φ (R.fds.map fun o => upA (o.map (updN ι R.nodes.length y)))
    rw [e]
    exact Rp.fd.keep (fun b hb => fr b (Rp.fd.lt hB hb) (Rp.rx Rp.fd hb (by decide)))
  · intro a b ha hb e
    rw [hlen] at ha hb
    by_cases q1 : a = R.nodes.length
    · by_cases q2 : b = R.nodes.length
      · rw [q1, q2]
      · rw [q1, i1, i2 (by omega)] at e
        have := Rp.li hB (k := b) (by omega)
        omega
    · by_cases q2 : b = R.nodes.length
      · rw [q2, i1, i2 (by omega)] at e
        have := Rp.li hB (k := a) (by omega)
        omega
      · rw [i2 (by omega), i2 (by omega)] at e
        exact Rp.ij _ _ (by omega) (by omega) e
  · intro a b c ha hb ea eb
    rw [hlen] at ha hb
    by_cases q1 : a = R.nodes.length
    · rw [q1, updV_at] at ea; cases ea
    · by_cases q2 : b = R.nodes.length
      · rw [q2, updV_at] at eb; cases eb
      · rw [updV_ne q1] at ea
        rw [updV_ne q2] at eb
        exact Rp.nj _ _ _ (by omega) (by omega) ea eb
  · intro a b c ha hb ea eb
    rw [hlen] at ha hb
    by_cases q1 : a = R.nodes.length
    · rw [q1, updV_at] at ea; cases ea
    · by_cases q2 : b = R.nodes.length
      · rw [q2, updV_at] at eb; cases eb
      · rw [updV_ne q1] at ea
        rw [updV_ne q2] at eb
        exact Rp.kj _ _ _ (by omega) (by omega) ea eb
  · intro a c ha ea
    rw [hlen] at ha
    by_cases q1 : a = R.nodes.length
    · rw [q1, updV_at] at ea; cases ea
    · rw [updV_ne q1] at ea
      exact Rp.fj _ _ (by omega) ea
  · intro j jd h q hq
    rw [hlen]
    rcases hT j jd h with ⟨rfl, rfl⟩ | ⟨hj, hjd⟩
    · have hq : q ∈ nd.kids := hq
      rw [h2] at hq
      cases hq
    · have := Rp.kd j jd hjd q hq; omega
  · intro j jd w h hw
    rw [hlen]
    rcases hT j jd h with ⟨rfl, rfl⟩ | ⟨hj, hjd⟩
    · have hw : nd.up = some w := hw
      rw [h3] at hw
      cases hw
    · have := Rp.up j jd w hjd hw; omega
  · rw [hlen]; omega
  · rw [hlen]; have := Rp.cw; show R.cwd < _; omega
  · intro o ho w hw
    rw [hlen]
    have := Rp.fo o ho w hw
    omega
  · intro j jd h
    rcases hT j jd h with ⟨rfl, rfl⟩ | ⟨hj, hjd⟩
    · show nd.kids.length = nd.names.length ∧ nd.names.length ≤ 900
      rw [h1, h2]
      simp
    · exact Rp.nn j jd hjd
  · have := Rp.nx
    exact ⟨by show 0 ≤ R.next + 1; omega, by show R.next + 1 ≤ 1000000000; omega⟩
  · intro i hi hno
    exact fr i hi (fun e => hno (Or.inl e))
  · intro i hi
    rcases hi with rfl | ⟨j, hj, hj'⟩ | hi
    · exact Or.inl (Or.inl rfl)
    · rw [hlen] at hj
      by_cases q1 : j = R.nodes.length
      · rw [q1, i1, updV_at, updV_at] at hj'
        rcases hj' with rfl | h | h
        · exact Or.inr hy
        · cases h
        · cases h
      · rw [i2 (by omega), updV_ne q1, updV_ne q1] at hj'
        exact Or.inl (Or.inr (Or.inl ⟨j, by omega, hj'⟩))
    · exact Or.inl (Or.inr (Or.inr hi))
def kidS (R : RM) : Stp := fun i nm => match R.nodes[i]? with
  | some nd => kidR nd nm
  | none => none
theorem kidR_mem {nd : RN} {nm : List Nat} {j : Nat} (h : kidR nd nm = some j) : j ∈ nd.kids := by
  unfold kidR at h
  cases hh : hasR nm nd.names with
  | false => rw [hh] at h; cases h
  | true => rw [hh] at h; exact List.mem_of_getElem? h
theorem find5_c {s : St} (H : Ok TE Tryz.prog pr3) {x : Nat} {R : RM} {ι : Nat → Nat} {ν κ : Nat → AV} {φ : AV} (Rp : RepR s x R ι ν κ φ) (hB : Below0 s) {b : List Nat} (hb : b.length ≤ 1048575)
    {kr kp : AV → St → Bool} (hk : ∀ s', Ext s s' → Below0 s' → kr (upA ((lookP (kidS R) 0 (partsL b)).map ι)) s' = true) :
    (sem Tryz.prog).call 28 [.ptr x 0, .str b] s kr kp = true := by
  refine w_call H 34 fn_28 rfl rfl ?_
  have hx := Rp.tr
  repeat (first | with_reducible (refine w_one H ?_; constructor) | simp only [rB, rP, rQ, boolA, intA, resultA, resA, reduceIte, reduceCtorEq, Nat.reduceAdd, Nat.reduceLT, Nat.reduceEqDiff, UInt8.reduceToNat, pe3, pf3, nilA_ptr, ft5_0, ld_rn, hx, lt_0, it_n])
  refine parts4_c H hb ?_
  have hV := SlV.mk (s := s) (names := partsL b)
  have hE := mkSl_ext (s := s) (names := partsL b)
  have hB1 := mkSl_below (names := partsL b) hB
  have hpl := parts_le (b := b)
  generalize (mkSl 9 (partsL b) s).1 = V at hV ⊢
  generalize (mkSl 9 (partsL b) s).2 = s1 at hV hE hB1 ⊢
  generalize partsL b = ps at hV hk hpl
  have R1 := Rp.ext hB hE
  have vl := hV.len
  have vi := hV.ids
  repeat (first | with_reducible (refine w_one H ?_; constructor) | simp only [rB, rP, rQ, boolA, intA, resultA, resA, reduceIte, reduceCtorEq, Nat.reduceAdd, Nat.reduceLT, Nat.reduceEqDiff, UInt8.reduceToNat])
  refine w_loop_ind H (fun n t s' => ∃ (k : Nat) (cur : Option Nat), n + k = ps.length ∧ s' = s1 ∧ tg t 5 = upA (cur.map ι) ∧ tg t 6 = V ∧ tg t 7 = .raw (.int .i64 (k : Int)) ∧ (∀ c, cur = some c → c < R.nodes.length) ∧
      lookP (kidS R) 0 ps = (match cur with | none => none | some c => lookP (kidS R) c (ps.drop k))) (n := ps.length)
    ⟨0, some 0, rfl, rfl, by simp only [rB, rP, rQ, boolA, intA, resultA, resA, reduceIte, reduceCtorEq, Nat.reduceAdd, Nat.reduceLT, Nat.reduceEqDiff, UInt8.reduceToNat]; rfl, by simp only [rB, rP, rQ, boolA, intA, resultA, resA, reduceIte, reduceCtorEq, Nat.reduceAdd, Nat.reduceLT, Nat.reduceEqDiff, UInt8.reduceToNat], by simp only [rB, rP, rQ, boolA, intA, resultA, resA, reduceIte, reduceCtorEq, Nat.reduceAdd, Nat.reduceLT, Nat.reduceEqDiff, UInt8.reduceToNat]; rfl, fun c hc => by cases hc; exact Rp.rt, rfl⟩ ?_
  rintro n t s' ih ⟨k, cur, hn, rfl, t5, t6, t7, hcl, hrun⟩
  cases n with
  | zero =>
    have g0 := dec_nlt (a := k) (b := ps.length) (by omega)
    have e : lookP (kidS R) 0 ps = cur := by
      rw [hrun]
      cases cur with
      | none => rfl
      | some c => rw [List.drop_eq_nil_of_le (by omega)]; rfl
    have hk := hk s' hE hB1
    rw [e] at hk
    repeat (first | with_reducible (refine w_one H ?_; constructor) | simp only [rB, rP, rQ, boolA, intA, resultA, resA, reduceIte, reduceCtorEq, Nat.reduceAdd, Nat.reduceLT, Nat.reduceEqDiff, UInt8.reduceToNat, pe3, pf3, t5, t6, t7, vl, vi, b_lt, g0, Tryz.results28])
    exact hk
  | succ n =>
    have hlt : k < ps.length := by omega
    have g0 := dec_lt hlt
    have ew := nat_plus (k := k) (by omega)
    cases cur with
    | none =>
      have hk := hk s' hE hB1
      rw [hrun] at hk
      have t5 : tg t 5 = .raw (.pointer none) := t5
      repeat (first | with_reducible (refine w_one H ?_; constructor) | simp only [rB, rP, rQ, boolA, intA, resultA, resA, reduceIte, reduceCtorEq, Nat.reduceAdd, Nat.reduceLT, Nat.reduceEqDiff, UInt8.reduceToNat, pe3, pf3, t5, t6, t7, vl, vi, b_lt, g0, b_npn, eqS_rnn, pu_rnn, nil_nil, Tryz.results28])
      exact hk
    | some c =>
      have t5 : tg t 5 = .ptr (ι c) 0 := t5
      have hcn := hcl c rfl
      obtain ⟨cd, hcd⟩ := R1.node_of hcn
      obtain ⟨c1, c2, c3⟩ := R1.nd c cd hcd
      obtain ⟨n1, n2⟩ := R1.nn c cd hcd
      have hx : ps[k]? = some ps[k] := List.getElem?_eq_getElem hlt
      simp only at hrun
      rw [List.drop_eq_getElem_cons hlt] at hrun
      generalize ps[k] = p at hx hrun
      obtain ⟨id, o, i1, i2, i3⟩ := hV.at hx
      repeat (first | with_reducible (refine w_one H ?_; constructor) | simp only [rB, rP, rQ, boolA, intA, resultA, resA, reduceIte, reduceCtorEq, Nat.reduceAdd, Nat.reduceLT, Nat.reduceEqDiff, UInt8.reduceToNat, pe3, pf3, t5, t6, t7, vl, vi, b_lt, g0, b_ppn, ne_rn, i1, i2, i3, ld_9])
      refine kid_c H c1 c2 c3 n1 (by omega) ?_
      repeat (first | with_reducible (refine w_one H ?_; constructor) | simp only [rB, rP, rQ, boolA, intA, resultA, resA, reduceIte, reduceCtorEq, Nat.reduceAdd, Nat.reduceLT, Nat.reduceEqDiff, UInt8.reduceToNat, t5, t6, t7, b_plus, ew])
      refine ih n _ _ (Nat.lt_succ_self n) ⟨k + 1, kidR cd p, by omega, rfl, by simp only [rB, rP, rQ, boolA, intA, resultA, resA, reduceIte, reduceCtorEq, Nat.reduceAdd, Nat.reduceLT, Nat.reduceEqDiff, UInt8.reduceToNat], by simp only [rB, rP, rQ, boolA, intA, resultA, resA, reduceIte, reduceCtorEq, Nat.reduceAdd, Nat.reduceLT, Nat.reduceEqDiff, UInt8.reduceToNat, t6], by simp only [rB, rP, rQ, boolA, intA, resultA, resA, reduceIte, reduceCtorEq, Nat.reduceAdd, Nat.reduceLT, Nat.reduceEqDiff, UInt8.reduceToNat], fun c' hc' => R1.kd c cd hcd c' (kidR_mem hc'), ?_⟩
      rw [hrun]
      have e : kidS R c p = kidR cd p := by unfold kidS; rw [hcd]
      simp only [lookP, e]
      cases kidR cd p <;> rfl
end Go.AX
