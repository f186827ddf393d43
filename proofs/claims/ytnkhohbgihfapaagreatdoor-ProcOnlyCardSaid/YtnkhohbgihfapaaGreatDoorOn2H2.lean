import Derived.Test.YtnkhohbgihfapaaGreatDoorOn2H1
set_option linter.unusedVariables false
set_option linter.unusedSimpArgs false
set_option linter.defProp false
namespace Go.AX
open Go.Proofs Go.RowKit
set_option maxRecDepth 100000
set_option linter.unusedSimpArgs false
set_option linter.unusedVariables false
def Good (nm : List Nat) : Prop := nm ≠ [] ∧ badB nm = false
theorem eqB_eq {a b : List Nat} : eqB a b = true ↔ a = b := by rw [eqB_dec, decide_eq_true_eq]
theorem eqB_ne {a b : List Nat} : eqB a b = false ↔ a ≠ b := by rw [eqB_dec, decide_eq_false_iff_not]
theorem memB_iff {c : Nat} : ∀ {l : List Nat}, memB c l = true ↔ c ∈ l
  | [] => by simp [memB]
  | x :: l => by
    have ih := memB_iff (c := c) (l := l)
    simp only [memB, List.mem_cons]
    cases h : Nat.beq c x with
    | true => simp [Nat.eq_of_beq_eq_true h]
    | false =>
      have : c ≠ x := fun e => by rw [e, Nat.beq_refl] at h; cases h
      simp [ih, this]
theorem anyB_false {cs : List Nat} : ∀ {l : List Nat}, anyB cs l = false → ∀ c ∈ l, c ∉ cs
  | [], _, c, h => by cases h
  | x :: l, h, c, hc => by
    simp only [anyB] at h
    cases hm : memB x cs with
    | true => rw [hm] at h; cases h
    | false =>
      rw [hm, cond_false] at h
      rcases List.mem_cons.1 hc with rfl | hc
      · intro e
        rw [memB_iff.2 e] at hm
        cases hm
      · exact anyB_false h c hc
theorem Good.ne {nm : List Nat} (h : Good nm) : nm ≠ [] := h.1
theorem bad_parts {nm : List Nat} (h : badB nm = false) : nm.length ≤ 16 ∧ nm ≠ [46] ∧ nm ≠ [46, 46] ∧ ∀ c ∈ nm, c ∉ [47, 0] := by
  unfold badB at h
  simp only [Bool.or_eq_false_iff] at h
  obtain ⟨h1, h2, h3, h4⟩ := h
  refine ⟨?_, eqB_ne.1 h2, eqB_ne.1 h3, anyB_false h4⟩
  rw [← Bool.not_eq_true, Nat.blt_eq] at h1
  omega
theorem Good.len {nm : List Nat} (h : Good nm) : nm.length ≤ 16 := (bad_parts h.2).1
end Go.AX
namespace Go.AX
open Go.Proofs Go.RowKit
set_option maxRecDepth 100000
set_option linter.unusedSimpArgs false
set_option linter.unusedVariables false
theorem ltB_irrefl : ∀ {a : List Nat}, ltB a a = false
  | [] => rfl
  | a :: x => by
    have h : Nat.blt a a = false := by rw [← Bool.not_eq_true, Nat.blt_eq]; omega
    simp only [ltB, h, cond_false, Nat.beq_refl, cond_true]
    exact ltB_irrefl
theorem ltB_cons {a b : Nat} {x y : List Nat} : ltB (a :: x) (b :: y) = true ↔ a < b ∨ (a = b ∧ ltB x y = true) := by
  simp only [ltB]
  by_cases h : a < b
  · rw [Nat.blt_eq.mpr h]; simp [h]
  · have h1 : Nat.blt a b = false := by rw [← Bool.not_eq_true, Nat.blt_eq]; exact h
    rw [h1, cond_false]
    by_cases e : a = b
    · subst e; simp
    · have : Nat.beq a b = false := by rw [beq_dec, decide_eq_false_iff_not]; exact e
      rw [this]; simp [h, e]
theorem ltB_trans : ∀ {a b c : List Nat}, ltB a b = true → ltB b c = true → ltB a c = true
  | _, _, [], _, h => by simp [ltB] at h
  | _, [], _ :: _, h, _ => by simp [ltB] at h
  | [], _ :: _, _ :: _, _, _ => rfl
  | a :: x, b :: y, c :: z, h, h' => by
    rw [ltB_cons] at *
    rcases h with h | ⟨rfl, h⟩ <;> rcases h' with h' | ⟨rfl, h'⟩
    · exact Or.inl (by omega)
    · exact Or.inl h
    · exact Or.inl h'
    · exact Or.inr ⟨rfl, ltB_trans h h'⟩
theorem ltB_total : ∀ {a b : List Nat}, a ≠ b → ltB a b = false → ltB b a = true
  | [], [], h, _ => absurd rfl h
  | [], _ :: _, _, h => by simp [ltB] at h
  | _ :: _, [], _, _ => rfl
  | a :: x, b :: y, h, h' => by
    rw [← Bool.not_eq_true, ltB_cons] at h'
    rw [ltB_cons]
    by_cases e : a = b
    · subst e
      refine Or.inr ⟨rfl, ltB_total (fun e => h (by rw [e])) ?_⟩
      rw [← Bool.not_eq_true]
      exact fun e => h' (Or.inr ⟨rfl, e⟩)
    · refine Or.inl ?_
      have : ¬ a < b := fun e => h' (Or.inl e)
      omega
theorem cmpS_neg {a b : List Nat} : cmpS a b < 0 ↔ ltB a b = true := by
  unfold cmpS
  cases ltB a b with
  | true => simp
  | false => cases eqB a b <;> simp
theorem cmpS_zero {a b : List Nat} : (cmpS a b == 0) = eqB a b := by
  unfold cmpS
  cases h : ltB a b with
  | true =>
    have : eqB a b = false := by
      rw [eqB_ne]
      intro e
      rw [e, ltB_irrefl] at h
      cases h
    rw [this]
    rfl
  | false => cases eqB a b <;> rfl
def LtP (a b : List (List Nat)) : Prop := cmpL a b < 0
theorem ltP_cons {a b : List Nat} {x y : List (List Nat)} : LtP (a :: x) (b :: y) ↔ ltB a b = true ∨ (a = b ∧ LtP x y) := by
  unfold LtP
  simp only [cmpL, cmpS_zero]
  cases h : eqB a b with
  | true =>
    have e := eqB_eq.1 h
    subst e
    simp [ltB_irrefl]
  | false =>
    have := eqB_ne.1 h
    rw [cond_false, cmpS_neg]
    simp [this]
theorem ltP_nil {b : List Nat} {y : List (List Nat)} : LtP [] (b :: y) := by unfold LtP; simp [cmpL]
theorem not_ltP_nil {x : List (List Nat)} : ¬ LtP x [] := by
  unfold LtP
  cases x <;> simp [cmpL]
theorem ltP_irrefl : ∀ {a : List (List Nat)}, ¬ LtP a a
  | [] => not_ltP_nil
  | a :: x => by
    rw [ltP_cons]
    rintro (h | ⟨_, h⟩)
    · rw [ltB_irrefl] at h; cases h
    · exact ltP_irrefl h
theorem ltP_trans : ∀ {a b c : List (List Nat)}, LtP a b → LtP b c → LtP a c
  | _, _, [], _, h => absurd h not_ltP_nil
  | _, [], _, h, _ => absurd h not_ltP_nil
  | [], _ :: _, _ :: _, _, _ => ltP_nil
  | a :: x, b :: y, c :: z, h, h' => by
    rw [ltP_cons] at *
    rcases h with h | ⟨rfl, h⟩ <;> rcases h' with h' | ⟨rfl, h'⟩
    · exact Or.inl (ltB_trans h h')
    · exact Or.inl h
    · exact Or.inl h'
    · exact Or.inr ⟨rfl, ltP_trans h h'⟩
theorem ltP_app : ∀ {p x y : List (List Nat)}, LtP (p ++ x) (p ++ y) ↔ LtP x y
  | [], _, _ => Iff.rfl
  | a :: p, x, y => by
    rw [List.cons_append, List.cons_append, ltP_cons, ltP_app]
    simp [ltB_irrefl]
theorem ltP_pre {p : List (List Nat)} {a : List Nat} {x : List (List Nat)} : LtP p (p ++ a :: x) := by
  have := (ltP_app (p := p) (x := []) (y := a :: x)).2 ltP_nil
  rwa [List.append_nil] at this
theorem ltP_total : ∀ {a b : List (List Nat)}, a ≠ b → ¬ LtP a b → LtP b a
  | [], [], h, _ => absurd rfl h
  | [], _ :: _, _, h => absurd ltP_nil h
  | _ :: _, [], _, _ => ltP_nil
  | a :: x, b :: y, h, h' => by
    rw [ltP_cons] at *
    by_cases e : a = b
    · subst e
      exact Or.inr ⟨rfl, ltP_total (fun e => h (by rw [e])) (fun e => h' (Or.inr ⟨rfl, e⟩))⟩
    · refine Or.inl (ltB_total e ?_)
      rw [← Bool.not_eq_true]
      exact fun e => h' (Or.inl e)
theorem rising_unique {α : Type} {r : α → α → Prop} (ir : ∀ a, ¬ r a a) (tr : ∀ a b c, r a b → r b c → r a c) : ∀ {l l' : List α}, l.Pairwise r → l'.Pairwise r → (∀ a, a ∈ l ↔ a ∈ l') → l = l'
  | [], [], _, _, _ => rfl
  | [], b :: _, _, _, h => by have := (h b).2 (by simp); cases this
  | a :: _, [], _, _, h => by have := (h a).1 (by simp); cases this
  | a :: l, b :: l', hl, hl', h => by
    rw [List.pairwise_cons] at hl hl'
    have e : a = b := by
      rcases List.mem_cons.1 ((h a).1 (by simp)) with e | e
      · exact e
      · rcases List.mem_cons.1 ((h b).2 (by simp)) with e2 | e2
        · exact e2.symm
        · exact absurd (tr _ _ _ (hl.1 b e2) (hl'.1 a e)) (ir a)
    subst e
    rw [rising_unique ir tr hl.2 hl'.2 (fun x => ?_)]
    constructor
    · intro hx
      rcases List.mem_cons.1 ((h x).1 (List.mem_cons_of_mem _ hx)) with e | e
      · subst e; exact absurd (hl.1 _ hx) (ir _)
      · exact e
    · intro hx
      rcases List.mem_cons.1 ((h x).2 (List.mem_cons_of_mem _ hx)) with e | e
      · subst e; exact absurd (hl'.1 _ hx) (ir _)
      · exact e
abbrev Kids := List (List Nat × Nat)
def keys (l : Kids) : List (List Nat) := l.map (·.1)
end Go.AX
