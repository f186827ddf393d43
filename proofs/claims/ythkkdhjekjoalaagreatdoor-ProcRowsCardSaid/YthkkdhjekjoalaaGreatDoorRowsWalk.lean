import Derived.Test.YthkkdhjekjoalaaGreatDoorE1
set_option linter.unusedVariables false
set_option linter.unusedSimpArgs false
set_option linter.defProp false
-- handed
namespace Go.AX
open Go.Proofs Go.RowKit
set_option maxRecDepth 1000000
set_option maxHeartbeats 400000000
set_option linter.unusedSimpArgs false
set_option linter.unusedVariables false

/-! ### Rows, plain: a root with files and links alone -/
def nmN (i : Nat) : List Nat := [110, 48 + i]
abbrev zN (i : Nat) : List Nat := 47 :: nmN i
theorem nine {i : Nat} (h : i < 9) : i = 0 ∨ i = 1 ∨ i = 2 ∨ i = 3 ∨ i = 4 ∨ i = 5 ∨ i = 6 ∨ i = 7 ∨ i = 8 := by omega
theorem eqB_nm {i j : Nat} : eqB (nmN i) (nmN j) = Nat.beq i j := by
  rw [eqB_iff]
  by_cases h : i = j
  · subst h
    rw [decide_eq_true rfl, Nat.beq_refl]
  · have : Nat.beq i j = false := by
      cases hb : Nat.beq i j with
      | false => rfl
      | true => exact absurd (Nat.eq_of_beq_eq_true hb) h
    rw [this, decide_eq_false_iff_not]
    intro e
    simp only [nmN, List.cons.injEq] at e
    omega
abbrev Kd := List (Nat × Nat)
def kidN (K : Kd) : List (List Nat × Nat) := K.map fun q => (nmN q.1, q.2)
def lkN (i : Nat) : Kd → Option Nat
  | [] => none
  | q :: l => bif Nat.beq i q.1 then some q.2 else lkN i l
def erN (i : Nat) : Kd → Kd
  | [] => []
  | q :: l => bif Nat.beq i q.1 then l else q :: erN i l
def puN (i j : Nat) : Kd → Kd
  | [] => [(i, j)]
  | q :: l => bif Nat.beq i q.1 then (i, j) :: l else q :: puN i j l
theorem lk_kid' {i : Nat} : ∀ {K : Kd}, lookK (nmN i) (kidN K) = lkN i K
  | [] => rfl
  | q :: l => by
    show (bif eqB (nmN i) (nmN q.1) then some q.2 else lookK (nmN i) (kidN l)) = _
    rw [eqB_nm, lk_kid' (K := l)]
    rfl
theorem er_kid {i : Nat} : ∀ {K : Kd}, eraseK (nmN i) (kidN K) = kidN (erN i K)
  | [] => rfl
  | q :: l => by
    show (bif eqB (nmN i) (nmN q.1) then kidN l else (nmN q.1, q.2) :: eraseK (nmN i) (kidN l)) = kidN (bif Nat.beq i q.1 then l else q :: erN i l)
    rw [eqB_nm, er_kid (K := l)]
    cases Nat.beq i q.1 <;> rfl
theorem pu_kid {i j : Nat} : ∀ {K : Kd}, setK (nmN i) j (kidN K) = kidN (puN i j K)
  | [] => rfl
  | q :: l => by
    show (bif eqB (nmN i) (nmN q.1) then (nmN i, j) :: kidN l else (nmN q.1, q.2) :: setK (nmN i) j (kidN l)) = kidN (bif Nat.beq i q.1 then (i, j) :: l else q :: puN i j l)
    rw [eqB_nm, pu_kid (K := l)]
    cases Nat.beq i q.1 <;> rfl
theorem beqN {i j : Nat} : Nat.beq i j = decide (i = j) := by
  by_cases h : i = j
  · subst h; rw [Nat.beq_refl, decide_eq_true rfl]
  · rw [decide_eq_false h]
    cases hb : Nat.beq i j with
    | false => rfl
    | true => exact absurd (Nat.eq_of_beq_eq_true hb) h
theorem lk_pu {i j a : Nat} : ∀ {K : Kd}, lkN a (puN i j K) = if a = i then some j else lkN a K
  | [] => by
    simp only [puN, lkN, beqN]
    by_cases h : a = i <;> simp [h]
  | q :: l => by
    simp only [puN, beqN]
    by_cases h : i = q.1
    · rw [decide_eq_true h, cond_true]
      simp only [lkN, beqN]
      by_cases h2 : a = i
      · simp [h2]
      · have : ¬ a = q.1 := by omega
        simp [h2, this]
    · rw [decide_eq_false h, cond_false]
      simp only [lkN, beqN]
      by_cases h2 : a = q.1
      · have : ¬ a = i := by omega
        simp [h2]
        omega
      · simp only [h2, decide_false, cond_false]
        exact lk_pu (K := l)
def keysN (K : Kd) : List Nat := K.map (·.1)
theorem lk_none {a : Nat} : ∀ {K : Kd}, lkN a K = none ↔ a ∉ keysN K
  | [] => by simp [lkN, keysN]
  | q :: l => by
    simp only [lkN, beqN, keysN, List.map_cons, List.mem_cons, not_or]
    by_cases h : a = q.1
    · simp [h]
    · simp only [h, decide_false, cond_false, not_false_eq_true, true_and]
      exact lk_none (K := l)
theorem er_sub {i : Nat} : ∀ {K : Kd}, (keysN (erN i K)).Sublist (keysN K)
  | [] => List.Sublist.refl _
  | q :: l => by
    simp only [erN]
    cases Nat.beq i q.1 with
    | true => exact List.sublist_cons_self _ _
    | false => exact (er_sub (K := l)).cons_cons _
theorem lk_er {i a : Nat} : ∀ {K : Kd}, (keysN K).Nodup → lkN a (erN i K) = if a = i then none else lkN a K
  | [], _ => by simp [erN, lkN]
  | q :: l, hn => by
    simp only [keysN, List.map_cons, List.nodup_cons] at hn
    simp only [erN, beqN]
    by_cases h : i = q.1
    · rw [decide_eq_true h, cond_true]
      simp only [lkN, beqN]
      by_cases h2 : a = i
      · rw [if_pos h2]
        exact lk_none.mpr (by rw [h2, h]; exact hn.1)
      · have : ¬ a = q.1 := by omega
        simp [h2, this]
    · rw [decide_eq_false h, cond_false]
      simp only [lkN, beqN]
      by_cases h2 : a = q.1
      · have : ¬ a = i := by omega
        simp [h2]
        omega
      · simp only [h2, decide_false, cond_false]
        exact lk_er (K := l) hn.2
theorem pu_new {i j : Nat} : ∀ {K : Kd}, lkN i K = none → puN i j K = K ++ [(i, j)]
  | [], _ => rfl
  | q :: l, h => by
    simp only [lkN] at h
    simp only [puN]
    cases hb : Nat.beq i q.1 with
    | true => rw [hb] at h; cases h
    | false =>
      rw [hb] at h
      simp only [cond_false, List.cons_append]
      rw [pu_new (K := l) h]
theorem pu_keys {i j : Nat} : ∀ {K : Kd}, lkN i K ≠ none → keysN (puN i j K) = keysN K
  | [], h => absurd rfl h
  | q :: l, h => by
    simp only [lkN] at h
    simp only [puN]
    cases hb : Nat.beq i q.1 with
    | true =>
      have := Nat.eq_of_beq_eq_true hb
      simp [keysN, this]
    | false =>
      rw [hb] at h
      simp only [cond_false, keysN, List.map_cons]
      congr 1
      exact pu_keys (K := l) h
theorem pu_nodup {i j : Nat} {K : Kd} (h : (keysN K).Nodup) : (keysN (puN i j K)).Nodup := by
  by_cases hl : lkN i K = none
  · rw [pu_new hl]
    simp only [keysN, List.map_append, List.map_cons, List.map_nil]
    refine List.nodup_append.mpr ⟨h, by simp, fun a ha b hb => ?_⟩
    simp only [List.mem_singleton] at hb
    subst hb
    intro e
    subst e
    exact lk_none.mp hl ha
  · rw [pu_keys hl]
    exact h
theorem er_len {i : Nat} : ∀ {K : Kd}, lkN i K ≠ none → (erN i K).length + 1 = K.length
  | [], h => absurd rfl h
  | q :: l, h => by
    simp only [lkN] at h
    simp only [erN]
    cases hb : Nat.beq i q.1 with
    | true => simp
    | false =>
      rw [hb] at h
      simp only [cond_false, List.length_cons]
      have := er_len (K := l) h
      omega
theorem pu_len {i j : Nat} {K : Kd} (h : lkN i K ≠ none) : (puN i j K).length = K.length := by
  have := congrArg List.length (pu_keys (j := j) h)
  simpa [keysN] using this

/-! ### The row -/
theorem lt_nm {i j : Nat} : ltB (nmN i) (nmN j) = decide (i < j) := by
  unfold nmN
  simp only [ltB]
  by_cases h : i < j
  · rw [decide_eq_true h, Nat.blt_eq.mpr (by omega : 48 + i < 48 + j)]
    rfl
  · rw [decide_eq_false h]
    have e : Nat.blt (48 + i) (48 + j) = false := by
      cases hb : Nat.blt (48 + i) (48 + j) with
      | false => rfl
      | true => have := Nat.blt_eq.mp hb; omega
    rw [e]
    cases Nat.beq (48 + i) (48 + j) <;> rfl
/-- The names of those i from a on, n of them, that p holds of. -/
def selN (p : Nat → Bool) : Nat → Nat → List (List Nat)
  | _, 0 => []
  | a, n + 1 => bif p a then nmN a :: selN p (a + 1) n else selN p (a + 1) n
theorem sel_ext {p q : Nat → Bool} : ∀ {n a : Nat}, (∀ i, a ≤ i → i < a + n → p i = q i) → selN p a n = selN q a n
  | 0, _, _ => rfl
  | n + 1, a, h => by
    simp only [selN]
    rw [h a (Nat.le_refl _) (by omega), sel_ext (n := n) (a := a + 1) (fun i h1 h2 => h i (by omega) (by omega))]
theorem sel_ins {p : Nat → Bool} {i : Nat} : ∀ {n a : Nat}, a ≤ i → i < a + n → p i = false → insSort (nmN i) (selN p a n) = selN (fun j => decide (j = i) || p j) a n
  | 0, a, h1, h2, _ => by omega
  | n + 1, a, h1, h2, h3 => by
    by_cases e : i = a
    · subst e
      simp only [selN, h3, cond_false, decide_true, Bool.true_or, cond_true]
      have hx : selN (fun j => decide (j = i) || p j) (i + 1) n = selN p (i + 1) n := sel_ext (fun j hj _ => by rw [decide_eq_false (by omega), Bool.false_or])
      rw [hx]
      have hh : ∀ {n a : Nat}, i < a → insSort (nmN i) (selN p a n) = nmN i :: selN p a n := by
        intro n
        induction n with
        | zero => intro a _; rfl
        | succ n ih =>
          intro a ha
          simp only [selN]
          cases p a with
          | true =>
            simp only [cond_true, insSort, lt_nm, decide_eq_true ha]
          | false => exact ih (by omega)
      exact hh (by omega)
    · have ih := sel_ins (p := p) (i := i) (n := n) (a := a + 1) (by omega) (by omega) h3
      simp only [selN]
      rw [decide_eq_false (by omega : ¬ a = i), Bool.false_or]
      cases hp : p a with
      | true =>
        simp only [cond_true, insSort, lt_nm, decide_eq_false (by omega : ¬ i < a), cond_false]
        rw [ih]
      | false => exact ih
theorem sort_keys : ∀ {l : List Nat}, l.Nodup → (∀ i ∈ l, i < 9) → sortL (l.map nmN) = selN (fun i => decide (i ∈ l)) 0 9
  | [], _, _ => by
    show [] = _
    rw [sel_ext (q := fun _ => false) (fun i _ _ => by simp)]
    rfl
  | x :: l, hn, hl => by
    simp only [List.nodup_cons] at hn
    show insSort (nmN x) (sortL (l.map nmN)) = _
    rw [sort_keys hn.2 (fun i hi => hl i (List.mem_cons_of_mem _ hi)), sel_ins (Nat.zero_le _) (by have := hl x (List.mem_cons_self ..); omega) (by rw [decide_eq_false hn.1])]
    refine sel_ext fun i _ _ => ?_
    rw [← Bool.decide_or]
    congr 1
    simp
theorem inc_sel {p : Nat → Bool} : ∀ {n a : Nat}, incB (selN p a n) = true ∧ ∀ y l, selN p a n = y :: l → ∃ j, a ≤ j ∧ y = nmN j
  | 0, _ => ⟨rfl, fun _ _ h => by cases h⟩
  | n + 1, a => by
    obtain ⟨h1, h2⟩ := inc_sel (p := p) (n := n) (a := a + 1)
    simp only [selN]
    cases p a with
    | true =>
      refine ⟨?_, fun y l h => ?_⟩
      · simp only [cond_true]
        cases hs : selN p (a + 1) n with
        | nil => rfl
        | cons y l =>
          obtain ⟨j, hj, rfl⟩ := h2 y l hs
          rw [hs] at h1
          simp only [incB, lt_nm, decide_eq_true (by omega : a < j), cond_true]
          exact h1
      · simp only [cond_true, List.cons.injEq] at h
        exact ⟨a, Nat.le_refl _, h.1.symm⟩
    | false => exact ⟨h1, fun y l h => by obtain ⟨j, hj, e⟩ := h2 y l h; exact ⟨j, by omega, e⟩⟩
theorem sel_len {p : Nat → Bool} : ∀ {n a : Nat}, (selN p a n).length ≤ n
  | 0, _ => Nat.le_refl _
  | n + 1, a => by
    have := sel_len (p := p) (n := n) (a := a + 1)
    simp only [selN]
    cases p a with
    | true => simp; omega
    | false => simp; omega
theorem sel_short {p : Nat → Bool} : ∀ {n a : Nat}, shortL (selN p a n) = true
  | 0, _ => rfl
  | n + 1, a => by
    have := sel_short (p := p) (n := n) (a := a + 1)
    simp only [selN]
    cases p a with
    | true => exact this
    | false => exact this
theorem sortK_kid {K : Kd} (hn : (keysN K).Nodup) (hl : ∀ i ∈ keysN K, i < 9) : sortK (kidN K) = some (selN (fun i => decide (i ∈ keysN K)) 0 9) := by
  have e : (kidN K).map (·.1) = (keysN K).map nmN := by simp [kidN, keysN, List.map_map, Function.comp_def]
  unfold sortK
  rw [e, sort_keys hn hl, inc_sel.1, sel_short, Nat.ble_eq.mpr (Nat.le_trans sel_len (by decide))]
  rfl
end Go.AX
-- handed
namespace Go.AX
open Go.Proofs Go.RowKit
set_option maxRecDepth 1000000
set_option maxHeartbeats 400000000
set_option linter.unusedSimpArgs false
set_option linter.unusedVariables false

/-! ### A root with leaves alone, and what calls do in it -/
structure Flat (M : Md) (K : Kd) : Prop where
  rt : M.T 0 = some ⟨1, 493, [], kidN K, none, [], 0⟩
  r0 : M.root = 0
  c0 : M.cwd = 0
  mn : M.many = (K.length : Int)
  kid : ∀ i j, lkN i K = some j → 0 < j ∧ ∃ nd, M.T j = some nd ∧ nd.kind ≠ 1 ∧ nd.kids = [] ∧ nd.up = some 0 ∧ nd.name = nmN i
  leaf : ∀ j nd, 0 < j → M.T j = some nd → nd.kids = []
  nod : (keysN K).Nodup
  lt : ∀ i ∈ keysN K, i < 9
theorem nodup9 {l : List Nat} (hn : l.Nodup) (hl : ∀ i ∈ l, i < 9) : l.length ≤ 9 := by
  have key : ∀ (n : Nat) (l : List Nat), l.Nodup → (∀ i ∈ l, i < n) → l.length ≤ n := by
    intro n
    induction n with
    | zero =>
      intro l _ h
      cases l with
      | nil => exact Nat.le_refl _
      | cons a l => have := h a (List.mem_cons_self ..); omega
    | succ n ih =>
      intro l hn h
      have h1 := ih (l.erase n) (hn.erase n) (fun i hi => by
        have := hn.mem_erase_iff.mp hi
        have := h i this.2
        omega)
      by_cases hm : n ∈ l
      · rw [List.length_erase_of_mem hm] at h1
        omega
      · rw [List.erase_of_not_mem hm] at h1
        omega
  exact key 9 l hn hl
section
variable {M : Md} {K : Kd}
theorem Flat.len (h : Flat M K) : K.length ≤ 9 := by
  have := nodup9 h.nod h.lt
  simpa [keysN] using this
theorem Flat.path (h : Flat M K) : pathT M.T 20 M.cwd = some [] := by
  rw [h.c0]
  show (match M.T 0 with | none => none | some nd => match nd.up with | none => some [] | some u => match pathT M.T 19 u with | none => none | some p => bif Nat.ble (p.length + nd.name.length) 1000000 then some (joinP p nd.name) else none) = _
  rw [h.rt]
theorem Flat.path0 (h : Flat M K) : pathT M.T 20 0 = some [] := by
  have := h.path
  rwa [h.c0] at this
theorem Flat.deep (h : Flat M K) : deepT M.T 20 0 = some 0 := by
  unfold deepT
  rw [h.rt]
theorem Flat.names (h : Flat M K) {i : Nat} (hi : i < 9) : namesT M.T M.cwd (zN i) = some (.inl [nmN i]) := by
  unfold namesT
  rw [h.path]
  rcases nine hi with rfl | rfl | rfl | rfl | rfl | rfl | rfl | rfl | rfl <;> rfl
theorem Flat.place (h : Flat M K) {i : Nat} (hi : i < 9) : placeT M.T M.root M.cwd (zN i) = some (.inl (0, nmN i)) := by
  unfold placeT
  rw [h.names hi]
  show (match walkT M.T M.root true 200 M.root 0 [] with
      | none => none
      | some (Sum.inr n) => some (Sum.inr n)
      | some (Sum.inl u) => match M.T u with
        | none => none
        | some ud => bif decide (ud.kind ≠ 1) then some (Sum.inr 3) else some (Sum.inl (u, nmN i))) = _
  rw [h.r0]
  show (match M.T 0 with
        | none => none
        | some ud => bif decide (ud.kind ≠ 1) then some (Sum.inr 3) else some (Sum.inl (0, nmN i))) = _
  rw [h.rt]
  rfl
theorem Flat.add (h : Flat M K) {i : Nat} (hi : i < 9) (hl : lkN i K = none) {k m : Int} {d : List Nat} (hk : k ≠ 1) : Flat (addN M 0 ⟨1, 493, [], kidN K, none, [], 0⟩ (nmN i) ⟨k, m, d, [], some 0, nmN i, 0⟩) (puN i M.nodes.length K) := by
  have h0 : 0 < M.nodes.length := T_lt h.rt
  have T0 : (addN M 0 ⟨1, 493, [], kidN K, none, [], 0⟩ (nmN i) ⟨k, m, d, [], some 0, nmN i, 0⟩).T 0 = some ⟨1, 493, [], kidN (puN i M.nodes.length K), none, [], 0⟩ := by
    unfold addN Md.T
    simp only
    rw [List.getElem?_append_left (by simpa using h0), List.getElem?_set, if_pos rfl, if_pos h0, pu_kid]
  have T1 : ∀ j, 0 < j → j < M.nodes.length → (addN M 0 ⟨1, 493, [], kidN K, none, [], 0⟩ (nmN i) ⟨k, m, d, [], some 0, nmN i, 0⟩).T j = M.T j := by
    intro j h1 h2
    unfold addN Md.T
    simp only
    rw [List.getElem?_append_left (by simpa using h2), List.getElem?_set, if_neg (by omega)]
  have T2 : (addN M 0 ⟨1, 493, [], kidN K, none, [], 0⟩ (nmN i) ⟨k, m, d, [], some 0, nmN i, 0⟩).T M.nodes.length = some ⟨k, m, d, [], some 0, nmN i, 0⟩ := by
    unfold addN Md.T
    simp only
    rw [List.getElem?_append_right (by simp)]
    simp
  have T3 : ∀ j nd, (addN M 0 ⟨1, 493, [], kidN K, none, [], 0⟩ (nmN i) ⟨k, m, d, [], some 0, nmN i, 0⟩).T j = some nd → j ≤ M.nodes.length := by
    intro j nd hj
    have := T_lt hj
    simp [addN] at this
    omega
  refine ⟨T0, h.r0, h.c0, ?_, ?_, ?_, pu_nodup h.nod, ?_⟩
  · show M.many + 1 = _
    rw [h.mn, pu_new hl]
    simp
  · intro a j hj
    rw [lk_pu] at hj
    by_cases ha : a = i
    · rw [if_pos ha] at hj
      cases hj
      exact ⟨h0, _, T2, hk, rfl, rfl, by rw [ha]⟩
    · rw [if_neg ha] at hj
      obtain ⟨h1, nd, h2, h3⟩ := h.kid a j hj
      exact ⟨h1, nd, (T1 j h1 (T_lt h2)).trans h2, h3⟩
  · intro j nd hj hT
    have := T3 j nd hT
    by_cases e : j = M.nodes.length
    · subst e
      rw [T2] at hT
      cases hT
      rfl
    · rw [T1 j hj (by omega)] at hT
      exact h.leaf j nd hj hT
  · intro a ha
    rw [pu_new hl] at ha
    simp only [keysN, List.map_append, List.map_cons, List.map_nil, List.mem_append, List.mem_singleton] at ha
    rcases ha with ha | rfl
    · exact h.lt a ha
    · exact hi
theorem nm_fits {i : Nat} (hi : i < 9) : fitsB (0 + 1) (joinP [] (nmN i)).length = true := by
  rcases nine hi with rfl | rfl | rfl | rfl | rfl | rfl | rfl | rfl | rfl <;> rfl
theorem Flat.mk5 (h : Flat M K) {i : Nat} (hi : i < 9) (hl : lkN i K = none) : ∃ M', doM M (mkC 5 (zN i)) = some (an0, M') ∧ Flat M' (puN i M.nodes.length K) := by
  refine ⟨_, ?_, h.add hi hl (k := 2) (m := 420) (d := []) (by decide)⟩
  have hm : ¬ M.many ≥ 128 := by rw [h.mn]; have := h.len; omega
  show (match do5 M (mkC 5 (zN i)) with | none => none | some r => some (outM M r)) = _
  have : do5 M (mkC 5 (zN i)) = some (.inr (an0, addN M 0 ⟨1, 493, [], kidN K, none, [], 0⟩ (nmN i) ⟨2, 420, [], [], some 0, nmN i, 0⟩)) := by
    unfold do5
    simp only [h.place hi, h.rt, h.deep, h.path0, lk_kid', hl]
    rw [nm_fits hi, decide_eq_false hm]
    rfl
  rw [this]
  rfl
theorem Flat.mk7 (h : Flat M K) {i : Nat} (hi : i < 9) (hl : lkN i K = none) : ∃ M', doM M (mkC 7 (zN i)) = some (an0, M') ∧ Flat M' (puN i M.nodes.length K) := by
  refine ⟨_, ?_, h.add hi hl (k := 3) (m := 511) (d := [116, 97, 114, 103, 101, 116]) (by decide)⟩
  have hm : ¬ M.many ≥ 128 := by rw [h.mn]; have := h.len; omega
  show (match do7 M (mkC 7 (zN i)) with | none => none | some r => some (outM M r)) = _
  have : do7 M (mkC 7 (zN i)) = some (.inr (an0, addN M 0 ⟨1, 493, [], kidN K, none, [], 0⟩ (nmN i) ⟨3, 511, [116, 97, 114, 103, 101, 116], [], some 0, nmN i, 0⟩)) := by
    unfold do7
    simp only [h.place hi, h.rt, h.deep, h.path0, lk_kid', hl]
    rw [nm_fits hi, decide_eq_false hm]
    rfl
  rw [this]
  rfl
theorem Flat.rm (h : Flat M K) {i j : Nat} (hi : i < 9) (hl : lkN i K = some j) : ∃ M', doM M (qC 11 (zN i)) = some (an0, M') ∧ Flat M' (erN i K) := by
  obtain ⟨hj, jd, hT, hk, hkids, hup, hname⟩ := h.kid i j hl
  have h0 : 0 < M.nodes.length := T_lt h.rt
  have hne : lkN i K ≠ none := by rw [hl]; exact fun e => by cases e
  refine ⟨{ M with nodes := M.nodes.set 0 ⟨1, 493, [], kidN (erN i K), none, [], 0⟩, many := M.many - 1 }, ?_, ?_⟩
  · show (match doRm M (qC 11 (zN i)) true with | none => none | some r => some (outM M r)) = _
    have : doRm M (qC 11 (zN i)) true = some (.inr (an0, { M with nodes := M.nodes.set 0 ⟨1, 493, [], kidN (erN i K), none, [], 0⟩, many := M.many - 1 })) := by
      unfold doRm
      simp only [h.place hi, h.rt, lk_kid', hl, hT, decide_eq_false hk, er_kid]
      rw [decide_eq_true (by rw [h.mn]; omega : -999999 ≤ M.many)]
      rfl
    rw [this]
    rfl
  · have T0 : ({ M with nodes := M.nodes.set 0 ⟨1, 493, [], kidN (erN i K), none, [], 0⟩, many := M.many - 1 } : Md).T 0 = some ⟨1, 493, [], kidN (erN i K), none, [], 0⟩ := by
      unfold Md.T
      simp only
      rw [List.getElem?_set, if_pos rfl, if_pos h0]
    have T1 : ∀ a, 0 < a → ({ M with nodes := M.nodes.set 0 ⟨1, 493, [], kidN (erN i K), none, [], 0⟩, many := M.many - 1 } : Md).T a = M.T a := by
      intro a ha
      unfold Md.T
      simp only
      rw [List.getElem?_set, if_neg (by omega)]
    refine ⟨T0, h.r0, h.c0, ?_, ?_, ?_, (er_sub).nodup h.nod, fun a ha => h.lt a (er_sub.subset ha)⟩
    · show M.many - 1 = _
      rw [h.mn]
      have := er_len hne
      omega
    · intro a b hb
      rw [lk_er h.nod] at hb
      by_cases ha : a = i
      · rw [if_pos ha] at hb
        cases hb
      · rw [if_neg ha] at hb
        obtain ⟨h1, nd, h2, h3⟩ := h.kid a b hb
        exact ⟨h1, nd, (T1 b h1).trans h2, h3⟩
    · intro b nd hb hTb
      rw [T1 b hb] at hTb
      exact h.leaf b nd hb hTb
theorem Flat.same (h : Flat M K) {i a j : Nat} (hi : lkN i K = some j) (ha : lkN a K = some j) : i = a := by
  obtain ⟨_, nd, h1, _, _, _, h2⟩ := h.kid i j hi
  obtain ⟨_, nd', h3, _, _, _, h4⟩ := h.kid a j ha
  rw [h1] at h3
  cases h3
  rw [h2] at h4
  simp only [nmN, List.cons.injEq] at h4
  omega
theorem Flat.moved (h : Flat M K) {i t j : Nat} {jd : Nd} (ht9 : t < 9) (hl : lkN i K = some j) (hT : M.T j = some jd) (hit : i ≠ t) {n : Int} (hn : n = ((puN t j (erN i K)).length : Int)) :
    Flat { M with nodes := renN M.nodes ⟨0, nmN i, j, 0, nmN t, none⟩ ⟨1, 493, [], kidN K, none, [], 0⟩ ⟨1, 493, [], kidN K, none, [], 0⟩ jd, many := n } (puN t j (erN i K)) := by
  obtain ⟨hj, jd', hT', hk, hkids, hup, hname⟩ := h.kid i j hl
  rw [hT] at hT'
  cases hT'
  have h0 : 0 < M.nodes.length := T_lt h.rt
  have hjl : j < M.nodes.length := T_lt hT
  have hN : renN M.nodes ⟨0, nmN i, j, 0, nmN t, none⟩ ⟨1, 493, [], kidN K, none, [], 0⟩ ⟨1, 493, [], kidN K, none, [], 0⟩ jd = (M.nodes.set j { jd with up := some 0, name := nmN t }).set 0 ⟨1, 493, [], kidN (puN t j (erN i K)), none, [], 0⟩ := by
    unfold renN lessK
    simp only [Nat.beq_refl, cond_true, er_kid, pu_kid]
  rw [hN]
  have T0 : ({ M with nodes := (M.nodes.set j { jd with up := some 0, name := nmN t }).set 0 ⟨1, 493, [], kidN (puN t j (erN i K)), none, [], 0⟩, many := n } : Md).T 0 = some ⟨1, 493, [], kidN (puN t j (erN i K)), none, [], 0⟩ := by
    unfold Md.T
    simp only
    rw [List.getElem?_set, if_pos rfl, if_pos (by simpa using h0)]
  have T1 : ∀ a, 0 < a → a ≠ j → ({ M with nodes := (M.nodes.set j { jd with up := some 0, name := nmN t }).set 0 ⟨1, 493, [], kidN (puN t j (erN i K)), none, [], 0⟩, many := n } : Md).T a = M.T a := by
    intro a ha haj
    unfold Md.T
    simp only
    rw [List.getElem?_set, if_neg (by omega), List.getElem?_set, if_neg (by omega)]
  have T2 : ({ M with nodes := (M.nodes.set j { jd with up := some 0, name := nmN t }).set 0 ⟨1, 493, [], kidN (puN t j (erN i K)), none, [], 0⟩, many := n } : Md).T j = some { jd with up := some 0, name := nmN t } := by
    unfold Md.T
    simp only
    rw [List.getElem?_set, if_neg (by omega), List.getElem?_set, if_pos rfl, if_pos hjl]
  refine ⟨T0, h.r0, h.c0, hn, ?_, ?_, pu_nodup (er_sub.nodup h.nod), ?_⟩
  · intro a b hb
    rw [lk_pu, lk_er h.nod] at hb
    by_cases ha : a = t
    · rw [if_pos ha] at hb
      cases hb
      exact ⟨hj, _, T2, hk, hkids, rfl, by rw [ha]⟩
    · rw [if_neg ha] at hb
      by_cases ha2 : a = i
      · rw [if_pos ha2] at hb
        cases hb
      · rw [if_neg ha2] at hb
        obtain ⟨h1, nd, h2, h3⟩ := h.kid a b hb
        have hbj : b ≠ j := fun e => by subst e; exact ha2 (h.same hb hl)
        exact ⟨h1, nd, (T1 b h1 hbj).trans h2, h3⟩
  · intro b nd hb hTb
    by_cases hbj : b = j
    · subst hbj
      rw [T2] at hTb
      cases hTb
      exact hkids
    · rw [T1 b hb hbj] at hTb
      exact h.leaf b nd hb hTb
  · intro a ha
    by_cases hlt : lkN t (erN i K) = none
    · rw [pu_new hlt] at ha
      simp only [keysN, List.map_append, List.map_cons, List.map_nil, List.mem_append, List.mem_singleton] at ha
      rcases ha with ha | rfl
      · exact h.lt a (er_sub.subset ha)
      · exact ht9
    · rw [pu_keys hlt] at ha
      exact h.lt a (er_sub.subset ha)
theorem each_leaf {T : Nodes} {j dp lg : Nat} {nd : Nd} (hT : T j = some nd) (hk : nd.kids = []) : eachT T dp lg 20 j [] = some true := by
  unfold eachT
  rw [hT]
  simp only
  rw [hk]
  rfl
theorem Flat.fit (h : Flat M K) {t j : Nat} {nd : Nd} (ht : t < 9) (hT : M.T j = some nd) (hk : nd.kids = []) : fitT M.T 0 (nmN t) j = some true := by
  unfold fitT
  simp only [h.deep, h.path0]
  rw [nm_fits ht, each_leaf hT hk]
  rcases nine ht with rfl | rfl | rfl | rfl | rfl | rfl | rfl | rfl | rfl <;> rfl
/-- A rename: where the name goes to, nothing, or another leaf, or itself. -/
theorem Flat.rn (h : Flat M K) {i t j : Nat} (hi : i < 9) (ht : t < 9) (hl : lkN i K = some j) : ∃ M', doM M (rnC (zN i) (zN t)) = some (an0, M') ∧ Flat M' (bif Nat.beq i t then K else puN t j (erN i K)) := by
  obtain ⟨hj, jd, hT, hk, hkids, hup, hname⟩ := h.kid i j hl
  have hne : lkN i K ≠ none := by rw [hl]; exact fun e => by cases e
  have hdo : ∀ {r : Nat ⊕ (An × Md)}, do13 M (rnC (zN i) (zN t)) = some r → doM M (rnC (zN i) (zN t)) = some (outM M r) := fun {r} hr => by
    show (match do13 M (rnC (zN i) (zN t)) with | none => none | some r => some (outM M r)) = _
    rw [hr]
  have hsm : decide (-999999 ≤ M.many) = true := decide_eq_true (by rw [h.mn]; omega)
  have hjn : Nat.beq j 0 = false := by rw [beqN, decide_eq_false (by omega)]
  by_cases hit : i = t
  · subst hit
    rw [Nat.beq_refl, cond_true]
    refine ⟨M, hdo (r := .inr (an0, M)) ?_, h⟩
    unfold do13
    have : renT M.T M.root M.cwd (zN i) (zN i) = some (.inr none) := by
      unfold renT
      simp only [h.place hi, h.rt, lk_kid', hl, hT, Nat.beq_refl, cond_true]
    show (match renT M.T M.root M.cwd (zN i) (zN i) with | none => none | some (Sum.inl n) => some (Sum.inl n) | some (Sum.inr none) => some (Sum.inr (an0, M)) | some (Sum.inr (some m)) => _) = _
    rw [this]
  · have hb : Nat.beq i t = false := by rw [beqN, decide_eq_false hit]
    rw [hb, cond_false]
    have her : lkN t (erN i K) = lkN t K := by rw [lk_er h.nod, if_neg (fun e => hit e.symm)]
    have hlen := er_len hne
    cases hlt : lkN t K with
    | none =>
      refine ⟨_, hdo (r := .inr (an0, { M with nodes := renN M.nodes ⟨0, nmN i, j, 0, nmN t, none⟩ ⟨1, 493, [], kidN K, none, [], 0⟩ ⟨1, 493, [], kidN K, none, [], 0⟩ jd, many := M.many })) ?_, h.moved ht hl hT hit ?_⟩
      · have hren : renT M.T M.root M.cwd (zN i) (zN t) = some (.inr (some ⟨0, nmN i, j, 0, nmN t, none⟩)) := by
          unfold renT
          simp only [h.place hi, h.place ht, h.rt, lk_kid', hl, hT, hlt]
          unfold renE
          simp only [decide_eq_false hk, cond_false, h.fit ht hT hkids, hjn, Bool.or_self]
        unfold do13
        show (match renT M.T M.root M.cwd (zN i) (zN t) with | none => none | some (Sum.inl n) => some (Sum.inl n) | some (Sum.inr none) => some (Sum.inr (an0, M)) | some (Sum.inr (some m)) => _) = _
        rw [hren]
        simp only [h.rt, hT, hsm, cond_true]
        rfl
      · rw [h.mn, pu_new (her.trans hlt)]
        simp
        omega
    | some k =>
      obtain ⟨hk0, kd, hkT, hkk, hkkids, _, _⟩ := h.kid t k hlt
      have hkj : Nat.beq k j = false := by
        rw [beqN, decide_eq_false_iff_not]
        intro e
        subst e
        exact hit (h.same hl hlt)
      refine ⟨_, hdo (r := .inr (an0, { M with nodes := renN M.nodes ⟨0, nmN i, j, 0, nmN t, none⟩ ⟨1, 493, [], kidN K, none, [], 0⟩ ⟨1, 493, [], kidN K, none, [], 0⟩ jd, many := M.many - 1 })) ?_, h.moved ht hl hT hit ?_⟩
      · have hren : renT M.T M.root M.cwd (zN i) (zN t) = some (.inr (some ⟨0, nmN i, j, 0, nmN t, some k⟩)) := by
          unfold renT
          simp only [h.place hi, h.place ht, h.rt, lk_kid', hl, hT, hlt, hkT, hkj, cond_false]
          unfold renE
          have hy : yT M.T M.cwd false k = some none := by
            have hkc : Nat.beq k M.cwd = false := by rw [h.c0, beqN, decide_eq_false (by omega)]
            unfold yT
            simp only [hkT, decide_eq_false hkk, hkkids, hkc]
            rfl
          simp only [decide_eq_false hk, cond_false, hy, h.fit ht hT hkids, hjn, Bool.or_self]
        unfold do13
        show (match renT M.T M.root M.cwd (zN i) (zN t) with | none => none | some (Sum.inl n) => some (Sum.inl n) | some (Sum.inr none) => some (Sum.inr (an0, M)) | some (Sum.inr (some m)) => _) = _
        rw [hren]
        simp only [h.rt, hT, hsm, cond_true]
        rfl
      · have := pu_len (i := t) (j := j) (K := erN i K) (by rw [her, hlt]; exact fun e => by cases e)
        rw [h.mn, this]
        omega
theorem Flat.ls (h : Flat M K) : ∃ M', doM M (qC 3 [47]) = some (⟨0, 0, 0, 0, [], selN (fun i => decide (i ∈ keysN K)) 0 9⟩, M') := by
  refine ⟨M, ?_⟩
  have hs := sortK_kid h.nod h.lt
  have hall : M.nodes.all (fun nd => (sortK nd.kids).isSome) = true := by
    rw [List.all_eq_true]
    intro nd hnd
    obtain ⟨j, hj⟩ := List.mem_iff_getElem?.mp hnd
    have hj : M.T j = some nd := hj
    by_cases h0 : j = 0
    · subst h0
      rw [h.rt] at hj
      cases hj
      simp only [hs]
      rfl
    · rw [h.leaf j nd (by omega) hj]
      rfl
  have hf : findT M.T M.root M.cwd [47] true = some (.inl 0) := by
    have hn : namesT M.T M.cwd [47] = some (.inl []) := by
      unfold namesT
      rw [h.path]
      rfl
    unfold findT
    rw [hn, h.r0]
    rfl
  show (match do3 M (qC 3 [47]) with | none => none | some r => some (outM M r)) = _
  have : do3 M (qC 3 [47]) = some (.inr (⟨0, 0, 0, 0, [], selN (fun i => decide (i ∈ keysN K)) 0 9⟩, M)) := by
    unfold do3
    simp only [hall, cond_true, hf, h.rt, hs]
    rfl
  rw [this]
  rfl
end
theorem lead_at {M : Md} {K : Kd} (h : Flat M K) {p q : List Nat} (e : cleanL [] p = (q, 0)) : leadM M p = some (.inl (47 :: q)) := by
  unfold leadM
  rw [h.path]
  show ((match cleanL [] p with | (at', e) => bif Nat.beq e 0 then some (.inl (47 :: at')) else bif Nat.beq e 402 || Nat.beq e 403 then some (.inr 8) else some (.inr 5)) : Option (List Nat ⊕ Int)) = _
  rw [e]
  rfl
theorem lead_nm {M : Md} {K : Kd} (h : Flat M K) {i : Nat} (hi : i < 9) : leadM M (nmN i) = some (.inl (zN i)) := by
  refine lead_at h ?_
  rcases nine hi with rfl | rfl | rfl | rfl | rfl | rfl | rfl | rfl | rfl <;> kernel_rfl
theorem pr_one {M : Md} {c : Cl} {p : List Nat} (h1 : decide (c.op = 13) = false) (h2 : (decide (1 ≤ c.op) && decide (c.op ≤ 14) || decide (c.op = 18)) = true) (hl : leadM M c.path = some (.inl p)) : prM M c = doM M { c with path := p } := by
  unfold prM
  rw [h1, h2, hl]
  rfl
theorem pr_two {M : Md} {c : Cl} {p q : List Nat} (h1 : decide (c.op = 13) = true) (hl : leadM M c.path = some (.inl p)) (hm : leadM M c.path2 = some (.inl q)) : prM M c = doM M { c with path := p, path2 := q } := by
  unfold prM
  rw [h1, hl, hm]
  rfl
theorem r_to1 {M : Md} {K : Kd} {i : Nat} {op : Int} (h : Flat M K) (hi : i < 9) (h1 : decide (op = 13) = false := by rfl) (h2 : (decide (1 ≤ op) && decide (op ≤ 14) || decide (op = 18)) = true := by rfl) : prM M (mkC op (nmN i)) = doM M (mkC op (zN i)) := pr_one (c := mkC op (nmN i)) h1 h2 (lead_nm h hi)
theorem r_to2 {M : Md} {K : Kd} {i : Nat} {op : Int} (h : Flat M K) (hi : i < 9) (h1 : decide (op = 13) = false := by rfl) (h2 : (decide (1 ≤ op) && decide (op ≤ 14) || decide (op = 18)) = true := by rfl) : prM M (qC op (nmN i)) = doM M (qC op (zN i)) := pr_one (c := qC op (nmN i)) h1 h2 (lead_nm h hi)
theorem r_to3 {M : Md} {K : Kd} {i j : Nat} (h : Flat M K) (hi : i < 9) (hj : j < 9) : prM M (rnC (nmN i) (nmN j)) = doM M (rnC (zN i) (zN j)) := pr_two (c := rnC (nmN i) (nmN j)) rfl (lead_nm h hi) (lead_nm h hj)
theorem r_to4 {M : Md} {K : Kd} (h : Flat M K) : prM M (qC 3 [47]) = doM M (qC 3 [47]) := pr_one (c := qC 3 [47]) rfl rfl (lead_at h (q := []) (by kernel_rfl))
theorem flat_0 : Flat M0 [] := by
  refine ⟨rfl, rfl, rfl, rfl, fun i j h => (by cases h), ?_, List.nodup_nil, fun i h => (by cases h)⟩
  intro j nd hj hT
  have : j < 1 := T_lt hT
  omega
end Go.AX
-- handed
namespace Go.AX
open Go.Proofs Go.RowKit
set_option maxRecDepth 1000000
set_option maxHeartbeats 40000000
set_option linter.unusedSimpArgs false
set_option linter.unusedVariables false

/-! ### What the law holds for there -/
def hvA (H : List (Nat × Bool)) : List (AV × AV) := H.map fun q => (.str (nmN q.1), .raw (.bool q.2))
def lkO (i : Nat) : List (Nat × Bool) → Option Bool
  | [] => none
  | q :: l => bif Nat.beq i q.1 then some q.2 else lkO i l
def lkB (i : Nat) (H : List (Nat × Bool)) : Bool := (lkO i H).getD false
def stB (i : Nat) (b : Bool) : List (Nat × Bool) → List (Nat × Bool)
  | [] => [(i, b)]
  | q :: l => bif Nat.beq i q.1 then (i, b) :: l else q :: stB i b l
theorem lkB_st {i a : Nat} {b : Bool} {H : List (Nat × Bool)} : lkB a (stB i b H) = if a = i then b else lkB a H := by
  have key : ∀ {H : List (Nat × Bool)}, lkO a (stB i b H) = if a = i then some b else lkO a H := by
    intro H
    induction H with
    | nil => simp only [stB, lkO, beqN]; by_cases h : a = i <;> simp [h]
    | cons q l ih =>
      simp only [stB, beqN]
      by_cases h : i = q.1
      · rw [decide_eq_true h, cond_true]
        simp only [lkO, beqN]
        by_cases h2 : a = i
        · simp [h2]
        · have : ¬ a = q.1 := by omega
          simp [h2, this]
      · rw [decide_eq_false h, cond_false]
        simp only [lkO, beqN]
        by_cases h2 : a = q.1
        · have : ¬ a = i := by omega
          simp [h2]
          omega
        · simp only [h2, decide_false, cond_false]
          exact ih
  unfold lkB
  rw [key]
  by_cases h : a = i <;> simp [h]
theorem findK_hv {p : Nat} : ∀ (l : List (Nat × Bool)) (i : Nat), findK .string (.str (nmN p)) (hvA l) i = some (match lkO p l with | some b => some (i + (l.findIdx fun q => Nat.beq p q.1), .raw (.bool b)) | none => none)
  | [], _ => rfl
  | (q, b) :: l, i => by
    simp only [hvA, List.map_cons, findK, sameK, lkO, eqB_nm]
    cases h : Nat.beq p q with
    | true => simp [h, List.findIdx_cons]
    | false =>
      have ih := findK_hv (p := p) l (i + 1)
      simp only [hvA] at ih
      simp only [ih, cond_false, List.findIdx_cons, h]
      cases lkO p l with
      | none => rfl
      | some _ => simp; omega
theorem setL_hv {p : Nat} {b : Bool} : ∀ (l : List (Nat × Bool)), lkO p l ≠ none → setL (hvA l) (l.findIdx fun q => Nat.beq p q.1) (.str (nmN p), .raw (.bool b)) = hvA (stB p b l)
  | [], h => absurd rfl h
  | (q, c) :: l, h => by
    simp only [lkO] at h
    simp only [stB, List.findIdx_cons]
    cases hb : Nat.beq p q with
    | true => simp [hvA, setL]
    | false =>
      rw [hb] at h
      have ih := setL_hv (p := p) (b := b) l (by simpa using h)
      simp only [cond_false, hvA, List.map_cons, setL]
      congr 1
theorem appL_hv {p : Nat} {b : Bool} : ∀ (l : List (Nat × Bool)), lkO p l = none → hvA l ++ [(.str (nmN p), .raw (.bool b))] = hvA (stB p b l)
  | [], _ => rfl
  | (q, c) :: l, h => by
    simp only [lkO] at h
    simp only [stB]
    cases hb : Nat.beq p q with
    | true => rw [hb] at h; cases h
    | false =>
      rw [hb] at h
      have ih := appL_hv (p := p) (b := b) l (by simpa using h)
      simp only [cond_false, hvA, List.map_cons, List.cons_append]
      congr 1
theorem lk_hv {s : St} {mp i : Nat} {H : List (Nat × Bool)} (h : s.h.get mp = some (.map (hvA H))) : lookupA TE s 90 (.map mp) (.str (nmN i)) false = some (.raw (.bool (lkB i H))) := by
  have hz : zeroOf TE 4 = some (.raw (.bool false)) := zero_bool
  have e : lookupA TE s 90 (.map mp) (.str (nmN i)) false = (match (some { desc := .string, size := 1, bytes := 16, zero := some (.string ⟨#[]⟩) } : Option TI), mapsA s (.map mp) with
      | some ki, some es =>
        bif keyOk ki.desc then
          match findK ki.desc (.str (nmN i)) es 0 with
          | some (some (_, v)) => some (bif false then .tuple [v, boolA true] else v)
          | some none => match zeroOf TE 4 with
            | some z => some (bif false then .tuple [z, boolA false] else z)
            | none => none
          | none => none
        else none
      | _, _ => none) := by kernel_rfl
  rw [e]
  simp only [mapsA, h, findK_hv, keyOk, cond_true, cond_false, hz, lkB]
  cases lkO i H <;> rfl
theorem up_hv {s : St} {mp i : Nat} {b : Bool} {H : List (Nat × Bool)} (h : s.h.get mp = some (.map (hvA H))) : mapUpdateA TE s 90 (.map mp) (.str (nmN i)) (.raw (.bool b)) = some { s with h := s.h.set mp (.map (hvA (stB i b H))) } := by
  have e : mapUpdateA TE s 90 (.map mp) (.str (nmN i)) (.raw (.bool b)) = (match s.h.get mp with
      | some (.map es) => match findK .string (.str (nmN i)) es 0 with
            | some (some (j, _)) => some { s with h := s.h.set mp (.map (setL es j (.str (nmN i), .raw (.bool b)))) }
            | some none => some { s with h := s.h.set mp (.map (es ++ [(.str (nmN i), .raw (.bool b))])) }
            | none => none
      | _ => none) := by kernel_rfl
  rw [e, h]
  simp only [findK_hv]
  cases hl : lkO i H with
  | none => simp only [appL_hv H hl]
  | some c => simp only [Nat.zero_add, setL_hv H (by rw [hl]; simp)]

/-! ### Quotients -/
def quA (m : Int) : AV → Option (AV × List Nat)
  | .raw (.int .u64 z) => some (.raw (.int .u64 (IntKind.u64.wrap (z.tdiv m))), [])
  | _ => none
theorem quA_int {m z : Int} : quA m (.raw (.int .u64 z)) = some (.raw (.int .u64 (IntKind.u64.wrap (z.tdiv m))), []) := (rfl)
theorem b_quo {v w : AV} : binFast .quo v w = none := by
  unfold binFast
  split
  · split <;> rfl
  · rfl
  · rfl
theorem eqS_quo {s : St} {t : TypeId} {x y : AV} {d : Option (AV × List Nat)} : eqS TE s .quo t x y d = d := (rfl)
theorem qu_eq {e : Env} {a : Ac} {dst : Option Tmp} {x : Operand} {t t' ty : TypeId} {pos : String} {after : Array Edge} {m : Int} (hm : m ≠ 0) (hx : isU64 (a.eval x) = true) :
    stepPure e a ⟨dst, .binOp .quo t x (.const (.int .u64 m)) t', ty, pos, after, none⟩ = quA m (a.eval x) := by
  obtain ⟨u, hx⟩ := isU64_of hx
  have h1 : valAt a x = .int .u64 u := by simp [valAt, hx, toVal]
  have h2 : valAt a (.const (.int .u64 m)) = .int .u64 m := rfl
  have hall : (Op.operands (.binOp .quo t x (.const (.int .u64 m)) t')).toList.all (fun x => (toVal (a.eval x)).isSome) = true := by
    show (List.all [x, .const (.int .u64 m)] (fun x => (toVal (a.eval x)).isSome)) = true
    simp only [List.all_cons, List.all_nil, hx]
    rfl
  have hr : pureRun e.P (execOp (valAt a) ⟨dst, .binOp .quo t x (.const (.int .u64 m)) t', ty, pos, after, none⟩) = some (.value (.int .u64 (IntKind.u64.wrap (u.tdiv m)))) := by
    have : execOp (valAt a) ⟨dst, .binOp .quo t x (.const (.int .u64 m)) t', ty, pos, after, none⟩ = .pure (.value (.int .u64 (IntKind.u64.wrap (u.tdiv m)))) := by
      have hd : Op.intDiv .quo .u64 u m = .pure (.int .u64 (IntKind.u64.wrap (u.tdiv m))) := by
        simp only [Op.intDiv, if_neg hm]
        rfl
      simp only [execOp, h1, h2]
      show (do pure (Next.value (← Op.intDiv .quo .u64 u m))) = _
      rw [hd]
      rfl
    rw [this]; rfl
  simp only [stepPure, hall, cond_true, hr, hx]
  rfl
theorem u64_nat (z : Int) : ∃ u : Nat, IntKind.u64.wrap z = (u : Int) ∧ u < 18446744073709551616 := by
  have h0 : 0 ≤ IntKind.u64.wrap z ∧ IntKind.u64.wrap z < 18446744073709551616 := by
    show 0 ≤ z % 18446744073709551616 ∧ z % 18446744073709551616 < 18446744073709551616
    omega
  exact ⟨(IntKind.u64.wrap z).toNat, (Int.toNat_of_nonneg h0.1).symm, by omega⟩
theorem bs_i2 {s : St} {a b : Int} : buildSliceA TE s 40 2 [(0, .raw (.int .i64 a)), (1, .raw (.int .i64 b))] = some (.slice s.nx 0 2 0 2 true, s.alloc (.cells [.raw (.int .i64 a), .raw (.int .i64 b)] 3 0)) := by kernel_rfl
theorem ix_u2 {q r : Nat} (h : r < 2) : indexAddrA TE 40 (.slice q 0 2 0 2 true) (.raw (.int .u64 (r : Int))) = some (.ptr q r) := by
  have e : indexAddrA TE 40 (.slice q 0 2 0 2 true) (.raw (.int .u64 (r : Int))) = (bif Nat.blt r 2 then some (.ptr q (0 + r * 1)) else none) := by kernel_rfl
  rw [e, Nat.blt_eq.mpr h, Nat.mul_one, Nat.zero_add]
  rfl
def nth2 (a b : Int) : Nat → Int
  | 0 => a
  | _ => b
theorem ld_i2 {a b : Int} {r t z : Nat} (h : r < 2) : ldO (some (.cells [.raw (.int .i64 a), .raw (.int .i64 b)] t z)) r = some (.raw (.int .i64 (nth2 a b r))) := by
  have hh : r = 0 ∨ r = 1 := by omega
  rcases hh with rfl | rfl <;> rfl
theorem dec_nm {j : Nat} (h : j < 9) : binFast .add (.str [110]) (.str (decL j)) = some (.str (nmN j)) := by
  rw [b_add (by have := decL_len (n := j); simp; omega)]
  rcases nine h with rfl | rfl | rfl | rfl | rfl | rfl | rfl | rfl | rfl <;> rfl

/-! ### What has been put in the row so far -/
def Wl (W : AV) (l : List (List Nat)) (L0 L : List (Nat × AO)) : Prop := (l = [] ∧ W = .raw (.slice none 0 0) ∧ L = L0) ∨ ∃ q, 0 < l.length ∧ W = .slice q 0 l.length 0 l.length false ∧ L = (q, .cells (l.map .str) 9 2) :: L0 ∧ 15 ≤ q ∧ ∀ x ∈ L0, x.1 < q
theorem Wl.slv {W : AV} {l : List (List Nat)} {L0 L : List (Nat × AO)} (h : Wl W l L0 L) {s : St} {M : Md} (hW : WL s M L) : SlV s W l := by
  rcases h with ⟨rfl, rfl, rfl⟩ | ⟨q, h0, rfl, rfl, hq, _⟩
  · exact Or.inl ⟨rfl, rfl⟩
  · refine Or.inr (Or.inr ⟨q, 0, 0, l.length, false, l.map .str, 2, rfl, hW.get0, by simp, ?_, Nat.le_refl _⟩)
    rw [List.drop_zero, List.take_of_length_le (by simp)]
theorem Wl.one {W : AV} {l : List (List Nat)} {L0 L : List (Nat × AO)} (h : Wl W l L0 L) : W.cells = [W] ∧ W.one = true ∧ idsOf W = [] := by
  rcases h with ⟨rfl, rfl, rfl⟩ | ⟨q, h0, rfl, rfl, hq, _⟩ <;> exact ⟨rfl, rfl, rfl⟩
theorem Wl.mem {W : AV} {l : List (List Nat)} {L0 L : List (Nat × AO)} (h : Wl W l L0 L) {x : Nat × AO} (hx : x ∈ L0) : x ∈ L := by
  rcases h with ⟨rfl, rfl, rfl⟩ | ⟨q, h0, rfl, rfl, hq, _⟩
  · exact hx
  · exact List.mem_cons_of_mem _ hx
theorem Wl.app {W : AV} {l : List (List Nat)} {L0 L : List (Nat × AO)} (h : Wl W l L0 L) (hl : l.length ≤ 100) {s : St} {M : Md} (hW : WL s M L) (nm : List Nat) : ∃ W' s' L', appendA TE (s.alloc (.cells [.str nm] 9 0)) [41, 41] [W, .slice s.nx 0 1 0 1 true] = some (W', s') ∧ Wl W' (l ++ [nm]) L0 L' ∧ WL s' M L' := by
  have hW1 := hW.alloc (.cells [.str nm] 9 0)
  have hB := hW.base
  have hlt : ∀ x ∈ L0, x.1 < s.nx := fun x hx => hW.lt (h.mem hx)
  rcases h with ⟨rfl, rfl, rfl⟩ | ⟨q, h0, rfl, rfl, hq, hq0⟩
  · refine ⟨_, _, _, app_nil slv_1, Or.inr ⟨_, by simp, rfl, rfl, ?_, fun x hx => ?_⟩, (hW1.alloc _).sub (fun x hx => ?_)⟩
    · show 15 ≤ s.nx + 1
      omega
    · have := hlt x hx
      show x.1 < s.nx + 1
      omega
    · rcases List.mem_cons.mp hx with rfl | hx
      · exact List.mem_cons_self ..
      · exact List.mem_cons_of_mem _ (List.mem_cons_of_mem _ hx)
  · have lq : q < s.nx := hW.lt (List.mem_cons_self ..)
    have hg : (s.alloc (.cells [.str nm] 9 0)).h.get q = some (.cells (l.map .str) 9 2) := (al_ne (by omega)).trans hW.get0
    have ap := app_gr (s := s.alloc (.cells [.str nm] 9 0)) (n := l.length) slv_1 hg (by simp) (by omega)
    have hcs : l.map AV.str ++ [.str nm] = (l ++ [nm]).map .str := by simp
    have hcl : l.length + 1 = (l ++ [nm]).length := by simp
    rw [hcs, hcl] at ap
    have hW2 : WL (s.alloc (.cells [.str nm] 9 0)) M ((q, .cells (l.map .str) 9 2) :: L0) := hW1.sub (fun x hx => List.mem_cons_of_mem _ hx)
    refine ⟨_, _, _, ap, Or.inr ⟨_, by simp, rfl, rfl, ?_, fun x hx => ?_⟩, hW2.del (fun x hx => ?_) (by omega) _⟩
    · show 15 ≤ s.nx + 1
      omega
    · have := hlt x hx
      show x.1 < s.nx + 1
      omega
    · have := hq0 x hx
      omega
theorem sel_snoc {p : Nat → Bool} : ∀ {n a : Nat}, selN p a (n + 1) = selN p a n ++ (bif p (a + n) then [nmN (a + n)] else [])
  | 0, a => by
    simp only [selN, Nat.add_zero, List.nil_append]
  | n + 1, a => by
    have ih := sel_snoc (p := p) (n := n) (a := a + 1)
    have e : a + 1 + n = a + (n + 1) := by omega
    rw [e] at ih
    show (bif p a then nmN a :: selN p (a + 1) (n + 1) else selN p (a + 1) (n + 1)) = (bif p a then nmN a :: selN p (a + 1) n else selN p (a + 1) n) ++ _
    rw [ih]
    cases p a <;> rfl

/-! ### The law -/
theorem rows_c {PV : AV} {zs : List Int} {L0 : List (Nat × AO)} (hP : Pks PV zs L0) {s : St} (hF : Flat M0 []) (hW : WL s M0 L0) :
    (sem Tryz.prog).call 46 [.fn 62 [.ptr 14 0], PV] s (fun v _ => isTrue v) (fun _ _ => false) = true := by
  have H := ok4
  have pl := hP.len
  have pi := hP.ids
  have hC := hW.base
  have m9 : (9 : Int) ≠ 0 := by decide
  have m2 : (2 : Int) ≠ 0 := by decide
  have m3 : (3 : Int) ≠ 0 := by decide
  refine w_call H 95 fn_46 rfl rfl ?_
  repeat (first | with_reducible (refine w_one H ?_; constructor) | simp only [rB, rP, rQ, boolA, intA, resultA, resA, reduceIte, reduceCtorEq, Nat.reduceAdd, Nat.reduceLT, Nat.reduceEqDiff, UInt8.reduceToNat, pe4, pf4, b_eqi, b_nei, b_lt, b_le, b_gt, b_ge, fn_an0, fn_an1, fn_an4, fn_an5, bc_01, bc_012, bc_015, bc_0145, bc_0147, bc_016, bc_0167, bc_017, bc_03, bc_035, bc_0347, beq_self_eq_true, bne_self_eq_false, Int.reduceBEq, Int.reduceBNe, Int.reduceLT, Int.reduceLE, Int.reduceGT, decide_true, decide_false, eqB_self, la_cons, la_nil, b_plus])
  have hW1 := hW.alloc (.map [])
  refine w_loop_ind H (fun n t s' => ∃ (i : Nat) (M : Md) (K : Kd) (Hv : List (Nat × Bool)), n + i = 20 ∧ i ≤ zs.length ∧ Flat M K ∧ (∀ j, j < 9 → lkB j Hv = (lkN j K).isSome) ∧ tg t 0 = .fn 62 [.ptr 14 0] ∧ tg t 1 = PV ∧ tg t 5 = .map s.nx ∧ tg t 6 = .raw (.int .i64 (i : Int)) ∧ WL s' M ((s.nx, .map (hvA Hv)) :: L0)) (n := 20)
    ⟨0, M0, [], [], rfl, Nat.zero_le _, hF, fun j _ => rfl, by simp only [rB, rP, rQ, boolA, intA, resultA, resA, reduceIte, reduceCtorEq, Nat.reduceAdd, Nat.reduceLT, Nat.reduceEqDiff, UInt8.reduceToNat], by simp only [rB, rP, rQ, boolA, intA, resultA, resA, reduceIte, reduceCtorEq, Nat.reduceAdd, Nat.reduceLT, Nat.reduceEqDiff, UInt8.reduceToNat], by simp only [rB, rP, rQ, boolA, intA, resultA, resA, reduceIte, reduceCtorEq, Nat.reduceAdd, Nat.reduceLT, Nat.reduceEqDiff, UInt8.reduceToNat], by simp only [rB, rP, rQ, boolA, intA, resultA, resA, reduceIte, reduceCtorEq, Nat.reduceAdd, Nat.reduceLT, Nat.reduceEqDiff, UInt8.reduceToNat]; rfl, hW1⟩ ?_
  rintro n t s' ih ⟨i, M, K, Hv, hn, hiz, hF, hH, t0, t1, t5, t6, hW⟩
  have hne0 : ∀ q ∈ L0, q.1 ≠ s.nx := fun q hq => by rw [hP.lt q hq]; omega
  have ew : IntKind.i64.wrap ((i : Int) + 1) = ((i + 1 : Nat) : Int) := by
    rw [show (i : Int) + 1 = ((i + 1 : Nat) : Int) from by simp]
    exact wrap_nat (by omega)
  by_cases hgo : i < zs.length ∧ i < 20
  · obtain ⟨h1, h2⟩ := hgo
    have g0 : decide ((i : Int) < (zs.length : Int)) = true := by rw [decide_eq_true_eq]; omega
    have g9 : decide ((i : Int) < 20) = true := by rw [decide_eq_true_eq]; omega
    obtain ⟨ix, cs, hcs, hz⟩ := hP.at' i zs[i] (List.getElem?_eq_getElem h1)
    generalize zs[i] = z at ix hz
    obtain ⟨u, eu, hu⟩ := u64_nat z
    have go : s'.h.get 0 = some (.old cs) := hW.get (q := (0, AO.old cs)) (List.mem_cons_of_mem _ hcs)
    have gm := hW.get0
    have r9 : ((u : Int)).tmod 9 = ((u % 9 : Nat) : Int) := (Int.ofNat_tmod u 9).symm
    have r2 : ((u : Int)).tmod 2 = ((u % 2 : Nat) : Int) := (Int.ofNat_tmod u 2).symm
    have r3 : ((u : Int)).tmod 3 = ((u % 3 : Nat) : Int) := (Int.ofNat_tmod u 3).symm
    have q9 : IntKind.u64.wrap (((u : Int)).tdiv 9) = ((u / 9 : Nat) : Int) := by
      rw [show ((u : Int)).tdiv 9 = ((u / 9 : Nat) : Int) from (Int.ofNat_tdiv u 9).symm]
      show ((u / 9 : Nat) : Int) % 18446744073709551616 = _
      omega
    have rq : (((u / 9 : Nat) : Int)).tmod 9 = ((u / 9 % 9 : Nat) : Int) := (Int.ofNat_tmod (u / 9) 9).symm
    have ha : u % 9 < 9 := Nat.mod_lt _ (by decide)
    have hb : u / 9 % 9 < 9 := Nat.mod_lt _ (by decide)
    have h2' : u % 2 < 2 := Nat.mod_lt _ (by decide)
    generalize u % 9 = a at r9 ha
    generalize u / 9 % 9 = b at rq hb
    generalize u % 2 = c at r2 h2'
    generalize u % 3 = d at r3
    have wa : IntKind.i64.wrap (a : Int) = (a : Int) := wrap_nat (by omega)
    have wb : IntKind.i64.wrap (b : Int) = (b : Int) := wrap_nat (by omega)
    have da : Nat.blt a 256 = true := Nat.blt_eq.mpr (by omega)
    have db : Nat.blt b 256 = true := Nat.blt_eq.mpr (by omega)
    have fa := dec_nm ha
    have fb := dec_nm hb
    have hsa := hH a ha
    have hsb := hH b hb
    have lk := lk_hv (i := a) gm
    have iu := fun q => ix_u2 (q := q) h2'
    have l2 := fun (x y : Int) (t z : Nat) => ld_i2 (a := x) (b := y) (t := t) (z := z) h2'
    cases hl : lkN a K with
    | none =>
      have lf : lkB a Hv = false := by rw [hsa, hl]; rfl
      rw [lf] at lk
      have hmk : ∃ M', prM M (mkC (nth2 5 7 c) (nmN a)) = some (an0, M') ∧ Flat M' (puN a M.nodes.length K) := by
        have hh : c = 0 ∨ c = 1 := by omega
        rcases hh with rfl | rfl
        · obtain ⟨M', e, f⟩ := hF.mk5 ha hl
          exact ⟨M', (r_to1 hF ha).trans e, f⟩
        · obtain ⟨M', e, f⟩ := hF.mk7 ha hl
          exact ⟨M', (r_to1 hF ha).trans e, f⟩
      obtain ⟨M', e, hF'⟩ := hmk
      repeat (first | with_reducible (refine w_one H ?_; constructor) | simp only [rB, rP, rQ, boolA, intA, resultA, resA, reduceIte, reduceCtorEq, Nat.reduceAdd, Nat.reduceLT, Nat.reduceEqDiff, UInt8.reduceToNat, pe4, pf4, b_eqi, b_nei, b_lt, b_le, b_gt, b_ge, fn_an0, fn_an1, fn_an4, fn_an5, bc_01, bc_012, bc_015, bc_0145, bc_0147, bc_016, bc_0167, bc_017, bc_03, bc_035, bc_0347, beq_self_eq_true, bne_self_eq_false, Int.reduceBEq, Int.reduceBNe, Int.reduceLT, Int.reduceLE, Int.reduceGT, decide_true, decide_false, eqB_self, la_cons, la_nil, b_plus, t0, t1, t5, t6, pl, pi, g0, g9, ix, go, hz, ld_3, o_cvt, toU_int, b_rem, eqS_rem, rm_eq m9, rm_eq m2, u64_int, remA_int, eu, r9, r2, i64_int, o_cvi, toI_int, wa, c_dec da, fa, lk, gm, bs_i2, iu, l2])
      refine lmake_c ok3 (hW.alloc _) e (st := 0) rfl ?_
      intro s1 hW hl1
      have gm := hW.get1
      have up := up_hv (i := a) (b := true) gm
      repeat (first | with_reducible (refine w_one H ?_; constructor) | simp only [rB, rP, rQ, boolA, intA, resultA, resA, reduceIte, reduceCtorEq, Nat.reduceAdd, Nat.reduceLT, Nat.reduceEqDiff, UInt8.reduceToNat, pe4, pf4, b_eqi, b_nei, b_lt, b_le, b_gt, b_ge, fn_an0, fn_an1, fn_an4, fn_an5, bc_01, bc_012, bc_015, bc_0145, bc_0147, bc_016, bc_0167, bc_017, bc_03, bc_035, bc_0347, beq_self_eq_true, bne_self_eq_false, Int.reduceBEq, Int.reduceBNe, Int.reduceLT, Int.reduceLE, Int.reduceGT, decide_true, decide_false, eqB_self, la_cons, la_nil, b_plus, t0, t1, t5, t6, up, ew])
      refine ih (n - 1) _ _ (by omega) ⟨i + 1, M', puN a M.nodes.length K, stB a true Hv, by omega, by omega, hF', fun j hj => ?_, by simp only [rB, rP, rQ, boolA, intA, resultA, resA, reduceIte, reduceCtorEq, Nat.reduceAdd, Nat.reduceLT, Nat.reduceEqDiff, UInt8.reduceToNat, t0], by simp only [rB, rP, rQ, boolA, intA, resultA, resA, reduceIte, reduceCtorEq, Nat.reduceAdd, Nat.reduceLT, Nat.reduceEqDiff, UInt8.reduceToNat, t1], by simp only [rB, rP, rQ, boolA, intA, resultA, resA, reduceIte, reduceCtorEq, Nat.reduceAdd, Nat.reduceLT, Nat.reduceEqDiff, UInt8.reduceToNat, t5], by simp only [rB, rP, rQ, boolA, intA, resultA, resA, reduceIte, reduceCtorEq, Nat.reduceAdd, Nat.reduceLT, Nat.reduceEqDiff, UInt8.reduceToNat], WL.set (hW.sub (fun x hx => List.mem_cons_of_mem _ hx)) hne0 (by omega) _⟩
      rw [lkB_st, lk_pu, hH j hj]
      by_cases hja : j = a <;> simp [hja]
    | some k =>
      have lf : lkB a Hv = true := by rw [hsa, hl]; rfl
      rw [lf] at lk
      by_cases hd : d = 0
      · subst hd
        obtain ⟨M', e, hF'⟩ := hF.rm ha hl
        have e := (r_to2 hF ha).trans e
        have g3 : ((((0 : Nat) : Int) == 0) : Bool) = true := rfl
        repeat (first | with_reducible (refine w_one H ?_; constructor) | simp only [rB, rP, rQ, boolA, intA, resultA, resA, reduceIte, reduceCtorEq, Nat.reduceAdd, Nat.reduceLT, Nat.reduceEqDiff, UInt8.reduceToNat, pe4, pf4, b_eqi, b_nei, b_lt, b_le, b_gt, b_ge, fn_an0, fn_an1, fn_an4, fn_an5, bc_01, bc_012, bc_015, bc_0145, bc_0147, bc_016, bc_0167, bc_017, bc_03, bc_035, bc_0347, beq_self_eq_true, bne_self_eq_false, Int.reduceBEq, Int.reduceBNe, Int.reduceLT, Int.reduceLE, Int.reduceGT, decide_true, decide_false, eqB_self, la_cons, la_nil, b_plus, t0, t1, t5, t6, pl, pi, g0, g9, ix, go, hz, ld_3, o_cvt, toU_int, b_rem, eqS_rem, rm_eq m9, rm_eq m3, u64_int, remA_int, eu, r9, r3, i64_int, o_cvi, toI_int, wa, c_dec da, fa, lk, gm, g3])
        refine lstatus_c ok3 hW e (st := 0) rfl ?_
        intro s1 hW hl1
        have gm := hW.get0
        have up := up_hv (i := a) (b := false) gm
        repeat (first | with_reducible (refine w_one H ?_; constructor) | simp only [rB, rP, rQ, boolA, intA, resultA, resA, reduceIte, reduceCtorEq, Nat.reduceAdd, Nat.reduceLT, Nat.reduceEqDiff, UInt8.reduceToNat, pe4, pf4, b_eqi, b_nei, b_lt, b_le, b_gt, b_ge, fn_an0, fn_an1, fn_an4, fn_an5, bc_01, bc_012, bc_015, bc_0145, bc_0147, bc_016, bc_0167, bc_017, bc_03, bc_035, bc_0347, beq_self_eq_true, bne_self_eq_false, Int.reduceBEq, Int.reduceBNe, Int.reduceLT, Int.reduceLE, Int.reduceGT, decide_true, decide_false, eqB_self, la_cons, la_nil, b_plus, t0, t1, t5, t6, up, ew])
        refine ih (n - 1) _ _ (by omega) ⟨i + 1, M', erN a K, stB a false Hv, by omega, by omega, hF', fun j hj => ?_, by simp only [rB, rP, rQ, boolA, intA, resultA, resA, reduceIte, reduceCtorEq, Nat.reduceAdd, Nat.reduceLT, Nat.reduceEqDiff, UInt8.reduceToNat, t0], by simp only [rB, rP, rQ, boolA, intA, resultA, resA, reduceIte, reduceCtorEq, Nat.reduceAdd, Nat.reduceLT, Nat.reduceEqDiff, UInt8.reduceToNat, t1], by simp only [rB, rP, rQ, boolA, intA, resultA, resA, reduceIte, reduceCtorEq, Nat.reduceAdd, Nat.reduceLT, Nat.reduceEqDiff, UInt8.reduceToNat, t5], by simp only [rB, rP, rQ, boolA, intA, resultA, resA, reduceIte, reduceCtorEq, Nat.reduceAdd, Nat.reduceLT, Nat.reduceEqDiff, UInt8.reduceToNat], WL.set hW hne0 (by omega) _⟩
        rw [lkB_st, lk_er hF.nod, hH j hj]
        by_cases hja : j = a <;> simp [hja]
      · have g3 : (((d : Int) == 0) : Bool) = false := by rw [beq_eq_false_iff_ne]; omega
        obtain ⟨M', e, hF'⟩ := hF.rn ha hb hl
        have e := (r_to3 hF ha hb).trans e
        repeat (first | with_reducible (refine w_one H ?_; constructor) | simp only [rB, rP, rQ, boolA, intA, resultA, resA, reduceIte, reduceCtorEq, Nat.reduceAdd, Nat.reduceLT, Nat.reduceEqDiff, UInt8.reduceToNat, pe4, pf4, b_eqi, b_nei, b_lt, b_le, b_gt, b_ge, fn_an0, fn_an1, fn_an4, fn_an5, bc_01, bc_012, bc_015, bc_0145, bc_0147, bc_016, bc_0167, bc_017, bc_03, bc_035, bc_0347, beq_self_eq_true, bne_self_eq_false, Int.reduceBEq, Int.reduceBNe, Int.reduceLT, Int.reduceLE, Int.reduceGT, decide_true, decide_false, eqB_self, la_cons, la_nil, b_plus, t0, t1, t5, t6, pl, pi, g0, g9, ix, go, hz, ld_3, o_cvt, toU_int, b_rem, eqS_rem, rm_eq m9, rm_eq m3, u64_int, remA_int, eu, r9, r3, i64_int, o_cvi, toI_int, wa, c_dec da, fa, lk, gm, g3, b_quo, eqS_quo, qu_eq m9, quA_int, q9, rq, wb, c_dec db, fb])
        refine lface_c hW e ?_
        intro s1 V hW hl1 hV
        have gm := hW.get0
        have up := up_hv (i := a) (b := false) gm
        have up2 : mapUpdateA TE { h := s1.h.set s.nx (.map (hvA (stB a false Hv))), nx := s1.nx } 90 (.map s.nx) (.str (nmN b)) (.raw (.bool true)) = some { h := (s1.h.set s.nx (.map (hvA (stB a false Hv)))).set s.nx (.map (hvA (stB b true (stB a false Hv)))), nx := s1.nx } := up_hv hs_same
        repeat (first | with_reducible (refine w_one H ?_; constructor) | simp only [rB, rP, rQ, boolA, intA, resultA, resA, reduceIte, reduceCtorEq, Nat.reduceAdd, Nat.reduceLT, Nat.reduceEqDiff, UInt8.reduceToNat, pe4, pf4, b_eqi, b_nei, b_lt, b_le, b_gt, b_ge, fn_an0, fn_an1, fn_an4, fn_an5, bc_01, bc_012, bc_015, bc_0145, bc_0147, bc_016, bc_0167, bc_017, bc_03, bc_035, bc_0347, beq_self_eq_true, bne_self_eq_false, Int.reduceBEq, Int.reduceBNe, Int.reduceLT, Int.reduceLE, Int.reduceGT, decide_true, decide_false, eqB_self, la_cons, la_nil, b_plus, t0, t1, t5, t6, up, up2, ew, show an0.status = 0 from rfl])
        refine ih (n - 1) _ _ (by omega) ⟨i + 1, M', _, stB b true (stB a false Hv), by omega, by omega, hF', fun j hj => ?_, by simp only [rB, rP, rQ, boolA, intA, resultA, resA, reduceIte, reduceCtorEq, Nat.reduceAdd, Nat.reduceLT, Nat.reduceEqDiff, UInt8.reduceToNat, t0], by simp only [rB, rP, rQ, boolA, intA, resultA, resA, reduceIte, reduceCtorEq, Nat.reduceAdd, Nat.reduceLT, Nat.reduceEqDiff, UInt8.reduceToNat, t1], by simp only [rB, rP, rQ, boolA, intA, resultA, resA, reduceIte, reduceCtorEq, Nat.reduceAdd, Nat.reduceLT, Nat.reduceEqDiff, UInt8.reduceToNat, t5], by simp only [rB, rP, rQ, boolA, intA, resultA, resA, reduceIte, reduceCtorEq, Nat.reduceAdd, Nat.reduceLT, Nat.reduceEqDiff, UInt8.reduceToNat], WL.set (WL.set hW hne0 (by omega) _) hne0 (by omega) _⟩
        rw [lkB_st, lkB_st, hH j hj]
        by_cases hab : a = b
        · subst hab
          rw [Nat.beq_refl, cond_true]
          by_cases hja : j = a
          · rw [hja, hl]; simp
          · simp [hja]
        · have hnb : Nat.beq a b = false := by rw [beqN, decide_eq_false hab]
          rw [hnb, cond_false, lk_pu, lk_er hF.nod]
          by_cases hja : j = b
          · simp [hja]
          · by_cases hja2 : j = a <;> simp [hja, hja2, hab]
  · obtain ⟨Me, ee⟩ := hF.ls
    have ee := (r_to4 hF).trans ee
    have hsel : selN (fun i => decide (i ∈ keysN K)) 0 9 = selN (fun i => lkB i Hv) 0 9 := by
      refine sel_ext fun j _ hj => ?_
      rw [hH j (by omega)]
      by_cases hm : j ∈ keysN K
      · rw [decide_eq_true hm]
        cases hl : lkN j K with
        | none => exact absurd hm (lk_none.mp hl)
        | some _ => rfl
      · rw [decide_eq_false hm, lk_none.mpr hm]
        rfl
    have hcond : decide ((i : Int) < (zs.length : Int)) = false ∨ (decide ((i : Int) < (zs.length : Int)) = true ∧ decide ((i : Int) < 20) = false) := by
      rw [decide_eq_false_iff_not, decide_eq_true_eq, decide_eq_false_iff_not]
      omega
    clear ih
    rcases hcond with g0 | ⟨g0, g9⟩
    · repeat (first | with_reducible (refine w_one H ?_; constructor) | simp only [rB, rP, rQ, boolA, intA, resultA, resA, reduceIte, reduceCtorEq, Nat.reduceAdd, Nat.reduceLT, Nat.reduceEqDiff, UInt8.reduceToNat, pe4, pf4, b_eqi, b_nei, b_lt, b_le, b_gt, b_ge, fn_an0, fn_an1, fn_an4, fn_an5, bc_01, bc_012, bc_015, bc_0145, bc_0147, bc_016, bc_0167, bc_017, bc_03, bc_035, bc_0347, beq_self_eq_true, bne_self_eq_false, Int.reduceBEq, Int.reduceBNe, Int.reduceLT, Int.reduceLE, Int.reduceGT, decide_true, decide_false, eqB_self, la_cons, la_nil, b_plus, t0, t1, t5, t6, pl, pi, g0])
      refine w_loop_ind H (fun n t s' => ∃ (j : Nat) (W : AV) (L : List (Nat × AO)), n + j = 9 ∧ tg t 0 = .fn 62 [.ptr 14 0] ∧ tg t 5 = .map s.nx ∧ tg t 10 = W ∧ tg t 11 = .raw (.int .i64 (j : Int)) ∧ Wl W (selN (fun i => lkB i Hv) 0 j) ((s.nx, .map (hvA Hv)) :: L0) L ∧ WL s' M L) (n := 9)
        ⟨0, .raw (.slice none 0 0), _, rfl, by simp only [rB, rP, rQ, boolA, intA, resultA, resA, reduceIte, reduceCtorEq, Nat.reduceAdd, Nat.reduceLT, Nat.reduceEqDiff, UInt8.reduceToNat, t0], by simp only [rB, rP, rQ, boolA, intA, resultA, resA, reduceIte, reduceCtorEq, Nat.reduceAdd, Nat.reduceLT, Nat.reduceEqDiff, UInt8.reduceToNat, t5], by simp only [rB, rP, rQ, boolA, intA, resultA, resA, reduceIte, reduceCtorEq, Nat.reduceAdd, Nat.reduceLT, Nat.reduceEqDiff, UInt8.reduceToNat], by simp only [rB, rP, rQ, boolA, intA, resultA, resA, reduceIte, reduceCtorEq, Nat.reduceAdd, Nat.reduceLT, Nat.reduceEqDiff, UInt8.reduceToNat]; rfl, Or.inl ⟨rfl, rfl, rfl⟩, hW⟩ ?_
      rintro n t s' ih ⟨j, W, L, hn, t0, t5, t10, t11, hWl, hW⟩
      have gm : s'.h.get s.nx = some (.map (hvA Hv)) := hW.get (q := (s.nx, AO.map (hvA Hv))) (hWl.mem (List.mem_cons_self ..))
      cases n with
      | succ n =>
        have hj : j < 9 := by omega
        have g1 : decide ((j : Int) < 9) = true := by rw [decide_eq_true_eq]; omega
        have ew : IntKind.i64.wrap ((j : Int) + 1) = ((j + 1 : Nat) : Int) := by
          rw [show (j : Int) + 1 = ((j + 1 : Nat) : Int) from by simp]
          exact wrap_nat (by omega)
        have dj : Nat.blt j 256 = true := Nat.blt_eq.mpr (by omega)
        have fj := dec_nm hj
        have lk := lk_hv (i := j) gm
        have hsn := sel_snoc (p := fun i => lkB i Hv) (n := j) (a := 0)
        simp only [Nat.zero_add] at hsn
        cases hb : lkB j Hv with
        | true =>
          rw [hb] at lk
          obtain ⟨W', s4, L', ap, hWl', hW4⟩ := hWl.app (Nat.le_trans sel_len (by omega)) hW (nmN j)
          rw [hb, cond_true] at hsn
          rw [← hsn] at hWl'
          repeat (first | with_reducible (refine w_one H ?_; constructor) | simp only [rB, rP, rQ, boolA, intA, resultA, resA, reduceIte, reduceCtorEq, Nat.reduceAdd, Nat.reduceLT, Nat.reduceEqDiff, UInt8.reduceToNat, pe4, pf4, b_eqi, b_nei, b_lt, b_le, b_gt, b_ge, fn_an0, fn_an1, fn_an4, fn_an5, bc_01, bc_012, bc_015, bc_0145, bc_0147, bc_016, bc_0167, bc_017, bc_03, bc_035, bc_0347, beq_self_eq_true, bne_self_eq_false, Int.reduceBEq, Int.reduceBNe, Int.reduceLT, Int.reduceLE, Int.reduceGT, decide_true, decide_false, eqB_self, la_cons, la_nil, b_plus, t0, t5, t10, t11, g1, c_dec dj, fj, lk, gm, bs_1, ap, ew])
          exact ih n _ _ (by omega) ⟨j + 1, W', L', by omega, by simp only [rB, rP, rQ, boolA, intA, resultA, resA, reduceIte, reduceCtorEq, Nat.reduceAdd, Nat.reduceLT, Nat.reduceEqDiff, UInt8.reduceToNat, t0], by simp only [rB, rP, rQ, boolA, intA, resultA, resA, reduceIte, reduceCtorEq, Nat.reduceAdd, Nat.reduceLT, Nat.reduceEqDiff, UInt8.reduceToNat, t5], by simp only [rB, rP, rQ, boolA, intA, resultA, resA, reduceIte, reduceCtorEq, Nat.reduceAdd, Nat.reduceLT, Nat.reduceEqDiff, UInt8.reduceToNat], by simp only [rB, rP, rQ, boolA, intA, resultA, resA, reduceIte, reduceCtorEq, Nat.reduceAdd, Nat.reduceLT, Nat.reduceEqDiff, UInt8.reduceToNat], hWl', hW4⟩
        | false =>
          rw [hb] at lk
          rw [hb, cond_false, List.append_nil] at hsn
          rw [← hsn] at hWl
          repeat (first | with_reducible (refine w_one H ?_; constructor) | simp only [rB, rP, rQ, boolA, intA, resultA, resA, reduceIte, reduceCtorEq, Nat.reduceAdd, Nat.reduceLT, Nat.reduceEqDiff, UInt8.reduceToNat, pe4, pf4, b_eqi, b_nei, b_lt, b_le, b_gt, b_ge, fn_an0, fn_an1, fn_an4, fn_an5, bc_01, bc_012, bc_015, bc_0145, bc_0147, bc_016, bc_0167, bc_017, bc_03, bc_035, bc_0347, beq_self_eq_true, bne_self_eq_false, Int.reduceBEq, Int.reduceBNe, Int.reduceLT, Int.reduceLE, Int.reduceGT, decide_true, decide_false, eqB_self, la_cons, la_nil, b_plus, t0, t5, t10, t11, g1, c_dec dj, fj, lk, gm, ew])
          exact ih n _ _ (by omega) ⟨j + 1, W, L, by omega, by simp only [rB, rP, rQ, boolA, intA, resultA, resA, reduceIte, reduceCtorEq, Nat.reduceAdd, Nat.reduceLT, Nat.reduceEqDiff, UInt8.reduceToNat, t0], by simp only [rB, rP, rQ, boolA, intA, resultA, resA, reduceIte, reduceCtorEq, Nat.reduceAdd, Nat.reduceLT, Nat.reduceEqDiff, UInt8.reduceToNat, t5], by simp only [rB, rP, rQ, boolA, intA, resultA, resA, reduceIte, reduceCtorEq, Nat.reduceAdd, Nat.reduceLT, Nat.reduceEqDiff, UInt8.reduceToNat, t10], by simp only [rB, rP, rQ, boolA, intA, resultA, resA, reduceIte, reduceCtorEq, Nat.reduceAdd, Nat.reduceLT, Nat.reduceEqDiff, UInt8.reduceToNat], hWl, hW⟩
      | zero =>
        have hj : j = 9 := by omega
        subst hj
        have g1 : decide (((9 : Nat) : Int) < 9) = false := rfl
        repeat (first | with_reducible (refine w_one H ?_; constructor) | simp only [rB, rP, rQ, boolA, intA, resultA, resA, reduceIte, reduceCtorEq, Nat.reduceAdd, Nat.reduceLT, Nat.reduceEqDiff, UInt8.reduceToNat, pe4, pf4, b_eqi, b_nei, b_lt, b_le, b_gt, b_ge, fn_an0, fn_an1, fn_an4, fn_an5, bc_01, bc_012, bc_015, bc_0145, bc_0147, bc_016, bc_0167, bc_017, bc_03, bc_035, bc_0347, beq_self_eq_true, bne_self_eq_false, Int.reduceBEq, Int.reduceBNe, Int.reduceLT, Int.reduceLE, Int.reduceGT, decide_true, decide_false, eqB_self, la_cons, la_nil, b_plus, t0, t5, t10, t11, g1])
        refine lnames_c ok3 hW ee (ns := selN (fun i => decide (i ∈ keysN K)) 0 9) rfl ?_
        intro s1 V hW hl hV
        rw [hsel] at hV
        repeat (first | with_reducible (refine w_one H ?_; constructor) | simp only [rB, rP, rQ, boolA, intA, resultA, resA, reduceIte, reduceCtorEq, Nat.reduceAdd, Nat.reduceLT, Nat.reduceEqDiff, UInt8.reduceToNat, pe4, pf4, b_eqi, b_nei, b_lt, b_le, b_gt, b_ge, fn_an0, fn_an1, fn_an4, fn_an5, bc_01, bc_012, bc_015, bc_0145, bc_0147, bc_016, bc_0167, bc_017, bc_03, bc_035, bc_0347, beq_self_eq_true, bne_self_eq_false, Int.reduceBEq, Int.reduceBNe, Int.reduceLT, Int.reduceLE, Int.reduceGT, decide_true, decide_false, eqB_self, la_cons, la_nil, b_plus, t0, t5, t10, t11])
        refine same_c hV (hWl.slv hW) (Nat.le_trans sel_len (by decide)) ?_
        repeat (first | with_reducible (refine w_one H ?_; constructor) | simp only [rB, rP, rQ, boolA, intA, resultA, resA, reduceIte, reduceCtorEq, Nat.reduceAdd, Nat.reduceLT, Nat.reduceEqDiff, UInt8.reduceToNat, pe4, pf4, b_eqi, b_nei, b_lt, b_le, b_gt, b_ge, fn_an0, fn_an1, fn_an4, fn_an5, bc_01, bc_012, bc_015, bc_0145, bc_0147, bc_016, bc_0167, bc_017, bc_03, bc_035, bc_0347, beq_self_eq_true, bne_self_eq_false, Int.reduceBEq, Int.reduceBNe, Int.reduceLT, Int.reduceLE, Int.reduceGT, decide_true, decide_false, eqB_self, la_cons, la_nil, b_plus, t0, t5, t10, t11, Tryz.results46])
        rfl
    · repeat (first | with_reducible (refine w_one H ?_; constructor) | simp only [rB, rP, rQ, boolA, intA, resultA, resA, reduceIte, reduceCtorEq, Nat.reduceAdd, Nat.reduceLT, Nat.reduceEqDiff, UInt8.reduceToNat, pe4, pf4, b_eqi, b_nei, b_lt, b_le, b_gt, b_ge, fn_an0, fn_an1, fn_an4, fn_an5, bc_01, bc_012, bc_015, bc_0145, bc_0147, bc_016, bc_0167, bc_017, bc_03, bc_035, bc_0347, beq_self_eq_true, bne_self_eq_false, Int.reduceBEq, Int.reduceBNe, Int.reduceLT, Int.reduceLE, Int.reduceGT, decide_true, decide_false, eqB_self, la_cons, la_nil, b_plus, t0, t1, t5, t6, pl, pi, g0, g9])
      refine w_loop_ind H (fun n t s' => ∃ (j : Nat) (W : AV) (L : List (Nat × AO)), n + j = 9 ∧ tg t 0 = .fn 62 [.ptr 14 0] ∧ tg t 5 = .map s.nx ∧ tg t 10 = W ∧ tg t 11 = .raw (.int .i64 (j : Int)) ∧ Wl W (selN (fun i => lkB i Hv) 0 j) ((s.nx, .map (hvA Hv)) :: L0) L ∧ WL s' M L) (n := 9)
        ⟨0, .raw (.slice none 0 0), _, rfl, by simp only [rB, rP, rQ, boolA, intA, resultA, resA, reduceIte, reduceCtorEq, Nat.reduceAdd, Nat.reduceLT, Nat.reduceEqDiff, UInt8.reduceToNat, t0], by simp only [rB, rP, rQ, boolA, intA, resultA, resA, reduceIte, reduceCtorEq, Nat.reduceAdd, Nat.reduceLT, Nat.reduceEqDiff, UInt8.reduceToNat, t5], by simp only [rB, rP, rQ, boolA, intA, resultA, resA, reduceIte, reduceCtorEq, Nat.reduceAdd, Nat.reduceLT, Nat.reduceEqDiff, UInt8.reduceToNat], by simp only [rB, rP, rQ, boolA, intA, resultA, resA, reduceIte, reduceCtorEq, Nat.reduceAdd, Nat.reduceLT, Nat.reduceEqDiff, UInt8.reduceToNat]; rfl, Or.inl ⟨rfl, rfl, rfl⟩, hW⟩ ?_
      rintro n t s' ih ⟨j, W, L, hn, t0, t5, t10, t11, hWl, hW⟩
      have gm : s'.h.get s.nx = some (.map (hvA Hv)) := hW.get (q := (s.nx, AO.map (hvA Hv))) (hWl.mem (List.mem_cons_self ..))
      cases n with
      | succ n =>
        have hj : j < 9 := by omega
        have g1 : decide ((j : Int) < 9) = true := by rw [decide_eq_true_eq]; omega
        have ew : IntKind.i64.wrap ((j : Int) + 1) = ((j + 1 : Nat) : Int) := by
          rw [show (j : Int) + 1 = ((j + 1 : Nat) : Int) from by simp]
          exact wrap_nat (by omega)
        have dj : Nat.blt j 256 = true := Nat.blt_eq.mpr (by omega)
        have fj := dec_nm hj
        have lk := lk_hv (i := j) gm
        have hsn := sel_snoc (p := fun i => lkB i Hv) (n := j) (a := 0)
        simp only [Nat.zero_add] at hsn
        cases hb : lkB j Hv with
        | true =>
          rw [hb] at lk
          obtain ⟨W', s4, L', ap, hWl', hW4⟩ := hWl.app (Nat.le_trans sel_len (by omega)) hW (nmN j)
          rw [hb, cond_true] at hsn
          rw [← hsn] at hWl'
          repeat (first | with_reducible (refine w_one H ?_; constructor) | simp only [rB, rP, rQ, boolA, intA, resultA, resA, reduceIte, reduceCtorEq, Nat.reduceAdd, Nat.reduceLT, Nat.reduceEqDiff, UInt8.reduceToNat, pe4, pf4, b_eqi, b_nei, b_lt, b_le, b_gt, b_ge, fn_an0, fn_an1, fn_an4, fn_an5, bc_01, bc_012, bc_015, bc_0145, bc_0147, bc_016, bc_0167, bc_017, bc_03, bc_035, bc_0347, beq_self_eq_true, bne_self_eq_false, Int.reduceBEq, Int.reduceBNe, Int.reduceLT, Int.reduceLE, Int.reduceGT, decide_true, decide_false, eqB_self, la_cons, la_nil, b_plus, t0, t5, t10, t11, g1, c_dec dj, fj, lk, gm, bs_1, ap, ew])
          exact ih n _ _ (by omega) ⟨j + 1, W', L', by omega, by simp only [rB, rP, rQ, boolA, intA, resultA, resA, reduceIte, reduceCtorEq, Nat.reduceAdd, Nat.reduceLT, Nat.reduceEqDiff, UInt8.reduceToNat, t0], by simp only [rB, rP, rQ, boolA, intA, resultA, resA, reduceIte, reduceCtorEq, Nat.reduceAdd, Nat.reduceLT, Nat.reduceEqDiff, UInt8.reduceToNat, t5], by simp only [rB, rP, rQ, boolA, intA, resultA, resA, reduceIte, reduceCtorEq, Nat.reduceAdd, Nat.reduceLT, Nat.reduceEqDiff, UInt8.reduceToNat], by simp only [rB, rP, rQ, boolA, intA, resultA, resA, reduceIte, reduceCtorEq, Nat.reduceAdd, Nat.reduceLT, Nat.reduceEqDiff, UInt8.reduceToNat], hWl', hW4⟩
        | false =>
          rw [hb] at lk
          rw [hb, cond_false, List.append_nil] at hsn
          rw [← hsn] at hWl
          repeat (first | with_reducible (refine w_one H ?_; constructor) | simp only [rB, rP, rQ, boolA, intA, resultA, resA, reduceIte, reduceCtorEq, Nat.reduceAdd, Nat.reduceLT, Nat.reduceEqDiff, UInt8.reduceToNat, pe4, pf4, b_eqi, b_nei, b_lt, b_le, b_gt, b_ge, fn_an0, fn_an1, fn_an4, fn_an5, bc_01, bc_012, bc_015, bc_0145, bc_0147, bc_016, bc_0167, bc_017, bc_03, bc_035, bc_0347, beq_self_eq_true, bne_self_eq_false, Int.reduceBEq, Int.reduceBNe, Int.reduceLT, Int.reduceLE, Int.reduceGT, decide_true, decide_false, eqB_self, la_cons, la_nil, b_plus, t0, t5, t10, t11, g1, c_dec dj, fj, lk, gm, ew])
          exact ih n _ _ (by omega) ⟨j + 1, W, L, by omega, by simp only [rB, rP, rQ, boolA, intA, resultA, resA, reduceIte, reduceCtorEq, Nat.reduceAdd, Nat.reduceLT, Nat.reduceEqDiff, UInt8.reduceToNat, t0], by simp only [rB, rP, rQ, boolA, intA, resultA, resA, reduceIte, reduceCtorEq, Nat.reduceAdd, Nat.reduceLT, Nat.reduceEqDiff, UInt8.reduceToNat, t5], by simp only [rB, rP, rQ, boolA, intA, resultA, resA, reduceIte, reduceCtorEq, Nat.reduceAdd, Nat.reduceLT, Nat.reduceEqDiff, UInt8.reduceToNat, t10], by simp only [rB, rP, rQ, boolA, intA, resultA, resA, reduceIte, reduceCtorEq, Nat.reduceAdd, Nat.reduceLT, Nat.reduceEqDiff, UInt8.reduceToNat], hWl, hW⟩
      | zero =>
        have hj : j = 9 := by omega
        subst hj
        have g1 : decide (((9 : Nat) : Int) < 9) = false := rfl
        repeat (first | with_reducible (refine w_one H ?_; constructor) | simp only [rB, rP, rQ, boolA, intA, resultA, resA, reduceIte, reduceCtorEq, Nat.reduceAdd, Nat.reduceLT, Nat.reduceEqDiff, UInt8.reduceToNat, pe4, pf4, b_eqi, b_nei, b_lt, b_le, b_gt, b_ge, fn_an0, fn_an1, fn_an4, fn_an5, bc_01, bc_012, bc_015, bc_0145, bc_0147, bc_016, bc_0167, bc_017, bc_03, bc_035, bc_0347, beq_self_eq_true, bne_self_eq_false, Int.reduceBEq, Int.reduceBNe, Int.reduceLT, Int.reduceLE, Int.reduceGT, decide_true, decide_false, eqB_self, la_cons, la_nil, b_plus, t0, t5, t10, t11, g1])
        refine lnames_c ok3 hW ee (ns := selN (fun i => decide (i ∈ keysN K)) 0 9) rfl ?_
        intro s1 V hW hl hV
        rw [hsel] at hV
        repeat (first | with_reducible (refine w_one H ?_; constructor) | simp only [rB, rP, rQ, boolA, intA, resultA, resA, reduceIte, reduceCtorEq, Nat.reduceAdd, Nat.reduceLT, Nat.reduceEqDiff, UInt8.reduceToNat, pe4, pf4, b_eqi, b_nei, b_lt, b_le, b_gt, b_ge, fn_an0, fn_an1, fn_an4, fn_an5, bc_01, bc_012, bc_015, bc_0145, bc_0147, bc_016, bc_0167, bc_017, bc_03, bc_035, bc_0347, beq_self_eq_true, bne_self_eq_false, Int.reduceBEq, Int.reduceBNe, Int.reduceLT, Int.reduceLE, Int.reduceGT, decide_true, decide_false, eqB_self, la_cons, la_nil, b_plus, t0, t5, t10, t11])
        refine same_c hV (hWl.slv hW) (Nat.le_trans sel_len (by decide)) ?_
        repeat (first | with_reducible (refine w_one H ?_; constructor) | simp only [rB, rP, rQ, boolA, intA, resultA, resA, reduceIte, reduceCtorEq, Nat.reduceAdd, Nat.reduceLT, Nat.reduceEqDiff, UInt8.reduceToNat, pe4, pf4, b_eqi, b_nei, b_lt, b_le, b_gt, b_ge, fn_an0, fn_an1, fn_an4, fn_an5, bc_01, bc_012, bc_015, bc_0145, bc_0147, bc_016, bc_0167, bc_017, bc_03, bc_035, bc_0347, beq_self_eq_true, bne_self_eq_false, Int.reduceBEq, Int.reduceBNe, Int.reduceLT, Int.reduceLE, Int.reduceGT, decide_true, decide_false, eqB_self, la_cons, la_nil, b_plus, t0, t5, t10, t11, Tryz.results46])
        rfl
end Go.AX
-- handed
namespace Go.AX
open Go.Proofs Go.RowKit
set_option maxRecDepth 1000000
set_option linter.unusedSimpArgs false
set_option linter.unusedVariables false
theorem rows_from {h0 : Tr AO} {PV : AV} {zs : List Int} {L0 : List (Nat × AO)} (hP : Pks PV zs L0) (hd : Hd h0 L0) :
    (sem Tryz.prog).call 19 [PV] (stI h0) (fun v _ => isTrue v) (fun _ _ => false) = true := by
  have H := ok3
  refine w_call H 9 fn_19 rfl rfl ?_
  repeat (first | with_reducible (refine w_one H ?_; constructor) | simp only [rB, rP, rQ, boolA, intA, resultA, resA, reduceIte, reduceCtorEq, Nat.reduceAdd, Nat.reduceLT, Nat.reduceEqDiff, UInt8.reduceToNat, pe3, pf3, c_awake, Tryz.results19] | (with_reducible refine faceIW_c hd ?_; intro s hW) | (with_reducible refine call_true (rows_c hP flat_0 hW) (fun s' => ?_)))
  rfl
theorem rowsWalk0 (w : Go.World) : Calls Tryz.prog 19 #[.slice none 0 0] w fun e w' => e = .returned (.bool true) ∧ Below w.heap.size w w' :=
  sem_from (args := [.raw (.slice none 0 0)]) (Args := [.slice none 0 0]) (s := stI .e) (simN w) (VRels.cons (by simp [VRel]) VRels.nil) (rows_from pks_nil (Or.inl ⟨rfl, rfl⟩))
theorem rowsWalkE {a : Go.Addr} {cap : Nat} (w : Go.World) : Calls Tryz.prog 19 #[.slice (some a) 0 cap] w fun e w' => e = .returned (.bool true) ∧ Below w.heap.size w w' :=
  sem_from (args := [.raw (.slice (some a) 0 cap)]) (Args := [.slice (some a) 0 cap]) (s := stI .e) (simN w) (VRels.cons (by simp [VRel]) VRels.nil) (rows_from pks_empty (Or.inl ⟨rfl, rfl⟩))
theorem rowsWalk {w : Go.World} {b off len cap : Nat} {C : Array Value} {el : TypeId} {fz : Nat × Nat} {zs : List Int} (hO : w.heap[b]? = some (.cells C el fz)) (hc : ∀ i z, zs[i]? = some z → C[off + i]? = some (.int .i64 z)) (hl : zs.length = len) (hcap : len ≤ cap) :
    Calls Tryz.prog 19 #[.slice (some ⟨b, off, none⟩) len cap] w fun e w' => e = .returned (.bool true) ∧ Below w.heap.size w w' := by
  subst hl
  refine sem_from (args := [.slice 0 0 zs.length 0 cap true]) (Args := [.slice (some ⟨b, off, none⟩) zs.length cap]) (s := stI (Tr.e.set 0 (.old ((zs.map (Value.int .i64)).map .raw)))) (simI (K := 0) (off := off) (vs := zs.map (Value.int .i64)) hO (fun i v hv => ?_)) (VRels.cons ?_ VRels.nil) (rows_from pks_row (Or.inr ⟨_, rfl, ?_⟩))
  · rw [List.getElem?_map, Option.map_eq_some_iff] at hv
    obtain ⟨z, hz, rfl⟩ := hv
    exact hc i z hz
  · simp only [VRel]
    exact ⟨(b, off, 0), by simp, rfl, hcap, fun h => (by cases h)⟩
  · rw [List.map_map]
    rfl
end Go.AX
