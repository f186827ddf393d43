import Derived.Test.YtliabkjjnkemlaaGreatSRA
import Derived.Test.YtliabkjjnkemlaaGreatSPL
set_option linter.unusedVariables false
set_option linter.unusedSimpArgs false
set_option linter.defProp false
namespace Go.AX
open Go.Proofs Go.RowKit
set_option maxRecDepth 1000000
set_option maxHeartbeats 4000000
set_option linter.unusedSimpArgs false
set_option linter.unusedVariables false
theorem badR_any : ∀ {b : List Nat} {x : Bool}, badR b x = (x || anyB [47, 0] b)
  | [], x => by cases x <;> rfl
  | c :: l, x => by
    simp only [badR]
    rw [badR_any]
    cases x with
    | true => simp
    | false =>
      simp only [cond_false, Bool.false_or, anyB, memB]
      cases Nat.beq c 47 <;> cases Nat.beq c 0 <;> simp
theorem nameR_good {b : List Nat} : (nameR b != 0) = false ↔ Good b := by
  unfold nameR Good badB
  rw [badR_any]
  by_cases h0 : b = []
  · subst h0; simp [eqB]
  · rw [eqB_of h0, cond_false]
    have e16 : decide ((b.length : Int) > 16) = Nat.blt 16 b.length := by
      cases h : Nat.blt 16 b.length with
      | true => rw [decide_eq_true_eq]; have := Nat.blt_eq.mp h; omega
      | false => rw [decide_eq_false_iff_not]; intro hh; have : Nat.blt 16 b.length = true := Nat.blt_eq.mpr (by omega); rw [this] at h; cases h
    rw [e16]
    cases eqB b [46] <;> cases eqB b [46, 46] <;> cases Nat.blt 16 b.length <;> cases anyB [47, 0] b <;> simp [h0]
theorem allR_iff : ∀ {l : List (List Nat)}, allR l = true ↔ ∀ p ∈ l, Good p
  | [] => by simp [allR]
  | p :: l => by
    simp only [allR, List.mem_cons, forall_eq_or_imp]
    cases h : nameR p != 0 with
    | true =>
      have : ¬ Good p := fun g => by rw [nameR_good.2 g] at h; cases h
      simp [this]
    | false =>
      have := nameR_good.1 h
      simp [this, allR_iff (l := l)]
theorem clean_iff {p : List Nat} (hp : p ≠ []) : isCleanR p = pathE p := by
  have key : isCleanR p = true ↔ pathE p = true := by
    rw [pathE_iff]
    unfold isCleanR
    have hpp : partsL p = pieces p := partsL_ne hp
    constructor
    · intro h
      cases h1 : decide (((partsL p).length : Int) > 8) with
      | true => rw [h1] at h; cases h
      | false =>
        rw [h1, cond_false] at h
        cases h2 : decide ((p.length : Int) > 140) with
        | true => rw [h2] at h; cases h
        | false =>
          rw [h2, cond_false, allR_iff] at h
          simp only [decide_eq_false_iff_not] at h1 h2
          refine ⟨partsL p, by rw [hpp]; exact pieces_ne p, by rw [hpp]; exact join_pieces.symm, h, by omega, by omega⟩
    · rintro ⟨ps, h1, h2, h3, h4, h5⟩
      have e : partsL p = ps := by rw [h2]; exact partsL_join h3
      have d1 : decide ((ps.length : Int) > 8) = false := by rw [decide_eq_false_iff_not]; omega
      have d2 : decide ((p.length : Int) > 140) = false := by rw [decide_eq_false_iff_not]; omega
      rw [e, d1, d2]
      exact allR_iff.2 h3
  cases h : pathE p with
  | true => exact key.2 h
  | false =>
    cases h2 : isCleanR p with
    | false => rfl
    | true => rw [key.1 h2] at h; cases h
def mayR (e : En) : Bool := bif eqB e.1 [] then false else bif isCleanR e.1 then restE e else false
theorem mayR_eq {e : En} : mayR e = mayE e := by
  unfold mayR mayE
  by_cases h : e.1 = []
  · rw [h]
    have : pathE [] = false := by
      cases h2 : pathE [] with
      | false => rfl
      | true =>
        obtain ⟨ps, h1, h2, h3, _⟩ := pathE_iff.1 h2
        exact absurd ((joinL_nil h3).1 h2.symm) h1
    rw [this]
    rfl
  · rw [eqB_of h, cond_false, clean_iff h]
theorem less_tail {X Y : List Nat} : ∀ {p q : List Nat}, 47 ∉ p → 47 ∉ q → (X = [] ∨ ∃ x, X = 47 :: x) → (Y = [] ∨ ∃ y, Y = 47 :: y) → p ≠ q → lessR (p ++ X) (q ++ Y) = ltB p q
  | [], [], _, _, _, _, h => absurd rfl h
  | [], c :: q, _, hq, hX, hY, _ => by
    have hc : c ≠ 47 := fun e => hq (by rw [e]; simp)
    rcases hX with rfl | ⟨x, rfl⟩
    · show decide (((0 : Nat) : Int) < ((c :: q ++ Y).length : Int)) = true
      rw [decide_eq_true_eq]
      simp
      omega
    · have h1 : Nat.beq 47 c = false := beq_ne (Ne.symm hc)
      have h2 : Nat.beq 47 47 = true := rfl
      simp only [List.nil_append, List.cons_append, lessR, h1, h2, cond_false, cond_true, ltB]
  | a :: p, [], hp, _, hX, hY, _ => by
    have ha : a ≠ 47 := fun e => hp (by rw [e]; simp)
    rcases hY with rfl | ⟨y, rfl⟩
    · rfl
    · have h1 : Nat.beq a 47 = false := beq_ne ha
      have h2 : Nat.beq 47 47 = true := rfl
      simp only [List.nil_append, List.cons_append, lessR, h1, h2, cond_false, cond_true, ltB]
  | a :: p, b :: q, hp, hq, hX, hY, h => by
    have ha : a ≠ 47 := fun e => hp (by rw [e]; simp)
    have hb : b ≠ 47 := fun e => hq (by rw [e]; simp)
    simp only [List.cons_append, lessR, ltB]
    by_cases e : a = b
    · subst e
      have h1 : Nat.blt a a = false := by rw [← Bool.not_eq_true, Nat.blt_eq]; omega
      rw [Nat.beq_refl, h1, cond_true, cond_false, cond_true]
      exact less_tail (fun hh => hp (List.mem_cons_of_mem _ hh)) (fun hh => hq (List.mem_cons_of_mem _ hh)) hX hY (fun e => h (by rw [e]))
    · rw [beq_ne e, cond_false, beq_ne ha, cond_false, beq_ne hb, cond_false, cond_false]
      cases h1 : Nat.blt a b with
      | true => rw [cond_true, decide_eq_true_eq]; have := Nat.blt_eq.mp h1; omega
      | false => rw [cond_false, decide_eq_false_iff_not]; intro hh; have : Nat.blt a b = true := Nat.blt_eq.mpr (by omega); rw [this] at h1; cases h1
theorem less_same {X Y : List Nat} : ∀ {p : List Nat}, lessR (p ++ X) (p ++ Y) = lessR X Y
  | [] => rfl
  | a :: p => by
    simp only [List.cons_append, lessR, Nat.beq_refl, cond_true]
    exact less_same
theorem join_head {p : List Nat} {ps : List (List Nat)} : joinL [47] (p :: ps) = p ++ (match ps with | [] => [] | _ :: _ => 47 :: joinL [47] ps) := by
  cases ps with
  | nil => simp [joinL]
  | cons q l => exact joinL_cons (by simp)
theorem less_join : ∀ {ps qs : List (List Nat)}, (∀ p ∈ ps, Good p) → (∀ q ∈ qs, Good q) → (lessR (joinL [47] ps) (joinL [47] qs) = true ↔ LtP ps qs)
  | [], [], _, _ => by simp [joinL, lessR, LtP, cmpL]
  | [], q :: qs, _, hq => by
    have hne : joinL [47] (q :: qs) ≠ [] := fun e => by have := (joinL_nil hq).1 e; cases this
    have : lessR (joinL [47] []) (joinL [47] (q :: qs)) = true := by
      show decide (((0 : Nat) : Int) < ((joinL [47] (q :: qs)).length : Int)) = true
      rw [decide_eq_true_eq]
      have := List.length_pos_iff.mpr hne
      omega
    simp [this, ltP_nil]
  | p :: ps, [], hp, _ => by
    have hne : joinL [47] (p :: ps) ≠ [] := fun e => by have := (joinL_nil hp).1 e; cases this
    have : lessR (joinL [47] (p :: ps)) (joinL [47] []) = false := by
      cases h : joinL [47] (p :: ps) with
      | nil => exact absurd h hne
      | cons a l => rfl
    simp [this, not_ltP_nil]
  | p :: ps, q :: qs, hp, hq => by
    have gp := hp p (by simp)
    have gq := hq q (by simp)
    rw [join_head, join_head, ltP_cons]
    by_cases e : p = q
    · subst e
      rw [less_same]
      have ih := less_join (ps := ps) (qs := qs) (fun x hx => hp x (by simp [hx])) (fun x hx => hq x (by simp [hx]))
      have hir : ltB p p = false := ltB_irrefl
      simp only [hir, Bool.false_eq_true, true_and, false_or]
      cases ps with
      | nil =>
        cases qs with
        | nil => simpa [joinL] using ih
        | cons y l =>
          have h1 : lessR [] (47 :: joinL [47] (y :: l)) = true := by
            show decide (((0 : Nat) : Int) < ((47 :: joinL [47] (y :: l)).length : Int)) = true
            rw [decide_eq_true_eq]; simp
          simp only [h1, ltP_nil]
      | cons x r =>
        cases qs with
        | nil =>
          have h1 : lessR (47 :: joinL [47] (x :: r)) [] = false := rfl
          simp [h1, not_ltP_nil]
        | cons y l =>
          have h1 : lessR (47 :: joinL [47] (x :: r)) (47 :: joinL [47] (y :: l)) = lessR (joinL [47] (x :: r)) (joinL [47] (y :: l)) := rfl
          simp only [h1]
          exact ih
    · rw [less_tail gp.slash gq.slash (by cases ps <;> simp) (by cases qs <;> simp) e]
      simp [e]
theorem less_may {a b : List Nat} (ha : pathE a = true) (hb : pathE b = true) : lessR a b = decide (cmpP a b < 0) := by
  obtain ⟨ps, _, e1, g1, _, _⟩ := pathE_iff.1 ha
  obtain ⟨qs, _, e2, g2, _, _⟩ := pathE_iff.1 hb
  have h := less_join g1 g2
  have : cmpP a b < 0 ↔ LtP ps qs := by
    unfold cmpP LtP
    rw [e1, e2, partsL_join g1, partsL_join g2]
  rw [← e1, ← e2] at h
  cases hl : lessR a b with
  | true => rw [eq_comm, decide_eq_true_eq]; exact this.2 (h.1 hl)
  | false =>
    rw [eq_comm, decide_eq_false_iff_not]
    intro hh
    rw [h.2 (this.1 hh)] at hl
    cases hl
theorem split_snoc {l : List (List Nat)} {nm : List Nat} (h : ∀ p ∈ l, Good p) (hn : Good nm) : splitR (joinL [47] (l ++ [nm])) = (joinL [47] l, nm) := by
  by_cases hl : l = []
  · subst hl
    have e : joinL [47] ([] ++ [nm]) = nm := by simp [joinL]
    rw [e]
    unfold splitR
    rw [lastI_none hn.slash]
    simp [joinL]
  · rw [joinL_snoc hl]
    have e := lastI_app (a := joinL [47] l) (nm := nm) hn.slash (k := nm.length) (Nat.le_refl _)
    have hlen : (joinL [47] l ++ 47 :: nm).length = (joinL [47] l).length + 1 + nm.length := by simp; omega
    unfold splitR
    rw [hlen, e]
    have d : decide (((joinL [47] l).length : Int) ≥ 0) = true := by rw [decide_eq_true_eq]; omega
    rw [d, cond_true]
    simp only [Int.toNat_natCast]
    rw [List.take_left', List.drop_append]
    · simp
    · rfl
end Go.AX
namespace Go.AX
open Go.Proofs Go.RowKit
set_option maxRecDepth 1000000
set_option maxHeartbeats 4000000
set_option linter.unusedSimpArgs false
set_option linter.unusedVariables false
def Srt (l : List (List Nat)) : Prop := l.Pairwise (fun a b => ltB a b = true)
theorem posR_at {nm : List Nat} : ∀ {l : List (List Nat)} {i : Nat}, Srt l → l[i]? = some nm → posR nm l = i
  | [], i, _, h => by simp at h
  | p :: l, 0, _, h => by
    simp at h
    subst h
    have hir : ltB p p = false := ltB_irrefl
    simp only [posR, hir, cond_false]
  | p :: l, i + 1, hs, h => by
    have hm : nm ∈ l := List.mem_of_getElem? (by simpa using h)
    have hlt := (List.pairwise_cons.mp hs).1 nm hm
    have ih := posR_at (List.pairwise_cons.mp hs).2 (i := i) (by simpa using h)
    simp only [posR, hlt, cond_true, ih]
theorem posR_new {nm : List Nat} : ∀ {l : List (List Nat)}, Srt l → nm ∉ l → (∀ p ∈ l.take (posR nm l), ltB p nm = true) ∧ ∀ p ∈ l.drop (posR nm l), ltB nm p = true
  | [], _, _ => by simp [posR]
  | p :: l, hs, hn => by
    obtain ⟨h1, h2⟩ := List.pairwise_cons.mp hs
    simp only [posR]
    cases hlt : ltB p nm with
    | true =>
      obtain ⟨g1, g2⟩ := posR_new h2 (fun h => hn (List.mem_cons_of_mem _ h))
      simp only [cond_true, List.take_succ_cons, List.drop_succ_cons, List.mem_cons, forall_eq_or_imp]
      exact ⟨⟨hlt, g1⟩, g2⟩
    | false =>
      have hne : p ≠ nm := fun e => hn (by rw [e]; simp)
      have hgt := ltB_total hne hlt
      simp only [cond_false, List.take_zero, List.drop_zero, List.mem_cons, forall_eq_or_imp]
      exact ⟨by simp, hgt, fun q hq => ltB_trans hgt (h1 q hq)⟩
theorem srt_ins {nm : List Nat} {l : List (List Nat)} (hs : Srt l) (hn : nm ∉ l) : Srt (insL (posR nm l) nm l) := by
  obtain ⟨h1, h2⟩ := posR_new hs hn
  unfold insL Srt
  rw [List.pairwise_append, List.pairwise_cons]
  have ht : Srt (l.take (posR nm l)) := hs.sublist (List.take_sublist _ _)
  have hd : Srt (l.drop (posR nm l)) := hs.sublist (List.drop_sublist _ _)
  refine ⟨ht, ⟨h2, hd⟩, fun a ha b hb => ?_⟩
  rcases List.mem_cons.mp hb with rfl | hb
  · exact h1 a ha
  · exact ltB_trans (h1 a ha) (h2 b hb)
theorem mem_insL {α : Type} {i : Nat} {x y : α} {l : List α} : y ∈ insL i x l ↔ y = x ∨ y ∈ l := by
  unfold insL
  have : y ∈ l ↔ y ∈ l.take i ∨ y ∈ l.drop i := by
    rw [← List.mem_append, List.take_append_drop]
  rw [List.mem_append, List.mem_cons, this]
  constructor
  · rintro (h | h | h)
    · exact Or.inr (Or.inl h)
    · exact Or.inl h
    · exact Or.inr (Or.inr h)
  · rintro (h | h | h)
    · exact Or.inr (Or.inl h)
    · exact Or.inl h
    · exact Or.inr (Or.inr h)
theorem zip_ins {α β : Type} {i : Nat} {x : α} {y : β} {l : List α} {r : List β} (h : r.length = l.length) : (insL i x l).zip (insL i y r) = insL i (x, y) (l.zip r) := by
  unfold insL
  rw [List.zip_append (by simp [h]), List.zip_cons_cons, List.zip_eq_zipWith, List.zip_eq_zipWith, List.zip_eq_zipWith, List.take_zipWith, List.drop_zipWith]
theorem zip_at {α β : Type} {l : List α} {r : List β} {a : α} {b : β} : (a, b) ∈ l.zip r ↔ ∃ i : Nat, l[i]? = some a ∧ r[i]? = some b := by
  rw [List.mem_iff_getElem?]
  refine exists_congr fun i => ?_
  rw [List.getElem?_zip_eq_some]
theorem kidR_iff {nd : RN} (hs : Srt nd.names) (hl : nd.kids.length = nd.names.length) {nm : List Nat} {j : Nat} : kidR nd nm = some j ↔ (nm, j) ∈ nd.names.zip nd.kids := by
  rw [zip_at]
  unfold kidR hasR
  constructor
  · intro h
    cases hp : nd.names[posR nm nd.names]? with
    | none => rw [hp] at h; cases h
    | some p =>
      rw [hp] at h
      simp only at h
      cases he : eqB p nm with
      | false => rw [he] at h; cases h
      | true =>
        rw [he, cond_true] at h
        rw [eqB_eq.1 he] at hp
        exact ⟨_, hp, h⟩
  · rintro ⟨i, h1, h2⟩
    rw [posR_at hs h1, h1]
    simp only [eqB_self, cond_true]
    exact h2
theorem kidR_none {nd : RN} (hs : Srt nd.names) (hl : nd.kids.length = nd.names.length) {nm : List Nat} : kidR nd nm = none ↔ nm ∉ nd.names := by
  constructor
  · intro h hm
    obtain ⟨i, hi⟩ := List.mem_iff_getElem?.mp hm
    have hlt := (List.getElem?_eq_some_iff.mp hi).1
    have hk : nd.kids[i]? = some nd.kids[i] := List.getElem?_eq_getElem (by omega)
    rw [(kidR_iff hs hl).2 (zip_at.2 ⟨i, hi, hk⟩)] at h
    cases h
  · intro h
    cases hk : kidR nd nm with
    | none => rfl
    | some j =>
      obtain ⟨i, hi, _⟩ := zip_at.1 ((kidR_iff hs hl).1 hk)
      exact absurd (List.mem_of_getElem? hi) h
theorem kidR_ins {nd : RN} (hs : Srt nd.names) (hl : nd.kids.length = nd.names.length) {nm : List Nat} (hn : kidR nd nm = none) {j : Nat} (y : List Nat) :
    kidR { nd with names := insL (posR nm nd.names) nm nd.names, kids := insL (posR nm nd.names) j nd.kids } y = if y = nm then some j else kidR nd y := by
  have hnm := (kidR_none hs hl).1 hn
  have pl := posR_le (nm := nm) (l := nd.names)
  apply Option.ext
  intro z
  rw [kidR_iff (nd := { nd with names := insL (posR nm nd.names) nm nd.names, kids := insL (posR nm nd.names) j nd.kids }) (srt_ins hs hnm) (by
    show (insL _ _ _).length = (insL _ _ _).length
    rw [insL_len pl, insL_len (by omega), hl])]
  show (y, z) ∈ (insL _ nm nd.names).zip (insL _ j nd.kids) ↔ _
  rw [zip_ins hl, mem_insL]
  by_cases e : y = nm
  · subst e
    rw [if_pos rfl]
    constructor
    · rintro (h | h)
      · cases h; rfl
      · obtain ⟨i, hi, _⟩ := zip_at.1 h
        exact absurd (List.mem_of_getElem? hi) hnm
    · intro h; cases h; exact Or.inl rfl
  · rw [if_neg e, kidR_iff hs hl]
    constructor
    · rintro (h | h)
      · cases h; exact absurd rfl e
      · exact h
    · exact Or.inr
structure SimR (d : List En) (M : Md) (K : Kids) (pv : Option (List Nat)) (R : RM) : Prop where
  inv : Inv d M K pv
  len : R.nodes.length = M.nodes.length
  kid : ∀ i nm, kidS R i nm = kidOf M.T i nm
  node : ∀ k md rd, M.T k = some md → R.nodes[k]? = some rd → rd.kind = md.kind ∧ rd.mode = md.mode ∧ rd.data = md.data
  srt : ∀ (k : Nat) (rd : RN), R.nodes[k]? = some rd → Srt rd.names ∧ rd.kids.length = rd.names.length ∧ rd.names.length ≤ d.length
  nxt : R.next = (d.length : Int)
theorem pa_at {R : RM} {u : Nat} {rd nd : RN} {nm : List Nat} (hu : u < R.nodes.length) (i : Nat) : (putM (addM R nd) u rd nm R.nodes.length { nd with id := R.next + 1 }).nodes[i]? =
    if i = R.nodes.length then some { nd with id := R.next + 1, up := some u } else if i = u then some { rd with names := insL (posR nm rd.names) nm rd.names, kids := insL (posR nm rd.names) R.nodes.length rd.kids } else R.nodes[i]? := by
  show (((R.nodes ++ [{ nd with id := R.next + 1 }]).set R.nodes.length { nd with id := R.next + 1, up := some u }).set u _)[i]? = _
  by_cases h2 : i = u
  · have h1 : i ≠ R.nodes.length := by omega
    subst h2
    rw [if_neg h1, if_pos rfl]
    exact List.getElem?_set_self (by simp; omega)
  · rw [List.getElem?_set_ne (fun e => h2 e.symm)]
    by_cases h1 : i = R.nodes.length
    · subst h1
      rw [if_pos rfl]
      exact List.getElem?_set_self (by simp)
    · rw [List.getElem?_set_ne (fun e => h1 e.symm), if_neg h1, if_neg h2]
      by_cases h3 : i < R.nodes.length
      · exact List.getElem?_append_left h3
      · rw [List.getElem?_eq_none (by simp; omega), List.getElem?_eq_none (by omega)]
theorem simR_step {d : List En} {M : Md} {K : Kids} {pv : Option (List Nat)} {R : RM} (I : SimR d M K pv R) {e : En} (hm : mayE e = true) (hpv : okP pv e.1 = true) :
    lookP (kidS R) 0 (partsL (splitR e.1).1) = lookK (e.1.take (cutE e.1)) K ∧ ∀ u, lookK (e.1.take (cutE e.1)) K = some u → ∃ ud rd, M.T u = some ud ∧ R.nodes[u]? = some rd ∧ rd.kind = ud.kind ∧
      (ud.kind = 1 → d.length < 128 → kidR rd (splitR e.1).2 = none ∧ rd.names.length < 900 ∧ u ≠ R.nodes.length ∧
        SimR (d ++ [e]) (addO M u ud (nameE e.1) ⟨e.2.1, e.2.2.1, e.2.2.2, [], some u, nameE e.1, 0⟩) (setK e.1 M.nodes.length K) (some e.1)
          (putM (addM R (newR e.2.1 e.2.2.1 e.2.2.2)) u rd (splitR e.1).2 R.nodes.length { newR e.2.1 e.2.2.1 e.2.2.2 with id := R.next + 1 })) := by
  obtain ⟨ps, nm, e1, hg, h8, hb, hr⟩ := may_parts hm
  have gp : ∀ x ∈ ps, Good x := fun x hx => hg x (List.mem_append_left _ hx)
  have gn : Good nm := hg nm (by simp)
  obtain ⟨c1, c2⟩ := cut_snoc gp gn
  have c3 := split_snoc gp gn
  rw [← e1] at c1 c2 c3
  have W := I.inv.wf
  have pe : partsL e.1 = ps ++ [nm] := by rw [e1]; exact partsL_join hg
  have hat : lookP (kidS R) 0 ps = M.at ps := by
    unfold Md.at
    rw [I.inv.root]
    exact lookP_congr (fun i x => I.kid i x)
  rw [c3, c1, c2]
  simp only
  rw [partsL_join gp]
  refine ⟨by rw [hat, I.inv.look ps gp], fun u hl => ?_⟩
  have hlu := hl
  rw [I.inv.look ps gp] at hl
  obtain ⟨ud, hu⟩ := W.node hl
  have hul := T_lt hu
  have hrl : u < R.nodes.length := by rw [I.len]; exact hul
  have hrd : R.nodes[u]? = some R.nodes[u] := List.getElem?_eq_getElem hrl
  generalize R.nodes[u] = rd at hrd
  obtain ⟨k1, k2, k3⟩ := I.node u ud rd hu hrd
  obtain ⟨s1, s2, s3⟩ := I.srt u rd hrd
  refine ⟨ud, rd, hu, hrd, k1, fun hk hn => ?_⟩
  have before : ∀ a ∈ d, EnLt a e := by
    intro a ha
    obtain ⟨p, rfl, hp⟩ := I.inv.last a ha
    have hlt : LtP (partsL p) (partsL e.1) := of_decide_eq_true (p := cmpP p e.1 < 0) hpv
    rcases hp with rfl | hp
    · exact hlt
    · exact ltP_trans hp hlt
  have noat : ∀ k, M.at (ps ++ [nm]) ≠ some k := by
    intro k hk2
    obtain ⟨kd, hkd⟩ := W.node hk2
    have ha : EnAt M (enOf (joinL [47] (ps ++ [nm])) kd) (ps ++ [nm]) := ⟨k, kd, hk2, hkd, rfl⟩
    have := before _ ((I.inv.mem _).2 ⟨_, by simp, ha⟩)
    unfold EnLt at this
    rw [EnAt.parts W ha, pe] at this
    exact ltP_irrefl this
  have hlk : lookK nm ud.kids = none := by
    cases h : lookK nm ud.kids with
    | none => rfl
    | some j => exact absurd (at_snoc.2 ⟨u, ud, hl, hu, h⟩) (noat j)
  have hks : kidS R u nm = kidR rd nm := by unfold kidS; rw [hrd]
  have hkn : kidR rd nm = none := by
    rw [← hks, I.kid, kidOf_at hu]
    exact hlk
  have hI := step_inv I.inv hm hpv (by rw [c1]; exact hlu) hu hk hn
  rw [c2] at hI
  have hune : u ≠ R.nodes.length := by omega
  refine ⟨hkn, by omega, hune, ⟨hI, ?_, ?_, ?_, ?_, ?_⟩⟩
  · show (((R.nodes ++ [_]).set _ _).set _ _).length = (M.nodes.set _ _ ++ [_]).length
    simp [I.len]
  · intro i x
    have hT := addO_T (nw := ⟨e.2.1, e.2.2.1, e.2.2.2, [], some u, nm, 0⟩) (nm := nm) hu i
    have rT := pa_at (R := R) (rd := rd) (nd := newR e.2.1 e.2.2.1 e.2.2.2) (nm := nm) hrl i
    unfold kidS kidOf
    rw [rT, hT]
    by_cases h1 : i = M.nodes.length
    · rw [if_pos (by rw [I.len]; exact h1), if_pos h1]
      rfl
    · rw [if_neg (by rw [I.len]; exact h1), if_neg h1]
      by_cases h2 : i = u
      · rw [if_pos h2, if_pos h2]
        simp only
        rw [kidR_ins s1 s2 hkn x, look_setK, I.len]
        by_cases h3 : x = nm
        · rw [if_pos h3, if_pos h3]
        · rw [if_neg h3, if_neg h3]
          have := I.kid u x
          unfold kidS at this
          rw [hrd, kidOf_at hu] at this
          exact this
      · rw [if_neg h2, if_neg h2]
        have := I.kid i x
        unfold kidS kidOf at this
        exact this
  · intro k md rd' hk1 hk2
    rw [addO_T hu] at hk1
    rw [pa_at hrl] at hk2
    by_cases h1 : k = M.nodes.length
    · rw [if_pos h1] at hk1
      rw [if_pos (by rw [I.len]; exact h1)] at hk2
      cases hk1
      cases hk2
      exact ⟨rfl, rfl, rfl⟩
    · rw [if_neg h1] at hk1
      rw [if_neg (by rw [I.len]; exact h1)] at hk2
      by_cases h2 : k = u
      · rw [if_pos h2] at hk1 hk2
        cases hk1
        cases hk2
        exact ⟨k1, k2, k3⟩
      · rw [if_neg h2] at hk1 hk2
        exact I.node k md rd' hk1 hk2
  · intro k rd' hk2
    rw [pa_at hrl] at hk2
    have pl := posR_le (nm := nm) (l := rd.names)
    have hdl : (d ++ [e]).length = d.length + 1 := by simp
    by_cases h1 : k = R.nodes.length
    · rw [if_pos h1] at hk2
      cases hk2
      exact ⟨List.Pairwise.nil, rfl, Nat.zero_le _⟩
    · rw [if_neg h1] at hk2
      by_cases h2 : k = u
      · rw [if_pos h2] at hk2
        cases hk2
        refine ⟨srt_ins s1 ((kidR_none s1 s2).1 hkn), ?_, ?_⟩
        · show (insL _ _ _).length = (insL _ _ _).length
          rw [insL_len pl, insL_len (by omega), s2]
        · show (insL _ _ _).length ≤ _
          rw [insL_len pl]
          omega
      · rw [if_neg h2] at hk2
        obtain ⟨a, b, c⟩ := I.srt k rd' hk2
        exact ⟨a, b, by omega⟩
  · show R.next + 1 = _
    rw [I.nxt, List.length_append]
    simp
def RZ : RM := ⟨[⟨0, 1, 493, [], [], [], none⟩], 0, [], 0⟩
theorem simR_Z : SimR [] MZ [([], 0)] none RZ := by
  refine ⟨inv_MZ, rfl, fun i nm => ?_, fun k md rd h1 h2 => ?_, fun k rd h => ?_, rfl⟩
  · cases i with
    | zero => rfl
    | succ i => rfl
  · cases k with
    | zero => cases h1; cases h2; exact ⟨rfl, rfl, rfl⟩
    | succ k => simp [RZ] at h2
  · cases k with
    | zero => cases h; exact ⟨List.Pairwise.nil, rfl, Nat.le_refl _⟩
    | succ k => simp [RZ] at h
end Go.AX
namespace Go.AX
open Go.Proofs Go.RowKit
set_option maxRecDepth 1000000
set_option maxHeartbeats 40000000
set_option linter.unusedSimpArgs false
set_option linter.unusedVariables false
def tgtL : List Nat → Bool
  | [] => true
  | c :: l => bif Nat.beq c 0 then false else tgtL l
theorem tgtL_find : ∀ {b : List Nat} {k : Nat}, tgtL b = !(match findByte b 0 k with | some _ => true | none => false)
  | [], _ => rfl
  | c :: l, k => by
    simp only [tgtL, findByte]
    cases Nat.beq c 0 with
    | true => rfl
    | false => exact tgtL_find
def tgtR (b : List Nat) : Bool := bif eqB b [] then false else bif decide ((b.length : Int) > 64) then false else tgtL b
theorem tgtR_eq {b : List Nat} : tgtR b = targetB b := by
  unfold tgtR targetB hasB
  by_cases h0 : b = []
  · subst h0; rfl
  · rw [eqB_of h0, cond_false]
    have h1 : Nat.ble 1 b.length = true := Nat.ble_eq.mpr (List.length_pos_iff.mpr h0)
    rw [h1, Bool.true_and, tgtL_find (k := 0)]
    by_cases h2 : b.length ≤ 64
    · have d : decide ((b.length : Int) > 64) = false := by rw [decide_eq_false_iff_not]; omega
      rw [d, Nat.ble_eq.mpr h2]
      cases findByte b 0 0 <;> rfl
    · have d : decide ((b.length : Int) > 64) = true := by rw [decide_eq_true_eq]; omega
      have d2 : Nat.ble b.length 64 = false := by rw [← Bool.not_eq_true, Nat.ble_eq]; exact h2
      rw [d, d2]
      rfl
theorem tgt5_c {s : St} (H : Ok TE Tryz.prog pr3) {b : List Nat} {kr kp : AV → St → Bool} (hk : kr (.raw (.bool (tgtR b))) s = true) : (sem Tryz.prog).call 49 [.str b] s kr kp = true := by
  refine w_call H 21 fn_49 rfl rfl ?_
  unfold tgtR at hk
  cases h0 : eqB b [] with
  | true =>
    rw [h0, cond_true] at hk
    repeat (first | with_reducible (refine w_one H ?_; constructor) | simp only [rB, rP, rQ, boolA, intA, resultA, resA, reduceIte, reduceCtorEq, Nat.reduceAdd, Nat.reduceLT, Nat.reduceEqDiff, UInt8.reduceToNat, pe3, pf3, b_eqs, h0, Tryz.results49])
    exact hk
  | false =>
  rw [h0, cond_false] at hk
  cases h1 : decide ((b.length : Int) > 64) with
  | true =>
    rw [h1, cond_true] at hk
    repeat (first | with_reducible (refine w_one H ?_; constructor) | simp only [rB, rP, rQ, boolA, intA, resultA, resA, reduceIte, reduceCtorEq, Nat.reduceAdd, Nat.reduceLT, Nat.reduceEqDiff, UInt8.reduceToNat, pe3, pf3, b_eqs, h0, len_str, b_gt, h1, Tryz.results49])
    exact hk
  | false =>
  rw [h1, cond_false] at hk
  have h64 : b.length ≤ 64 := by simp at h1; omega
  repeat (first | with_reducible (refine w_one H ?_; constructor) | simp only [rB, rP, rQ, boolA, intA, resultA, resA, reduceIte, reduceCtorEq, Nat.reduceAdd, Nat.reduceLT, Nat.reduceEqDiff, UInt8.reduceToNat, pe3, pf3, b_eqs, h0, len_str, b_gt, h1])
  refine w_loop_ind H (fun n t s' => ∃ k : Nat, n + k = b.length ∧ s' = s ∧ tg t 0 = .str b ∧ tg t 3 = .raw (.int .i64 (k : Int)) ∧ tgtL b = tgtL (b.drop k)) (n := b.length)
    ⟨0, rfl, rfl, by simp only [rB, rP, rQ, boolA, intA, resultA, resA, reduceIte, reduceCtorEq, Nat.reduceAdd, Nat.reduceLT, Nat.reduceEqDiff, UInt8.reduceToNat], by simp only [rB, rP, rQ, boolA, intA, resultA, resA, reduceIte, reduceCtorEq, Nat.reduceAdd, Nat.reduceLT, Nat.reduceEqDiff, UInt8.reduceToNat]; rfl, rfl⟩ ?_
  rintro n t s' ih ⟨k, hn, rfl, t0, t3, hrun⟩
  cases n with
  | zero =>
    have g0 := dec_nlt (a := k) (b := b.length) (by omega)
    rw [List.drop_eq_nil_of_le (by omega)] at hrun
    rw [hrun] at hk
    repeat (first | with_reducible (refine w_one H ?_; constructor) | simp only [rB, rP, rQ, boolA, intA, resultA, resA, reduceIte, reduceCtorEq, Nat.reduceAdd, Nat.reduceLT, Nat.reduceEqDiff, UInt8.reduceToNat, pe3, pf3, t0, t3, len_str, b_lt, g0, Tryz.results49])
    exact hk
  | succ n =>
    have hlt : k < b.length := by omega
    have g0 := dec_lt hlt
    have ew := nat_plus (k := k) (by omega)
    rw [List.drop_eq_getElem_cons hlt] at hrun
    have hx : b[k]? = some b[k] := List.getElem?_eq_getElem hlt
    generalize b[k] = x at hx hrun
    have ix := ix_b hx
    have gz : ((x : Int) == 0) = Nat.beq x 0 := u8_eq
    simp only [tgtL] at hrun
    cases hz : Nat.beq x 0 with
    | true =>
      rw [hz, cond_true] at hrun
      rw [hrun] at hk
      repeat (first | with_reducible (refine w_one H ?_; constructor) | simp only [rB, rP, rQ, boolA, intA, resultA, resA, reduceIte, reduceCtorEq, Nat.reduceAdd, Nat.reduceLT, Nat.reduceEqDiff, UInt8.reduceToNat, pe3, pf3, t0, t3, len_str, b_lt, g0, ix, b_eqi, gz, hz, Tryz.results49])
      exact hk
    | false =>
      rw [hz, cond_false] at hrun
      repeat (first | with_reducible (refine w_one H ?_; constructor) | simp only [rB, rP, rQ, boolA, intA, resultA, resA, reduceIte, reduceCtorEq, Nat.reduceAdd, Nat.reduceLT, Nat.reduceEqDiff, UInt8.reduceToNat, pe3, pf3, t0, t3, len_str, b_lt, g0, ix, b_eqi, gz, hz, b_plus, ew])
      exact ih n _ _ (Nat.lt_succ_self n) ⟨k + 1, by omega, rfl, by simp only [rB, rP, rQ, boolA, intA, resultA, resA, reduceIte, reduceCtorEq, Nat.reduceAdd, Nat.reduceLT, Nat.reduceEqDiff, UInt8.reduceToNat, t0], by simp only [rB, rP, rQ, boolA, intA, resultA, resA, reduceIte, reduceCtorEq, Nat.reduceAdd, Nat.reduceLT, Nat.reduceEqDiff, UInt8.reduceToNat], hrun⟩
theorem may5_c {s : St} (H : Ok TE Tryz.prog pr3) (hB : Below0 s) {e : En} (hp : e.1.length ≤ 1048575) {kr kp : AV → St → Bool} (hk : ∀ s', Ext s s' → Below0 s' → kr (.raw (.bool (mayR e))) s' = true) :
    (sem Tryz.prog).call 25 [agE e] s kr kp = true := by
  refine w_call H 55 fn_25 rfl rfl ?_
  obtain ⟨p, kd, md, d⟩ := e
  simp only at hp
  have hk := hk (s.alloc (.cells [.str p, .raw (.int .i64 kd), .raw (.int .i64 md), .str d] 49 0)) (Ext.alloc s _) (below_al hB _)
  unfold mayR restE at hk
  simp only at hk
  unfold agE
  cases h1 : eqB p [] with
  | true =>
    rw [h1] at hk
    repeat (first | with_reducible (refine w_one H ?_; constructor) | simp only [rB, rP, rQ, boolA, intA, resultA, resA, reduceIte, reduceCtorEq, Nat.reduceAdd, Nat.reduceLT, Nat.reduceEqDiff, UInt8.reduceToNat, pe3, pf3, cells_agg, fa_en0, ld_9, b_eqs, h1, Tryz.results25])
    exact hk
  | false =>
  rw [h1, cond_false] at hk
  cases h2 : isCleanR p with
  | false =>
    rw [h2] at hk
    repeat (first | with_reducible (refine w_one H ?_; constructor) | simp only [rB, rP, rQ, boolA, intA, resultA, resA, reduceIte, reduceCtorEq, Nat.reduceAdd, Nat.reduceLT, Nat.reduceEqDiff, UInt8.reduceToNat, pe3, pf3, cells_agg, fa_en0, ld_9, b_eqs, h1] | (refine isclean4_c H hp ?_; rw [h2]))
    exact hk
  | true =>
  rw [h2, cond_true] at hk
  repeat (first | with_reducible (refine w_one H ?_; constructor) | simp only [rB, rP, rQ, boolA, intA, resultA, resA, reduceIte, reduceCtorEq, Nat.reduceAdd, Nat.reduceLT, Nat.reduceEqDiff, UInt8.reduceToNat, pe3, pf3, cells_agg, fa_en0, ld_9, b_eqs, h1])
  refine isclean4_c H hp ?_
  rw [h2]
  obtain ⟨m1, hm1⟩ : ∃ b, decide (md ≥ 0) = b := ⟨_, rfl⟩
  obtain ⟨m2, hm2⟩ : ∃ b, decide (md ≤ 511) = b := ⟨_, rfl⟩
  obtain ⟨m3, hm3⟩ : ∃ b, (md == 511) = b := ⟨_, rfl⟩
  rw [hm1, hm2, hm3, ← tgtR_eq] at hk
  by_cases k1 : kd = 1
  · subst k1
    have e1 : ((1 : Int) == 1) = true := rfl
    rw [e1, cond_true] at hk
    cases m1 <;> cases m2
    all_goals
      repeat (first | with_reducible (refine w_one H ?_; constructor) | simp only [rB, rP, rQ, boolA, intA, resultA, resA, reduceIte, reduceCtorEq, Nat.reduceAdd, Nat.reduceLT, Nat.reduceEqDiff, UInt8.reduceToNat, fa_en0, fa_en1, fa_en2, fa_en3, ld_9, ld_3, b_eqs, b_eqi, e1, b_ge, b_le, hm1, hm2, Bool.not_true, Tryz.results25])
      exact hk
  have e1 : (kd == 1) = false := by rw [beq_eq_false_iff_ne]; exact k1
  rw [e1, cond_false] at hk
  by_cases k2 : kd = 2
  · subst k2
    have e2 : ((2 : Int) == 2) = true := rfl
    rw [e2, cond_true] at hk
    cases m1 <;> cases m2
    all_goals
      repeat (first | with_reducible (refine w_one H ?_; constructor) | simp only [rB, rP, rQ, boolA, intA, resultA, resA, reduceIte, reduceCtorEq, Nat.reduceAdd, Nat.reduceLT, Nat.reduceEqDiff, UInt8.reduceToNat, fa_en0, fa_en1, fa_en2, fa_en3, ld_9, ld_3, len_str, b_eqs, b_eqi, e1, e2, b_ge, b_le, hm1, hm2, Bool.not_true, Tryz.results25])
      exact hk
  have e2 : (kd == 2) = false := by rw [beq_eq_false_iff_ne]; exact k2
  rw [e2, cond_false] at hk
  by_cases k3 : kd = 3
  · subst k3
    have e3 : ((3 : Int) == 3) = true := rfl
    rw [e3, cond_true] at hk
    cases m3 with
    | false =>
      repeat (first | with_reducible (refine w_one H ?_; constructor) | simp only [rB, rP, rQ, boolA, intA, resultA, resA, reduceIte, reduceCtorEq, Nat.reduceAdd, Nat.reduceLT, Nat.reduceEqDiff, UInt8.reduceToNat, fa_en0, fa_en1, fa_en2, fa_en3, ld_9, ld_3, b_eqs, b_eqi, e1, e2, e3, hm3, Bool.not_true, Tryz.results25])
      exact hk
    | true =>
      repeat (first | with_reducible (refine w_one H ?_; constructor) | simp only [rB, rP, rQ, boolA, intA, resultA, resA, reduceIte, reduceCtorEq, Nat.reduceAdd, Nat.reduceLT, Nat.reduceEqDiff, UInt8.reduceToNat, pe3, pf3, fa_en0, fa_en1, fa_en2, fa_en3, ld_9, ld_3, b_eqs, b_eqi, e1, e2, e3, hm3, Bool.not_true, Tryz.results25] | (with_reducible refine tgt5_c H ?_))
      exact hk
  have e3 : (kd == 3) = false := by rw [beq_eq_false_iff_ne]; exact k3
  rw [e3, cond_false] at hk
  repeat (first | with_reducible (refine w_one H ?_; constructor) | simp only [rB, rP, rQ, boolA, intA, resultA, resA, reduceIte, reduceCtorEq, Nat.reduceAdd, Nat.reduceLT, Nat.reduceEqDiff, UInt8.reduceToNat, fa_en0, fa_en1, fa_en2, fa_en3, ld_9, ld_3, b_eqs, b_eqi, e1, e2, e3, Bool.not_true, Tryz.results25])
  exact hk
theorem bd_rr : buildA TE 69 [(1, .raw (.int .i64 1)), (2, .raw (.int .i64 493))] = some (.agg [.raw (.int .i64 0), .raw (.int .i64 1), .raw (.int .i64 493), .str [], nilS, nilS, .raw (.pointer none)]) := by kernel_rfl
theorem bd_rk {k m : Int} {d : List Nat} : buildA TE 69 [(1, .raw (.int .i64 k)), (2, .raw (.int .i64 m)), (3, .str d)] = some (.agg [.raw (.int .i64 0), .raw (.int .i64 k), .raw (.int .i64 m), .str d, nilS, nilS, .raw (.pointer none)]) := by kernel_rfl
theorem bd_rt {r : Nat} : buildA TE 83 [(0, .ptr r 0), (1, .ptr r 0), (3, .raw (.int .i64 1024)), (4, .raw (.int .i64 512)), (5, .raw (.int .i64 128))] = some (.agg [.ptr r 0, .ptr r 0, nilS, .raw (.int .i64 1024), .raw (.int .i64 512), .raw (.int .i64 128), .raw (.int .i64 0), .raw (.bool false)]) := by kernel_rfl
theorem new5_c {s : St} (H : Ok TE Tryz.prog pr3) (hB : Below0 s) {kr kp : AV → St → Bool} (hk : ∀ s', Ext s s' → Below0 s' → s'.nx = s.nx + 2 → RepR s' (s.nx + 1) RZ (fun _ => s.nx) (fun _ => nilS) (fun _ => nilS) nilS → kr (.ptr (s.nx + 1) 0) s' = true) :
    (sem Tryz.prog).call 24 [] s kr kp = true := by
  refine w_call H 8 fn_24 rfl rfl ?_
  repeat (first | with_reducible (refine w_one H ?_; constructor) | simp only [rB, rP, rQ, boolA, intA, resultA, resA, reduceIte, reduceCtorEq, Nat.reduceAdd, Nat.reduceLT, Nat.reduceEqDiff, UInt8.reduceToNat, pe3, pf3, bd_rr, bd_rt, cells_agg, Tryz.results24])
  have zero : ∀ {k : Nat} {nd : RN}, RZ.nodes[k]? = some nd → k = 0 ∧ nd = ⟨0, 1, 493, [], [], [], none⟩ := by
    intro k nd h
    cases k with
    | zero => cases h; exact ⟨rfl, rfl⟩
    | succ k => simp [RZ] at h
  refine hk _ ((Ext.alloc s _).trans (Ext.alloc _ _)) (below_al (below_al hB _) _) rfl ⟨?_, ?_, Or.inl ⟨rfl, rfl⟩, ?_, ?_, ?_, ?_, ?_, ?_, by decide, by decide, ?_, ?_, by decide⟩
  · intro k nd h
    obtain ⟨rfl, rfl⟩ := zero h
    exact ⟨(al_ne (by show s.nx ≠ s.nx + 1; omega)).trans al_same, Or.inl ⟨rfl, rfl⟩, Or.inl ⟨rfl, rfl⟩⟩
  · exact al_same
  · intro j k hj hk _
    have hj : j < 1 := hj
    have hk : k < 1 := hk
    omega
  · intro j k b _ _ h; cases h
  · intro j k b _ _ h; cases h
  · intro k b _ h; cases h
  · intro k nd h q hq
    obtain ⟨rfl, rfl⟩ := zero h
    cases hq
  · intro k nd u h hu
    obtain ⟨rfl, rfl⟩ := zero h
    cases hu
  · intro o ho
    cases ho
  · intro k nd h
    obtain ⟨rfl, rfl⟩ := zero h
    exact ⟨rfl, by decide⟩
end Go.AX
namespace Go.AX
open Go.Proofs Go.RowKit
set_option maxRecDepth 1000000
set_option maxHeartbeats 40000000
set_option linter.unusedSimpArgs false
set_option linter.unusedVariables false
theorem cut_at : ∀ {l : List AV} {o n : Nat} {r : List AV} {j : Nat} {v : AV}, cutL o n l = some r → r[j]? = some v → l[o + j]? = some v
  | l, o, n, r, 0, v, h, hv => by
    cases r with
    | nil => cases hv
    | cons x t =>
      cases hv
      exact cut_get h rfl
  | l, o, n, r, j + 1, v, h, hv => by
    have key : ∀ {l : List AV} {o n : Nat} {r : List AV}, cutL o n l = some r → ∀ j, (hj : j < r.length) → l[o + j]? = r[j]? := by
      intro l
      induction l with
      | nil =>
        intro o n r h j hj
        cases o with
        | zero => cases n with
          | zero => cases h; simp at hj
          | succ n => cases h
        | succ o => cases h
      | cons y l ih =>
        intro o n r h j hj
        cases o with
        | zero =>
          have e : r = (y :: l).take n := by
            have hn : n ≤ (y :: l).length := by
              by_cases hn : n ≤ (y :: l).length
              · exact hn
              · exfalso
                have : ∀ (m : Nat) (q : List AV), q.length < m → takeL m q = none := by
                  intro m
                  induction m with
                  | zero => intro q hq; omega
                  | succ m ihm =>
                    intro q hq
                    cases q with
                    | nil => rfl
                    | cons z q => simp only [takeL, ihm q (by simp at hq; omega)]
                have h' : takeL n (y :: l) = some r := h
                rw [this n _ (by omega)] at h'
                cases h'
            rw [cutL_zero hn] at h
            cases h
            rfl
          rw [e] at hj ⊢
          rw [List.getElem?_take, Nat.zero_add]
          simp at hj
          rw [if_pos (by omega)]
        | succ o =>
          have h2 : cutL o n l = some r := by simpa [cutL, dropL] using h
          have := ih h2 j hj
          rw [← this, show o + 1 + j = (o + j) + 1 from by omega, List.getElem?_cons_succ]
    have hj := (List.getElem?_eq_some_iff.mp hv).1
    rw [key h (j + 1) hj]
    exact hv
theorem fe_0 {x o : Nat} : fieldAddrA TE 49 (.ptr x o) 0 = some (.ptr x (o + 0)) := by kernel_rfl
theorem fe_1 {x o : Nat} : fieldAddrA TE 49 (.ptr x o) 1 = some (.ptr x (o + 1)) := by kernel_rfl
theorem fe_2 {x o : Nat} : fieldAddrA TE 49 (.ptr x o) 2 = some (.ptr x (o + 2)) := by kernel_rfl
theorem fe_3 {x o : Nat} : fieldAddrA TE 49 (.ptr x o) 3 = some (.ptr x (o + 3)) := by kernel_rfl
theorem EsV.fld {s : St} {V : AV} {es : List En} (h : EsV s V es) {k : Nat} {e : En} (hk : es[k]? = some e) : ∃ id o ob, indexAddrA TE 22 V (.raw (.int .i64 (k : Int))) = some (.ptr id o) ∧ s.h.get id = some ob ∧ (∀ s', s'.h.get id = some ob → loadA TE s' 49 (.ptr id o) = some (agE e)) ∧ (∀ b, inO (some ob) b = b) ∧
    ldO (some ob) (o + 0) = some (.str e.1) ∧ ldO (some ob) (o + 1) = some (.raw (.int .i64 e.2.1)) ∧ ldO (some ob) (o + 2) = some (.raw (.int .i64 e.2.2.1)) ∧ ldO (some ob) (o + 3) = some (.str e.2.2.2) ∧ beqO ob ob = true := by
  rcases h with ⟨⟨a, c, rfl⟩, rfl⟩ | ⟨id, off, ci, l, z, rfl, rfl⟩ | ⟨id, off, ci, cap, ex, cs, ob, rfl, hg, ho, hbq, hc⟩
  · simp at hk
  · simp at hk
  · have hlt := (List.getElem?_eq_some_iff.mp hk).1
    have h1 := hc k e hk
    have a0 := cut_at (j := 0) h1 rfl
    have a1 := cut_at (j := 1) h1 rfl
    have a2 := cut_at (j := 2) h1 rfl
    have a3 := cut_at (j := 3) h1 rfl
    rcases ho with ⟨fz, rfl⟩ | rfl
    · exact ⟨id, off + k * 4, _, ix_e hlt, hg, fun s' hs' => ld_agg agg_en hs' h1, fun b => rfl, a0, a1, a2, a3, by simp [beqO, hbq]⟩
    · exact ⟨id, off + k * 4, _, ix_e hlt, hg, fun s' hs' => ld_aggO agg_en hs' h1, fun b => rfl, a0, a1, a2, a3, by simp [beqO, hbq]⟩
theorem put_c' {s : St} (H : Ok TE Tryz.prog pr3) {x : Nat} {R : RM} {ι : Nat → Nat} {ν κ : Nat → AV} {φ : AV} (Rp : RepR s x R ι ν κ φ) (hB : Below0 s) {u j iu ij : Nat} (eu : ι u = iu) (ej : ι j = ij) {ud jd : RN} (hu : R.nodes[u]? = some ud) (hj : R.nodes[j]? = some jd) (hju : j ≠ u) {nm : List Nat} (hnew : kidR ud nm = none)
    (hroom : ud.names.length < 900) {kr kp : AV → St → Bool} (hk : ∀ s' ν' κ', RepR s' x (putM R u ud nm j jd) ι ν' κ' φ → Below0 s' → Nxt s s' (OwnR x R ι ν κ φ) (OwnR x (putM R u ud nm j jd) ι ν' κ' φ) → kr (.tuple []) s' = true) :
    (sem Tryz.prog).call 29 [.ptr iu 0, .str nm, .ptr ij 0] s kr kp = true := by
  subst eu
  subst ej
  exact put_c H Rp hB hu hj hju hnew hroom hk
theorem num5_d {s : St} (H : Ok TE Tryz.prog pr3) (hB : Below0 s) {x y r c : Nat} {F V K : AV} {z : Int} {ι : Nat → Nat} {nd : RN} (hx : s.h.get x = some (rtA r c F z)) (hy : s.h.get y = some (rnA ι nd V K)) (hxy : x ≠ y) (hz : 0 ≤ z ∧ z ≤ 1000000000)
    {kr kp : AV → St → Bool} (hk : ∀ s', s'.nx = s.nx → Below0 s' → s'.h.get x = some (rtA r c F (z + 1)) → s'.h.get y = some (rnA ι { nd with id := z + 1 } V K) → (∀ i, i ≠ x → i ≠ y → s'.h.get i = s.h.get i) → kr (.ptr y 0) s' = true) :
    (sem Tryz.prog).call 30 [.ptr x 0, .ptr y 0] s kr kp = true := by
  have b1 : Below0 { s with h := s.h.set x (rtA r c F (z + 1)) } := below_set hB (hB _ _ hx) _
  have b2 : Below0 { s with h := (s.h.set x (rtA r c F (z + 1))).set y (rnA ι { nd with id := z + 1 } V K) } := below_set b1 (hB _ _ hy) _
  exact num5_c H hx hy hxy hz (hk _ rfl b2 ((hs_ne hxy).trans hs_same) hs_same (fun i h1 h2 => (hs_ne h2).trans (hs_ne h1)))
theorem of5_c {s : St} (H : Ok TE Tryz.prog pr3) (hB : Below0 s) {V : AV} {es : List En} (hV : EsV s V es) (hp : ∀ e ∈ es, e.1.length ≤ 1048575) (hn0 : es.length < 1000000000) {kr kp : AV → St → Bool}
    (hk : ∀ s' M1 K pv R x ι ν κ φ, ofT es = some { M1 with many := (es.length : Int) } → SimR es M1 K pv R → RepR s' x R ι ν κ φ → (∀ i, OwnR x R ι ν κ φ i → s.nx ≤ i) → Ext s s' → Below0 s' → kr (.tuple [.ptr x 0, .raw (.bool true)]) s' = true)
    (hf : ∀ s', ofT es = none → Ext s s' → Below0 s' → kr (.tuple [.raw (.pointer none), .raw (.bool false)]) s' = true) :
    (sem Tryz.prog).call 7 [V] s kr kp = true := by
  refine w_call H 88 fn_7 rfl rfl ?_
  have vl := hV.len
  have vi := hV.ids
  repeat (first | with_reducible (refine w_one H ?_; constructor) | simp only [rB, rP, rQ, boolA, intA, resultA, resA, reduceIte, reduceCtorEq, Nat.reduceAdd, Nat.reduceLT, Nat.reduceEqDiff, UInt8.reduceToNat, pe3, pf3])
  refine new5_c H hB (fun s1 hE1 hB1 hnx R1 => ?_)
  unfold ofT at hk hf
  by_cases hl : es.length > 128
  · have g0 : decide ((es.length : Int) > 128) = true := by rw [decide_eq_true_eq]; omega
    repeat (first | with_reducible (refine w_one H ?_; constructor) | simp only [rB, rP, rQ, boolA, intA, resultA, resA, reduceIte, reduceCtorEq, Nat.reduceAdd, Nat.reduceLT, Nat.reduceEqDiff, UInt8.reduceToNat, pe3, pf3, vl, vi, b_gt, g0, Tryz.results7])
    exact hf s1 (by rw [g0]; rfl) hE1 hB1
  have g0 : decide ((es.length : Int) > 128) = false := by rw [decide_eq_false_iff_not]; omega
  rw [g0] at hk hf
  simp only [cond_false] at hk hf
  repeat (first | with_reducible (refine w_one H ?_; constructor) | simp only [rB, rP, rQ, boolA, intA, resultA, resA, reduceIte, reduceCtorEq, Nat.reduceAdd, Nat.reduceLT, Nat.reduceEqDiff, UInt8.reduceToNat, pe3, pf3, vl, vi, b_gt, g0])
  have own0 : ∀ i, OwnR (s.nx + 1) RZ (fun _ => s.nx) (fun _ => nilS) (fun _ => nilS) nilS i → s.nx ≤ i := by
    intro i hi
    rcases hi with rfl | ⟨k, hk, rfl | h | h⟩ | h
    · exact Nat.le_succ _
    · exact Nat.le_refl _
    · cases h
    · cases h
    · cases h
  refine w_loop_ind H (fun n t s' => ∃ (k : Nat) (M : Md) (K : List (List Nat × Nat)) (pv : Option (List Nat)) (R : RM) (ι : Nat → Nat) (ν κ : Nat → AV) (φ : AV), n + k = es.length ∧ tg t 0 = V ∧ tg t 4 = .ptr (s.nx + 1) 0 ∧ tg t 5 = .raw (.int .i64 (k : Int)) ∧
    Ext s s' ∧ Below0 s' ∧ RepR s' (s.nx + 1) R ι ν κ φ ∧ (∀ i, OwnR (s.nx + 1) R ι ν κ φ i → s.nx ≤ i) ∧ SimR (es.take k) M K pv R ∧ (k = 0 ∧ pv = none ∨ ∃ e, 0 < k ∧ es[k - 1]? = some e ∧ pv = some e.1 ∧ mayE e = true) ∧
    ofRun es MZ [([], 0)] none = ofRun (es.drop k) M K pv) (n := es.length)
    ⟨0, MZ, [([], 0)], none, RZ, fun _ => s.nx, fun _ => nilS, fun _ => nilS, nilS, rfl, by simp only [rB, rP, rQ, boolA, intA, resultA, resA, reduceIte, reduceCtorEq, Nat.reduceAdd, Nat.reduceLT, Nat.reduceEqDiff, UInt8.reduceToNat], by simp only [rB, rP, rQ, boolA, intA, resultA, resA, reduceIte, reduceCtorEq, Nat.reduceAdd, Nat.reduceLT, Nat.reduceEqDiff, UInt8.reduceToNat], by simp only [rB, rP, rQ, boolA, intA, resultA, resA, reduceIte, reduceCtorEq, Nat.reduceAdd, Nat.reduceLT, Nat.reduceEqDiff, UInt8.reduceToNat]; rfl, hE1, hB1, R1, own0, simR_Z, Or.inl ⟨rfl, rfl⟩, rfl⟩ ?_
  rintro n t s' ih ⟨k, M, K, pv, R, ι, ν, κ, φ, hnk, t0, t4, t5, hE, hB', Rp, hown, SR, hpv, hrun⟩
  have hV' := hV.ext hB hE
  cases n with
  | zero =>
    have g1 := dec_nlt (a := k) (b := es.length) (by omega)
    rw [List.drop_eq_nil_of_le (by omega)] at hrun
    rw [List.take_of_length_le (by omega)] at SR
    simp only [ofRun] at hrun
    repeat (first | with_reducible (refine w_one H ?_; constructor) | simp only [rB, rP, rQ, boolA, intA, resultA, resA, reduceIte, reduceCtorEq, Nat.reduceAdd, Nat.reduceLT, Nat.reduceEqDiff, UInt8.reduceToNat, pe3, pf3, t0, t4, t5, b_lt, g1, vl, vi, Tryz.results7])
    exact hk s' M K pv R _ ι ν κ φ (by rw [hrun]) SR Rp hown hE hB'
  | succ n =>
    have hlt : k < es.length := by omega
    have g1 := dec_lt hlt
    have ew := nat_plus (k := k) (by omega)
    have hke : es[k]? = some es[k] := List.getElem?_eq_getElem hlt
    have htk : es.take (k + 1) = es.take k ++ [es[k]] := by rw [List.take_add_one, hke]; rfl
    rw [List.drop_eq_getElem_cons hlt] at hrun
    have hmem : es[k] ∈ es := List.getElem_mem hlt
    generalize es[k] = e at hke hrun hmem htk
    have hpe := hp e hmem
    rw [ofRun_cons] at hrun
    obtain ⟨id, o, ob, y1, y2s, y3, y4, z0, z1, z2, z3, yb⟩ := hV.fld hke
    have hid := hB _ _ y2s
    have y2 := (hE.2 _ hid).trans y2s
    have yl := y3 s' y2
    repeat (first | with_reducible (refine w_one H ?_; constructor) | simp only [rB, rP, rQ, boolA, intA, resultA, resA, reduceIte, reduceCtorEq, Nat.reduceAdd, Nat.reduceLT, Nat.reduceEqDiff, UInt8.reduceToNat, pe3, pf3, t0, t4, t5, b_lt, g1, vl, vi, y1, yl, y2, y4] | (with_reducible refine w_plan H (i := 7) (.take 0 (.take 1 (.take 2 (.take 3 (.alt 4 [0, 1, 2, 3] (.take 5 (.take 6 (.take 7 (.take 8 (.take 9 (.take 10 (.take 11 (.take 12 (.take 13 (.take 14 (.take 15 (.take 16 (.take 17 (.take 18 (.take 19 (.take 20 (.alt 21 [0, 1, 2, 3, 4, 5, 6, 7, 8, 9, 10, 11, 12, 13, 14, 15, 16, 17, 18, 19, 20] (.take 22 (.take 23 (.take 24 (.done)))) (.yes)))))))))))))))))) (.yes)))))) rfl (by kernel_rfl) ?_) | (refine may5_c H hB' hpe (fun s4 hE4 hB4 => ?_)))
    have y5 := (hE4.2 _ (hB' _ _ y2)).trans y2
    have hEs4 : Ext s s4 := hE.trans hE4
    rw [mayR_eq]
    cases hm : mayE e with
    | false =>
      rw [hm] at hrun
      repeat (first | with_reducible (refine w_one H ?_; constructor) | simp only [rB, rP, rQ, boolA, intA, resultA, resA, reduceIte, reduceCtorEq, Nat.reduceAdd, Nat.reduceLT, Nat.reduceEqDiff, UInt8.reduceToNat, pe3, pf3, t0, t4, t5, Bool.not_false, y2, y5, yb, Tryz.results7] | (with_reducible refine w_plan H (i := 7) (.take 0 (.take 1 (.take 2 (.take 3 (.alt 4 [0, 1, 2, 3] (.take 5 (.take 6 (.take 7 (.take 8 (.take 9 (.take 10 (.take 11 (.take 12 (.take 13 (.take 14 (.take 15 (.take 16 (.take 17 (.take 18 (.take 19 (.take 20 (.alt 21 [0, 1, 2, 3, 4, 5, 6, 7, 8, 9, 10, 11, 12, 13, 14, 15, 16, 17, 18, 19, 20] (.take 22 (.take 23 (.take 24 (.done)))) (.yes)))))))))))))))))) (.yes)))))) rfl (by kernel_rfl) ?_))
      exact hf s4 (by rw [hrun]; rfl) hEs4 hB4
    | true =>
    rw [hm, cond_true] at hrun
    have Rp4 := Rp.ext hB' hE4
    have may_path : ∀ {a : En}, mayE a = true → pathE a.1 = true := fun {a} h => by
      unfold mayE at h
      cases hh : pathE a.1 with
      | true => rfl
      | false => rw [hh] at h; cases h
    have le140 := (may_len hm).1
    by_cases hok : okP pv e.1 = true
    rotate_left
    · have hok : okP pv e.1 = false := by cases h : okP pv e.1 <;> simp_all
      rw [hok] at hrun
      rcases hpv with ⟨_, rfl⟩ | ⟨e', hk0, hke', rfl, hme'⟩
      · cases hok
      · obtain ⟨id', o', ob', w1, w2, w3, w4, v0, v1, v2, v3, vb⟩ := (hV'.ext hB' hE4).fld hke'
        have elt : lessR e'.1 e.1 = false := (less_may (may_path hme') (may_path hm)).trans hok
        have ek : IntKind.i64.wrap ((k : Int) - 1) = ((k - 1 : Nat) : Int) := by
          rw [show (k : Int) - 1 = ((k - 1 : Nat) : Int) from by omega]
          exact wrap_nat (by omega)
        have g2 : decide ((k : Int) > 0) = true := by rw [decide_eq_true_eq]; omega
        repeat (first | with_reducible (refine w_one H ?_; constructor) | simp only [rB, rP, rQ, boolA, intA, resultA, resA, reduceIte, reduceCtorEq, Nat.reduceAdd, Nat.reduceLT, Nat.reduceEqDiff, UInt8.reduceToNat, pe3, pf3, t0, t4, t5, Bool.not_true, Bool.not_false, y1, y2, y5, yb, b_gt, g2, b_minus, ek, w1, w2, w4, fe_0, ld_9, v0, z0, y4, vb, Tryz.results7] | (with_reducible refine w_plan H (i := 7) (.take 0 (.take 1 (.take 2 (.take 3 (.alt 4 [0, 1, 2, 3] (.take 5 (.take 6 (.take 7 (.take 8 (.take 9 (.take 10 (.take 11 (.take 12 (.take 13 (.take 14 (.take 15 (.take 16 (.take 17 (.take 18 (.take 19 (.take 20 (.alt 21 [0, 1, 2, 3, 4, 5, 6, 7, 8, 9, 10, 11, 12, 13, 14, 15, 16, 17, 18, 19, 20] (.take 22 (.take 23 (.take 24 (.done)))) (.yes)))))))))))))))))) (.yes)))))) rfl (by kernel_rfl) ?_) | (refine less4_c H (by have := (may_len hme').1; omega) ?_; rw [elt]))
        exact hf s4 (by rw [hrun]; rfl) hEs4 hB4
    rw [hok, cond_true] at hrun
    rcases hpv with ⟨hk0, hpv⟩ | ⟨e', hk0, hke', hpv, hme'⟩
    focus
      have g2 : decide ((k : Int) > 0) = false := by rw [decide_eq_false_iff_not]; omega
      repeat (first | with_reducible (refine w_one H ?_; constructor) | simp only [rB, rP, rQ, boolA, intA, resultA, resA, reduceIte, reduceCtorEq, Nat.reduceAdd, Nat.reduceLT, Nat.reduceEqDiff, UInt8.reduceToNat, pe3, pf3, t0, t4, t5, Bool.not_true, y1, y2, y5, yb, y4, b_gt, g2, fe_0, ld_9, z0] | (with_reducible refine w_plan H (i := 7) (.take 0 (.take 1 (.take 2 (.take 3 (.alt 4 [0, 1, 2, 3] (.take 5 (.take 6 (.take 7 (.take 8 (.take 9 (.take 10 (.take 11 (.take 12 (.take 13 (.take 14 (.take 15 (.take 16 (.take 17 (.take 18 (.take 19 (.take 20 (.alt 21 [0, 1, 2, 3, 4, 5, 6, 7, 8, 9, 10, 11, 12, 13, 14, 15, 16, 17, 18, 19, 20] (.take 22 (.take 23 (.take 24 (.done)))) (.yes)))))))))))))))))) (.yes)))))) rfl (by kernel_rfl) ?_))
    rotate_left
    focus
      obtain ⟨id', o', ob', w1, w2, w3, w4, v0, v1, v2, v3, vb⟩ := (hV'.ext hB' hE4).fld hke'
      rw [hpv] at hok
      have elt : lessR e'.1 e.1 = true := (less_may (may_path hme') (may_path hm)).trans hok
      have ek : IntKind.i64.wrap ((k : Int) - 1) = ((k - 1 : Nat) : Int) := by
        rw [show (k : Int) - 1 = ((k - 1 : Nat) : Int) from by omega]
        exact wrap_nat (by omega)
      have g2 : decide ((k : Int) > 0) = true := by rw [decide_eq_true_eq]; omega
      repeat (first | with_reducible (refine w_one H ?_; constructor) | simp only [rB, rP, rQ, boolA, intA, resultA, resA, reduceIte, reduceCtorEq, Nat.reduceAdd, Nat.reduceLT, Nat.reduceEqDiff, UInt8.reduceToNat, pe3, pf3, t0, t4, t5, Bool.not_true, Bool.not_false, y1, y2, y5, yb, b_gt, g2, b_minus, ek, w1, w2, w4, fe_0, ld_9, v0, z0, y4, vb] | (with_reducible refine w_plan H (i := 7) (.take 0 (.take 1 (.take 2 (.take 3 (.alt 4 [0, 1, 2, 3] (.take 5 (.take 6 (.take 7 (.take 8 (.take 9 (.take 10 (.take 11 (.take 12 (.take 13 (.take 14 (.take 15 (.take 16 (.take 17 (.take 18 (.take 19 (.take 20 (.alt 21 [0, 1, 2, 3, 4, 5, 6, 7, 8, 9, 10, 11, 12, 13, 14, 15, 16, 17, 18, 19, 20] (.take 22 (.take 23 (.take 24 (.done)))) (.yes)))))))))))))))))) (.yes)))))) rfl (by kernel_rfl) ?_) | (refine less4_c H (by have := (may_len hme').1; omega) ?_; rw [elt]))
      rw [← hpv] at hok
    all_goals
      refine split4_c H (by omega) ?_
      obtain ⟨hfind, hstep⟩ := simR_step SR hm hok
      repeat (first | with_reducible (refine w_one H ?_; constructor) | simp only [rB, rP, rQ, boolA, intA, resultA, resA, reduceIte, reduceCtorEq, Nat.reduceAdd, Nat.reduceLT, Nat.reduceEqDiff, UInt8.reduceToNat, t0, t4, t5])
      refine find5_c H Rp4 hB4 (by
        have : (splitR e.1).1.length ≤ e.1.length := by
          unfold splitR
          cases decide (lastI e.1 47 e.1.length ≥ 0)
          · exact Nat.zero_le _
          · simp only [cond_true, List.length_take]
            omega
        omega) (fun s5 hE5 hB5 => ?_)
      rw [hfind]
      have Rp5 := Rp4.ext hB4 hE5
      have y6 : s5.h.get id = some ob := (hE5.2 _ (hB4 _ _ y5)).trans y5
      have hEs5 : Ext s s5 := hEs4.trans hE5
      cases hl : lookK (e.1.take (cutE e.1)) K with
      | none =>
        rw [hl] at hrun
        repeat (first | with_reducible (refine w_one H ?_; constructor) | simp only [rB, rP, rQ, boolA, intA, resultA, resA, reduceIte, reduceCtorEq, Nat.reduceAdd, Nat.reduceLT, Nat.reduceEqDiff, UInt8.reduceToNat, t0, t4, t5, upA_none, b_np, eqS_rne, pu_rne, nil_nil, Tryz.results7])
        exact hf s5 (by rw [hrun]) hEs5 hB5
      | some u =>
        obtain ⟨ud, rd, hu, hrd, hkk, hmk⟩ := hstep u hl
        rw [hl] at hrun
        simp only [hu] at hrun
        obtain ⟨r1, r2, r3⟩ := Rp5.nd u rd hrd
        cases hkd : ud.kind != 1 with
        | true =>
          have g3 : (rd.kind != 1) = true := by rw [hkk]; exact hkd
          rw [hkd] at hrun
          repeat (first | with_reducible (refine w_one H ?_; constructor) | simp only [rB, rP, rQ, boolA, intA, resultA, resA, reduceIte, reduceCtorEq, Nat.reduceAdd, Nat.reduceLT, Nat.reduceEqDiff, UInt8.reduceToNat, t0, t4, t5, upA_some, b_pp, eq_rn, nilA_ptr, fr5_1, ld_3, r1, lr_1, ir_n, b_nei, g3, Tryz.results7])
          exact hf s5 (by rw [hrun]; rfl) hEs5 hB5
        | false =>
          have g3 : (rd.kind != 1) = false := by rw [hkk]; exact hkd
          rw [hkd, cond_false] at hrun
          have hidl := hB5 _ _ y6
          have m1 : (id = s5.nx) = False := by simp; omega
          have hx5 := Rp5.tr
          have lx := Rp5.lx hB5
          obtain ⟨nx0, nx1⟩ := Rp5.nx
          have hnx := SR.nxt
          have htl : (es.take k).length = k := by rw [List.length_take]; omega
          rw [htl] at hnx
          obtain ⟨k1, k2, k3, SR'⟩ := hmk (by simpa using hkd) (by omega)
          have hul := (List.getElem?_eq_some_iff.mp hrd).1
          repeat (first | with_reducible (refine w_one H ?_; constructor) | simp only [rB, rP, rQ, boolA, intA, resultA, resA, reduceIte, reduceCtorEq, Nat.reduceAdd, Nat.reduceLT, Nat.reduceEqDiff, UInt8.reduceToNat, pe3, pf3, t0, t4, t5, upA_some, b_pp, eq_rn, nilA_ptr, fr5_1, ld_3, ld_9, r1, lr_1, ir_n, b_nei, g3, y1, y4, y6, yb, m1, z1, z2, z3, fe_1, fe_2, fe_3, bd_rk, cells_agg] | (with_reducible refine w_plan H (i := 13) (.take 0 (.take 1 (.take 2 (.take 3 (.take 4 (.take 5 (.take 6 (.take 7 (.take 8 (.take 9 (.take 10 (.take 11 (.take 12 (.take 13 (.take 14 (.take 15 (.take 16 (.take 17 (.take 18 (.alt 19 [3, 4, 5, 6, 7, 8, 9, 10, 11, 12, 13, 14, 15, 16, 17, 18] (.alt 20 [2, 3, 4, 5, 6, 7, 8, 9, 10, 11, 12, 13, 14, 15, 16, 17, 18, 19] (.alt 21 [0, 1, 2, 3, 4, 5, 6, 7, 8, 9, 10, 11, 12, 13, 14, 15, 16, 17, 18, 19, 20] (.done) (.yes)) (.yes)) (.yes))))))))))))))))))))) rfl (by kernel_rfl) ?_))
          have a1 : (s5.alloc (rnA ι (newR e.2.1 e.2.2.1 e.2.2.2) nilS nilS)).h.get (s.nx + 1) = some (rtA (ι 0) (ι R.cwd) φ R.next) := (al_ne (by omega)).trans hx5
          have a2 : (s5.alloc (rnA ι (newR e.2.1 e.2.2.1 e.2.2.2) nilS nilS)).h.get s5.nx = some (rnA ι (newR e.2.1 e.2.2.1 e.2.2.2) nilS nilS) := al_same
          have a3 : (s5.alloc (rnA ι (newR e.2.1 e.2.2.1 e.2.2.2) nilS nilS)).h.get id = some ob := (al_ne (by omega)).trans y6
          refine num5_d H (below_al hB5 _) a1 a2 (by omega) ⟨nx0, nx1⟩ (fun s7 hn7 hB7 b1 b2 b3 => ?_)
          have y7 : s7.h.get id = some ob := (b3 _ (by omega) (by omega)).trans a3
          have hn7 : s7.nx = s5.nx + 1 := hn7
          obtain ⟨Ra, Na⟩ := Rp5.add (s' := s7) hB5 (y := s5.nx) (nd := newR e.2.1 e.2.2.1 e.2.2.2) ⟨rfl, rfl, rfl⟩ (Nat.le_refl _) (by omega) b1 b2 (fun i hi h1 => (b3 i h1 (by omega)).trans (al_ne (by omega))) (by omega)
          have hu7 : (addM R (newR e.2.1 e.2.2.1 e.2.2.2)).nodes[u]? = some rd := (List.getElem?_append_left hul).trans hrd
          have hj7 : (addM R (newR e.2.1 e.2.2.1 e.2.2.2)).nodes[R.nodes.length]? = some { newR e.2.1 e.2.2.1 e.2.2.2 with id := R.next + 1 } := by
            unfold addM
            simp
          repeat (first | with_reducible (refine w_one H ?_; constructor) | simp only [rB, rP, rQ, boolA, intA, resultA, resA, reduceIte, reduceCtorEq, Nat.reduceAdd, Nat.reduceLT, Nat.reduceEqDiff, UInt8.reduceToNat, pe3, pf3, t0, t4, t5, y7, yb, beqA] | (with_reducible refine w_plan H (i := 13) (.take 0 (.take 1 (.take 2 (.take 3 (.take 4 (.take 5 (.take 6 (.take 7 (.take 8 (.take 9 (.take 10 (.take 11 (.take 12 (.take 13 (.take 14 (.take 15 (.take 16 (.take 17 (.take 18 (.alt 19 [3, 4, 5, 6, 7, 8, 9, 10, 11, 12, 13, 14, 15, 16, 17, 18] (.alt 20 [2, 3, 4, 5, 6, 7, 8, 9, 10, 11, 12, 13, 14, 15, 16, 17, 18, 19] (.alt 21 [0, 1, 2, 3, 4, 5, 6, 7, 8, 9, 10, 11, 12, 13, 14, 15, 16, 17, 18, 19, 20] (.done) (.yes)) (.yes)) (.yes))))))))))))))))))))) rfl (by kernel_rfl) ?_))
          refine put_c' H Ra hB7 (u := u) (j := R.nodes.length) (if_neg (by omega)) (if_pos rfl) hu7 hj7 (fun e => k3 e.symm) k1 k2 (fun s8 ν8 κ8 R8 hB8 N8 => ?_)
          have NN := Na.trans N8
          have hE8 : Ext s s8 := ⟨by have := NN.nx; have := hEs5.1; omega, fun i hi => by
            have h5 := hEs5.1
            have : s8.h.get i = s5.h.get i := NN.fr i (by omega) (fun ho => by have := hown i ho; omega)
            exact this.trans (hEs5.2 i hi)⟩
          repeat (first | with_reducible (refine w_one H ?_; constructor) | simp only [rB, rP, rQ, boolA, intA, resultA, resA, reduceIte, reduceCtorEq, Nat.reduceAdd, Nat.reduceLT, Nat.reduceEqDiff, UInt8.reduceToNat, t0, t4, t5, b_plus, ew, y7, yb] | (with_reducible refine w_plan H (i := 13) (.take 0 (.take 1 (.take 2 (.take 3 (.take 4 (.take 5 (.take 6 (.take 7 (.take 8 (.take 9 (.take 10 (.take 11 (.take 12 (.take 13 (.take 14 (.take 15 (.take 16 (.take 17 (.take 18 (.alt 19 [3, 4, 5, 6, 7, 8, 9, 10, 11, 12, 13, 14, 15, 16, 17, 18] (.alt 20 [2, 3, 4, 5, 6, 7, 8, 9, 10, 11, 12, 13, 14, 15, 16, 17, 18, 19] (.alt 21 [0, 1, 2, 3, 4, 5, 6, 7, 8, 9, 10, 11, 12, 13, 14, 15, 16, 17, 18, 19, 20] (.done) (.yes)) (.yes)) (.yes))))))))))))))))))))) rfl (by kernel_rfl) ?_))
          refine ih n _ _ (Nat.lt_succ_self n) ⟨k + 1, _, _, some e.1, _, _, ν8, κ8, φ, by omega, by simp only [rB, rP, rQ, boolA, intA, resultA, resA, reduceIte, reduceCtorEq, Nat.reduceAdd, Nat.reduceLT, Nat.reduceEqDiff, UInt8.reduceToNat, t0], by simp only [rB, rP, rQ, boolA, intA, resultA, resA, reduceIte, reduceCtorEq, Nat.reduceAdd, Nat.reduceLT, Nat.reduceEqDiff, UInt8.reduceToNat, t4], by simp only [rB, rP, rQ, boolA, intA, resultA, resA, reduceIte, reduceCtorEq, Nat.reduceAdd, Nat.reduceLT, Nat.reduceEqDiff, UInt8.reduceToNat], hE8, hB8, R8, fun i hi => ?_, by rw [htk]; exact SR', Or.inr ⟨e, by omega, by simpa using hke, rfl, hm⟩, hrun⟩
          rcases NN.ow i hi with h | h
          · exact hown i h
          · have := hEs5.1
            omega
end Go.AX
