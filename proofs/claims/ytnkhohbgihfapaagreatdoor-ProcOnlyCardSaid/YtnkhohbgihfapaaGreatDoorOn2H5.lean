import Derived.Test.YtnkhohbgihfapaaGreatDoorOn2H3
import Derived.Test.YtnkhohbgihfapaaGreatDoorOn2H2
import Derived.Test.YtnkhohbgihfapaaGreatDoorOn2H4
set_option linter.unusedVariables false
set_option linter.unusedSimpArgs false
set_option linter.defProp false
namespace Go.AX
open Go.Proofs Go.RowKit
set_option maxRecDepth 1000000
set_option maxHeartbeats 400000000
set_option linter.unusedSimpArgs false
set_option linter.unusedVariables false
theorem hpB_iff {p q : List Nat} : hpB p q = true ↔ ∃ r, p = q ++ r := by
  unfold hpB
  constructor
  · intro h
    cases hd : decide ((p.length : Int) ≥ (q.length : Int)) with
    | false => rw [hd] at h; cases h
    | true =>
      rw [hd, cond_true] at h
      have e : p.take q.length = q := by rw [eqB_dec] at h; exact of_decide_eq_true h
      exact ⟨p.drop q.length, by conv => lhs; rw [← List.take_append_drop q.length p, e]⟩
  · rintro ⟨r, rfl⟩
    have : decide (((q ++ r).length : Int) ≥ (q.length : Int)) = true := by rw [decide_eq_true_eq, List.length_append]; omega
    rw [this, cond_true, List.take_left, eqB_dec, decide_eq_true_eq]
theorem belK_iff {p q : List Nat} : belK p q = true ↔ ∃ r, q = p ++ 47 :: r := by
  unfold belK
  rw [hpB_iff]
  simp [List.append_assoc]
theorem lastI_at {b : List Nat} {c : Nat} : ∀ {n i : Nat}, lastI b c n = (i : Int) → b[i]? = some c
  | 0, i, h => by simp only [lastI] at h; omega
  | n + 1, i, h => by
    simp only [lastI] at h
    cases hx : b[n]? with
    | none =>
      rw [hx] at h
      exact lastI_at h
    | some x =>
      rw [hx] at h
      simp only at h
      cases hb : Nat.beq x c with
      | true =>
        rw [hb, cond_true] at h
        have : n = i := by omega
        rw [← this, hx, Nat.eq_of_beq_eq_true hb]
      | false =>
        rw [hb, cond_false] at h
        exact lastI_at h
theorem lastI_ge {b : List Nat} {c : Nat} : ∀ {n i : Nat}, i < n → b[i]? = some c → (i : Int) ≤ lastI b c n
  | 0, i, h, _ => by omega
  | n + 1, i, h, hi => by
    simp only [lastI]
    by_cases e : i = n
    · subst e
      rw [hi]
      simp only [Nat.beq_refl, cond_true]
      exact Int.le_refl _
    · have ih := lastI_ge (n := n) (by omega) hi
      cases hx : b[n]? with
      | none => exact ih
      | some x =>
        simp only
        cases Nat.beq x c with
        | true => simp only [cond_true]; omega
        | false => exact ih
theorem upE_bel {k p : List Nat} (h : upE k = p) (hp : p ≠ []) : belK p k = true := by
  have hl := lastI_lt (b := k) (c := 47) (n := k.length)
  have hc := cutE_le (p := k)
  have hlen : p.length = cutE k := by rw [← h]; unfold upE; rw [List.length_take]; omega
  have hpos : 0 < p.length := List.length_pos_iff.mpr hp
  have hI : lastI k 47 k.length = ((cutE k : Nat) : Int) := by unfold cutE; unfold cutE at hlen; omega
  have hat := lastI_at hI
  rw [belK_iff]
  have hlt : cutE k < k.length := (List.getElem?_eq_some_iff.1 hat).1
  refine ⟨k.drop (cutE k + 1), ?_⟩
  have e1 : k = k.take (cutE k) ++ k.drop (cutE k) := (List.take_append_drop _ _).symm
  have e2 : k.drop (cutE k) = 47 :: k.drop (cutE k + 1) := by
    rw [List.drop_eq_getElem_cons hlt, (List.getElem?_eq_some_iff.1 hat).2]
  rw [← h]
  unfold upE
  rw [← e2]
  exact e1
theorem bel_up {p k : List Nat} (hp : p ≠ []) (h : belK p k = true) : upE k = p ∨ (belK p (upE k) = true ∧ upE k ≠ [] ∧ (upE k).length < k.length) := by
  rw [belK_iff] at h
  obtain ⟨r, rfl⟩ := h
  have hat : (p ++ 47 :: r)[p.length]? = some 47 := by rw [List.getElem?_append_right (Nat.le_refl _)]; simp
  have hlt : p.length < (p ++ 47 :: r).length := by simp
  have hge := lastI_ge hlt hat
  have hl := lastI_lt (b := p ++ 47 :: r) (c := 47) (n := (p ++ 47 :: r).length)
  have hc : cutE (p ++ 47 :: r) = (lastI (p ++ 47 :: r) 47 (p ++ 47 :: r).length).toNat := rfl
  have hle := cutE_le (p := p ++ 47 :: r)
  by_cases e : cutE (p ++ 47 :: r) = p.length
  · refine Or.inl ?_
    unfold upE
    rw [e, List.take_left]
  · refine Or.inr ?_
    obtain ⟨d, hd⟩ : ∃ d, cutE (p ++ 47 :: r) = p.length + (d + 1) := ⟨cutE (p ++ 47 :: r) - p.length - 1, by omega⟩
    have hu : upE (p ++ 47 :: r) = p ++ 47 :: r.take d := by
      unfold upE
      rw [hd, List.take_length_add_append, List.take_succ_cons]
    rw [hu]
    refine ⟨belK_iff.2 ⟨_, rfl⟩, by simp, ?_⟩
    rw [← hu]
    unfold upE
    rw [List.length_take]
    omega
theorem bel_trans {p q k : List Nat} (h1 : belK p q = true) (h2 : belK q k = true) : belK p k = true := by
  rw [belK_iff] at *
  obtain ⟨r, rfl⟩ := h1
  obtain ⟨r', rfl⟩ := h2
  exact ⟨r ++ 47 :: r', by simp [List.append_assoc]⟩
theorem bel_irrefl {p : List Nat} : belK p p = false := by
  rw [← Bool.not_eq_true, belK_iff]
  rintro ⟨r, h⟩
  have := congrArg List.length h
  simp at this
theorem up_lt {p : List Nat} (hp : p ≠ []) : (upE p).length < p.length := by
  have hl := lastI_lt (b := p) (c := 47) (n := p.length)
  have hpos : 0 < p.length := List.length_pos_iff.mpr hp
  unfold upE cutE
  rw [List.length_take]
  omega
theorem up_ne_self {p : List Nat} (hp : p ≠ []) : upE p ≠ p := fun h => by have := up_lt hp; rw [h] at this; omega
theorem up_not_bel {p : List Nat} (hp : p ≠ []) : belK p (upE p) = false := by
  rw [← Bool.not_eq_true, belK_iff]
  rintro ⟨r, h⟩
  have h1 := up_lt hp
  rw [h] at h1
  simp at h1
  omega
theorem lookG_mem {α : Type} {p : List Nat} {v : α} : ∀ {l : List (List Nat × α)}, lookG p l = some v → (p, v) ∈ l
  | [], h => by cases h
  | (q, w) :: l, h => by
    simp only [lookG] at h
    cases he : eqB p q with
    | true =>
      rw [he, cond_true] at h
      rw [eqB_dec] at he
      cases h
      rw [of_decide_eq_true he]
      exact List.mem_cons_self
    | false =>
      rw [he] at h
      exact List.mem_cons_of_mem _ (lookG_mem h)
theorem lookG_none {α : Type} {p : List Nat} : ∀ {l : List (List Nat × α)}, lookG p l = none ↔ p ∉ l.map (·.1)
  | [] => by simp [lookG]
  | (q, w) :: l => by
    have ih := lookG_none (p := p) (l := l)
    simp only [lookG, List.map_cons, List.mem_cons, not_or]
    cases he : eqB p q with
    | true =>
      rw [eqB_dec] at he
      have := of_decide_eq_true he
      simp [this]
    | false =>
      rw [eqB_dec] at he
      have := of_decide_eq_false he
      simp [this, ih]
theorem keys_setG {α : Type} {p : List Nat} {v w : α} : ∀ {l : List (List Nat × α)}, lookG p l = some w → (setG p v l).map (·.1) = l.map (·.1)
  | [], h => by cases h
  | (q, x) :: l, h => by
    simp only [lookG] at h
    simp only [setG]
    cases he : eqB p q with
    | true =>
      rw [eqB_dec] at he
      simp [of_decide_eq_true he]
    | false =>
      rw [he] at h
      simp [keys_setG h]
theorem keys_delG {α : Type} {p : List Nat} : ∀ {l : List (List Nat × α)}, (delG p l).map (·.1) = (l.map (·.1)).erase p
  | [] => rfl
  | (q, x) :: l => by
    simp only [delG, List.map_cons, List.erase_cons]
    cases he : eqB p q with
    | true =>
      rw [eqB_dec] at he
      simp [of_decide_eq_true he]
    | false =>
      rw [eqB_dec] at he
      have := of_decide_eq_false he
      have h2 : (q == p) = false := by rw [beq_eq_false_iff_ne]; exact fun h => this h.symm
      simp [h2, keys_delG (l := l)]
theorem delG_sub {α : Type} {p : List Nat} : ∀ {l : List (List Nat × α)}, (delG p l).Sublist l
  | [] => List.Sublist.refl _
  | (q, x) :: l => by
    simp only [delG]
    cases eqB p q with
    | true => exact List.sublist_cons_self _ _
    | false => exact List.Sublist.cons_cons _ delG_sub
theorem lookG_setG {α : Type} {p q : List Nat} {v : α} : ∀ {l : List (List Nat × α)}, lookG q (setG p v l) = if q = p then some v else lookG q l
  | [] => by
    simp only [setG, lookG]
    cases he : eqB q p with
    | true => rw [eqB_dec] at he; simp [of_decide_eq_true he]
    | false => rw [eqB_dec] at he; simp [of_decide_eq_false he]
  | (r, x) :: l => by
    have ih := lookG_setG (p := p) (q := q) (v := v) (l := l)
    simp only [setG]
    cases he : eqB p r with
    | true =>
      rw [eqB_dec] at he
      have := of_decide_eq_true he
      subst this
      simp only [cond_true, lookG]
      cases h2 : eqB q p with
      | true => rw [eqB_dec] at h2; simp [of_decide_eq_true h2]
      | false => rw [eqB_dec] at h2; simp [of_decide_eq_false h2]
    | false =>
      rw [eqB_dec] at he
      have hpr := of_decide_eq_false he
      simp only [cond_false, lookG, ih]
      cases h2 : eqB q r with
      | true =>
        rw [eqB_dec] at h2
        have := of_decide_eq_true h2
        subst this
        have : ¬ q = p := fun h => hpr h.symm
        simp [this]
      | false => rfl
theorem lookG_delG {α : Type} {p q : List Nat} : ∀ {l : List (List Nat × α)}, (l.map (·.1)).Nodup → lookG q (delG p l) = if q = p then none else lookG q l
  | [], _ => by simp [delG, lookG]
  | (r, x) :: l, hn => by
    simp only [List.map_cons, List.nodup_cons] at hn
    have ih := lookG_delG (p := p) (q := q) (l := l) hn.2
    simp only [delG]
    cases he : eqB p r with
    | true =>
      rw [eqB_dec] at he
      have := of_decide_eq_true he
      subst this
      simp only [cond_true, lookG]
      by_cases h : q = p
      · subst h
        rw [if_pos rfl]
        exact lookG_none.2 hn.1
      · have : eqB q p = false := by rw [eqB_dec]; exact decide_eq_false h
        simp [this, h]
    | false =>
      rw [eqB_dec] at he
      have hpr := of_decide_eq_false he
      simp only [cond_false, lookG, ih]
      cases h2 : eqB q r with
      | true =>
        rw [eqB_dec] at h2
        have := of_decide_eq_true h2
        subst this
        have : ¬ q = p := fun h => hpr h.symm
        simp [this]
      | false => rfl
theorem nodup_setG {α : Type} {p : List Nat} {v : α} {l : List (List Nat × α)} (h : (l.map (·.1)).Nodup) : ((setG p v l).map (·.1)).Nodup := by
  cases hl : lookG p l with
  | some w => rw [keys_setG hl]; exact h
  | none =>
    rw [setG_app l hl, List.map_append, List.nodup_append]
    refine ⟨h, by simp, fun a ha b hb => ?_⟩
    simp at hb
    subst hb
    intro e
    subst e
    exact lookG_none.1 hl ha
theorem nodup_delG {α : Type} {p : List Nat} {l : List (List Nat × α)} (h : (l.map (·.1)).Nodup) : ((delG p l).map (·.1)).Nodup := h.sublist (delG_sub.map _)
theorem delsK_look {D : List (List Nat)} {q : List Nat} : ∀ {K : List (List Nat × Int)}, (K.map (·.1)).Nodup → ((delsK D K).map (·.1)).Nodup ∧ lookG q (delsK D K) = if q ∈ D then none else lookG q K := by
  induction D with
  | nil => intro K h; exact ⟨h, by simp [delsK]⟩
  | cons d D ih =>
    intro K h
    have h' := nodup_delG (p := d) h
    obtain ⟨i1, i2⟩ := ih h'
    have e : delsK (d :: D) K = delsK D (delG d K) := rfl
    rw [e]
    refine ⟨i1, ?_⟩
    rw [i2, lookG_delG h]
    by_cases hq : q ∈ D
    · simp [hq]
    · by_cases hd : q = d
      · simp [hd]
      · simp [hq, hd]
end Go.AX
namespace Go.AX
open Go.Proofs Go.RowKit
set_option maxRecDepth 1000000
set_option maxHeartbeats 400000000
set_option linter.unusedSimpArgs false
set_option linter.unusedVariables false
def keysF (N : List (List Nat × En)) : List (List Nat) := N.map (·.1)
def upB (q k : List Nat) : Bool := eqB (upE k) q
structure FI (B : Nat) (N : List (List Nat × En)) (K : List (List Nat × Int)) : Prop where
  nd : (keysF N).Nodup
  kd : (K.map (·.1)).Nodup
  key : ∀ x ∈ N, x.2.1 = x.1
  par : ∀ k ∈ keysF N, upE k ≠ [] → upE k ∈ keysF N
  cnt : ∀ q, (lookG q K).getD 0 = ((keysF N).countP (upB q) : Int)
  len : N.length ≤ B
  ne : [] ∉ keysF N
theorem FI.zero : FI 0 [] [] := ⟨by simp [keysF], by simp, by simp, by simp [keysF], fun q => by simp [lookG, keysF], Nat.le_refl _, by simp [keysF]⟩
def cutN (p : List Nat) (N : List (List Nat × En)) : List (List Nat × En) := delG p (N.filter fun q => !belK p q.1)
theorem keys_filter {p : List Nat} {N : List (List Nat × En)} : keysF (N.filter fun q => !belK p q.1) = (keysF N).filter fun k => !belK p k := by
  unfold keysF
  induction N with
  | nil => rfl
  | cons x l ih =>
    simp only [List.filter_cons, List.map_cons]
    cases belK p x.1 <;> simp [ih]
theorem keys_cut {p : List Nat} {N : List (List Nat × En)} : keysF (cutN p N) = ((keysF N).filter fun k => !belK p k).erase p := by
  unfold cutN
  rw [← keys_filter]
  exact keys_delG
theorem mem_cut {p k : List Nat} {N : List (List Nat × En)} (hn : (keysF N).Nodup) : k ∈ keysF (cutN p N) ↔ k ∈ keysF N ∧ belK p k = false ∧ k ≠ p := by
  rw [keys_cut, List.Nodup.mem_erase_iff (hn.sublist List.filter_sublist), List.mem_filter]
  constructor
  · rintro ⟨h1, h2, h3⟩
    exact ⟨h2, by simpa using h3, h1⟩
  · rintro ⟨h1, h2, h3⟩
    exact ⟨h3, h1, by rw [h2]; rfl⟩
theorem upB_iff {q k : List Nat} : upB q k = true ↔ upE k = q := by unfold upB; rw [eqB_dec, decide_eq_true_eq]
theorem none_below {N : List (List Nat × En)} (par : ∀ k ∈ keysF N, upE k ≠ [] → upE k ∈ keysF N) {p : List Nat} (hp : p ≠ []) (h0 : (keysF N).countP (upB p) = 0) : ∀ n k, k.length ≤ n → k ∈ keysF N → belK p k = false := by
  intro n
  induction n with
  | zero =>
    intro k hk _
    rw [← Bool.not_eq_true, belK_iff]
    rintro ⟨r, rfl⟩
    simp at hk
  | succ n ih =>
    intro k hk hm
    rw [← Bool.not_eq_true]
    intro hb
    rcases bel_up hp hb with h | ⟨h1, h2, h3⟩
    · rw [List.countP_eq_zero] at h0
      exact h0 k hm (upB_iff.2 h)
    · have := ih (upE k) (by omega) (par k hm h2)
      rw [this] at h1
      cases h1
theorem wrapF {x : Int} (h : -9000000000 ≤ x ∧ x ≤ 9000000000) : IntKind.i64.wrap x = x := Go.IntWalk.i64_in _ (by omega)
theorem look_bump {p q : List Nat} {d : Int} {K : List (List Nat × Int)} : (lookG q (bumpK p d K)).getD 0 = if q = p then IntKind.i64.wrap ((lookG p K).getD 0 + d) else (lookG q K).getD 0 := by
  unfold bumpK
  rw [lookG_setG]
  split <;> rfl
theorem FI.gone {B : Nat} {N : List (List Nat × En)} {K : List (List Nat × Int)} (F : FI B N K) {p : List Nat} (hp : p ≠ []) (hB : B ≤ 1000000) {old : En} (hm : lookG p N = some old) {D : List (List Nat)} {N1 : List (List Nat × En)} (hG : GoneD N K p D N1) :
    delG p N1 = cutN p N ∧ FI B (cutN p N) (bumpK (upE p) (-1) (delG p (delsK D K))) ∧ lookG p (cutN p N) = none ∧ (upE p ≠ [] → upE p ∈ keysF (cutN p N)) := by
  have hpm : p ∈ keysF N := List.mem_map.2 ⟨_, lookG_mem hm, rfl⟩
  have hbel : N1 = N.filter (fun q => !belK p q.1) ∧ ∀ d, d ∈ D ↔ d ∈ keysF N ∧ belK p d = true := by
    rcases hG with ⟨_, h1, h2⟩ | ⟨h0, h1, h2⟩
    · exact ⟨h1, h2⟩
    · have hc : (keysF N).countP (upB p) = 0 := by
        have h3 : decide ((lookG p K).getD 0 > 0) = false := by
          cases hd : decide ((lookG p K).getD 0 > 0) with
          | false => rfl
          | true => rw [hd] at h0; cases h0
        have h4 := of_decide_eq_false h3
        rw [F.cnt p] at h4
        omega
      have nb := fun k (hk : k ∈ keysF N) => none_below F.par hp hc k.length k (Nat.le_refl _) hk
      refine ⟨?_, fun d => ?_⟩
      · rw [h1]
        refine (List.filter_eq_self.2 fun x hx => ?_).symm
        rw [nb x.1 (List.mem_map.2 ⟨x, hx, rfl⟩)]
        rfl
      · rw [h2]
        simp only [List.not_mem_nil, false_iff]
        rintro ⟨h3, h4⟩
        rw [nb d h3] at h4
        cases h4
  obtain ⟨hN1, hD⟩ := hbel
  have eN : delG p N1 = cutN p N := by rw [hN1]; rfl
  have hnd : (keysF (cutN p N)).Nodup := by rw [keys_cut]; exact (F.nd.sublist List.filter_sublist).erase _
  have hsub : (cutN p N).Sublist N := delG_sub.trans List.filter_sublist
  have hupm : upE p ≠ [] → upE p ∈ keysF (cutN p N) := fun h => (mem_cut F.nd).2 ⟨F.par p hpm h, up_not_bel hp, up_ne_self hp⟩
  have hlk := fun q => (delsK_look (D := D) (q := q) F.kd)
  have hkd : ((delG p (delsK D K)).map (·.1)).Nodup := nodup_delG (hlk p).1
  refine ⟨eN, ⟨hnd, nodup_setG hkd, fun x hx => F.key x (hsub.mem hx), fun k hk hu => ?_, fun q => ?_, Nat.le_trans hsub.length_le F.len, fun h => F.ne ((mem_cut F.nd).1 h).1⟩, ?_, hupm⟩
  · obtain ⟨h1, h2, h3⟩ := (mem_cut F.nd).1 hk
    refine (mem_cut F.nd).2 ⟨F.par k h1 hu, ?_, ?_⟩
    · rw [← Bool.not_eq_true]
      intro hb
      rw [bel_trans hb (upE_bel rfl hu)] at h2
      cases h2
    · intro e
      rw [upE_bel e hp] at h2
      cases h2
  · have hlen : (keysF N).countP (upB (upE p)) ≤ 1000000 := Nat.le_trans (Nat.le_trans List.countP_le_length (by rw [keysF, List.length_map]; exact F.len)) hB
    -- what the count comes to
    have c1 : (keysF (cutN p N)).countP (upB q) + (if upE p = q then 1 else 0) = ((keysF N).filter fun k => !belK p k).countP (upB q) := by
      have hpf : p ∈ (keysF N).filter fun k => !belK p k := List.mem_filter.2 ⟨hpm, by rw [bel_irrefl]; rfl⟩
      have := (List.perm_cons_erase hpf).countP_eq (upB q)
      rw [keys_cut, this, List.countP_cons]
      by_cases h : upE p = q
      · rw [if_pos h, if_pos (upB_iff.2 h)]
      · rw [if_neg h, if_neg (fun e => h (upB_iff.1 e))]
    have c2 : ((keysF N).filter fun k => !belK p k).countP (upB q) = if q = p ∨ q ∈ D then 0 else (keysF N).countP (upB q) := by
      by_cases hq : q = p ∨ q ∈ D
      · rw [if_pos hq, List.countP_eq_zero]
        intro k hk hu
        have hu := upB_iff.1 hu
        obtain ⟨h1, h2⟩ := List.mem_filter.1 hk
        have h2 : belK p k = false := by simpa using h2
        rcases hq with rfl | hq
        · rw [upE_bel hu hp] at h2
          cases h2
        · have hbq := ((hD q).1 hq).2
          have hqn : q ≠ [] := fun e => by
            rw [e] at hq
            exact F.ne ((hD []).1 hq).1
          rw [bel_trans hbq (upE_bel hu hqn)] at h2
          cases h2
      · rw [if_neg hq]
        rw [List.countP_filter]
        refine List.countP_congr fun k hk => ?_
        constructor
        · intro h
          exact (Bool.and_eq_true_iff.1 h).1
        · intro h
          refine Bool.and_eq_true_iff.2 ⟨h, ?_⟩
          have hu := upB_iff.1 h
          cases hb : belK p k with
          | false => rfl
          | true =>
            exfalso
            rcases bel_up hp hb with h1 | ⟨h1, h2, _⟩
            · exact hq (Or.inl (hu.symm.trans h1))
            · rw [hu] at h1 h2
              exact hq (Or.inr ((hD q).2 ⟨by rw [← hu]; exact F.par k hk (by rw [hu]; exact h2), h1⟩))
    rw [look_bump]
    have lk : ∀ z, (lookG z (delG p (delsK D K))).getD 0 = if z = p ∨ z ∈ D then 0 else ((keysF N).countP (upB z) : Int) := by
      intro z
      rw [lookG_delG (hlk z).1, (hlk z).2]
      by_cases h1 : z = p
      · simp [h1]
      · by_cases h2 : z ∈ D
        · simp [h1, h2]
        · simp only [h1, h2, if_false, or_self]
          exact F.cnt z
    by_cases hq : q = upE p
    · subst hq
      have n1 : ¬ (upE p = p ∨ upE p ∈ D) := by
        rintro (h | h)
        · exact up_ne_self hp h
        · have := ((hD _).1 h).2
          rw [up_not_bel hp] at this
          cases this
      rw [if_pos rfl, lk, if_neg n1]
      rw [if_pos rfl, c2, if_neg n1] at c1
      rw [wrapF (by omega)]
      omega
    · rw [if_neg hq, lk]
      rw [if_neg (fun e => hq e.symm), c2] at c1
      rw [Nat.add_zero] at c1
      rw [c1]
      split <;> rfl
  · rw [lookG_none]
    intro h
    exact ((mem_cut F.nd).1 h).2.2 rfl
end Go.AX
namespace Go.AX
open Go.Proofs Go.RowKit
set_option maxRecDepth 1000000
set_option maxHeartbeats 400000000
set_option linter.unusedSimpArgs false
set_option linter.unusedVariables false
def okUpN (N : List (List Nat × En)) (e : En) : Bool := bif eqB (upE e.1) [] then true else !(((lookG (upE e.1) N).getD enZ).2.1 != 1)
def applyN (N : List (List Nat × En)) (e : En) : Option (List (List Nat × En)) := bif okUpN N e then (match lookG e.1 N with
  | none => bif e.2.1 == 4 then none else some (N ++ [(e.1, kd5 e)])
  | some old => bif e.2.1 == 1 && old.2.1 == 1 then some (setG e.1 (old.1, old.2.1, e.2.2.1, old.2.2.2) N) else bif e.2.1 == 4 then some (cutN e.1 N) else some (cutN e.1 N ++ [(e.1, kd5 e)])) else none
structure FI0 (B : Nat) (N : List (List Nat × En)) (K : List (List Nat × Int)) : Prop where
  nd : (keysF N).Nodup
  kd : (K.map (·.1)).Nodup
  key : ∀ x ∈ N, x.2.1 = x.1
  cnt : ∀ q, (lookG q K).getD 0 = ((keysF N).countP (upB q) : Int)
  len : N.length ≤ B
  ne : [] ∉ keysF N
theorem FI.to0 {B : Nat} {N : List (List Nat × En)} {K : List (List Nat × Int)} (F : FI B N K) : FI0 B N K := ⟨F.nd, F.kd, F.key, F.cnt, F.len, F.ne⟩
theorem FI0.to {B : Nat} {N : List (List Nat × En)} {K : List (List Nat × Int)} (F : FI0 B N K) (par : ∀ k ∈ keysF N, upE k ≠ [] → upE k ∈ keysF N) : FI B N K := ⟨F.nd, F.kd, F.key, par, F.cnt, F.len, F.ne⟩
theorem FI0.put {B : Nat} {N : List (List Nat × En)} {K : List (List Nat × Int)} (F : FI0 B N K) (hB : B ≤ 1000000) {v : En} (hne : v.1 ≠ []) (hl : lookG v.1 N = none) : FI0 (B + 1) (N ++ [(v.1, v)]) (bumpK (upE v.1) 1 K) := by
  have hk : keysF (N ++ [(v.1, v)]) = keysF N ++ [v.1] := by simp [keysF]
  have hnot := lookG_none.1 hl
  refine ⟨?_, nodup_setG F.kd, fun x hx => ?_, fun q => ?_, by simp; exact F.len, ?_⟩
  · rw [hk, List.nodup_append]
    refine ⟨F.nd, by simp, fun a ha b hb => ?_⟩
    simp at hb
    subst hb
    intro e
    subst e
    exact hnot ha
  · rcases List.mem_append.1 hx with h | h
    · exact F.key x h
    · simp at h; rw [h]
  · have hc : (keysF N).countP (upB q) ≤ 1000000 := Nat.le_trans (Nat.le_trans List.countP_le_length (by rw [keysF, List.length_map]; exact F.len)) hB
    rw [look_bump, hk, List.countP_append, List.countP_singleton]
    by_cases hq : q = upE v.1
    · subst hq
      rw [if_pos rfl, F.cnt, if_pos (upB_iff.2 rfl), wrapF (by omega)]
      omega
    · rw [if_neg hq, F.cnt, if_neg (fun e => hq (upB_iff.1 e).symm)]
      omega
  · rw [hk, List.mem_append]
    rintro (h | h)
    · exact F.ne h
    · simp at h; exact hne h
theorem FI.putP {B : Nat} {N : List (List Nat × En)} {K : List (List Nat × Int)} (F : FI B N K) (hB : B ≤ 1000000) {v : En} (hne : v.1 ≠ []) (hl : lookG v.1 N = none) (hp : upE v.1 ≠ [] → upE v.1 ∈ keysF N) : FI (B + 1) (N ++ [(v.1, v)]) (bumpK (upE v.1) 1 K) := by
  refine (F.to0.put hB hne hl).to fun k hk hu => ?_
  have hk' : keysF (N ++ [(v.1, v)]) = keysF N ++ [v.1] := by simp [keysF]
  rw [hk', List.mem_append] at hk ⊢
  rcases hk with h | h
  · exact Or.inl (F.par k h hu)
  · simp at h
    subst h
    exact Or.inl (hp hu)
theorem ok_par {N : List (List Nat × En)} {e : En} (h : eqB (upE e.1) [] = true ∨ (((lookG (upE e.1) N).getD enZ).2.1 != 1) = false) : okUpN N e = true ∧ (upE e.1 ≠ [] → upE e.1 ∈ keysF N) := by
  have h1 : upE e.1 ≠ [] → eqB (upE e.1) [] = false := fun hu => by rw [eqB_dec]; exact decide_eq_false hu
  constructor
  · unfold okUpN
    cases h2 : eqB (upE e.1) [] with
    | true => rfl
    | false =>
      rcases h with h | h
      · rw [h2] at h; cases h
      · rw [h]; rfl
  · intro hu
    rcases h with h | h
    · rw [h1 hu] at h; cases h
    · cases hl : lookG (upE e.1) N with
      | none => rw [hl] at h; cases h
      | some w => exact List.mem_map.2 ⟨_, lookG_mem hl, rfl⟩
theorem ApR.fin {B : Nat} {N N' : List (List Nat × En)} {K K' : List (List Nat × Int)} {e : En} {b : Bool} (F : FI B N K) (hne : e.1 ≠ []) (hB : B ≤ 1000000) (A : ApR N K e b N' K') : (b = true ∧ applyN N e = some N' ∧ FI (B + 1) N' K') ∨ (b = false ∧ applyN N e = none) := by
  cases A with
  | up h1 h2 =>
    refine Or.inr ⟨rfl, ?_⟩
    have : okUpN N e = false := by unfold okUpN; rw [h1, h2]; rfl
    unfold applyN
    rw [this]
    rfl
  | gone0 h1 h2 =>
    refine Or.inr ⟨rfl, ?_⟩
    unfold applyN
    rw [h2, h1]
    cases okUpN N e <;> rfl
  | mode old h1 h2 h3 h4 =>
    refine Or.inl ⟨rfl, ?_, ?_⟩
    · unfold applyN
      rw [(ok_par h1).1, h2, h3]
      simp [h4]
    · have hk : keysF (setG e.1 (old.1, old.2.1, e.2.2.1, old.2.2.2) N) = keysF N := keys_setG h2
      have ho : old.1 = e.1 := F.key _ (lookG_mem h2)
      refine ⟨by rw [hk]; exact F.nd, F.kd, fun x hx => ?_, by rw [hk]; exact F.par, by rw [hk]; exact F.cnt, ?_, by rw [hk]; exact F.ne⟩
      · have : ∀ {l : List (List Nat × En)}, x ∈ setG e.1 (old.1, old.2.1, e.2.2.1, old.2.2.2) l → x ∈ l ∨ x = (e.1, (old.1, old.2.1, e.2.2.1, old.2.2.2)) := by
          intro l
          induction l with
          | nil => intro h; simp [setG] at h; exact Or.inr h
          | cons y l ih =>
            obtain ⟨q, w⟩ := y
            intro h
            simp only [setG] at h
            cases hb : eqB e.1 q with
            | true =>
              rw [hb, cond_true] at h
              rcases List.mem_cons.1 h with h | h
              · exact Or.inr h
              · exact Or.inl (List.mem_cons_of_mem _ h)
            | false =>
              rw [hb, cond_false] at h
              rcases List.mem_cons.1 h with h | h
              · exact Or.inl (h ▸ List.mem_cons_self)
              · rcases ih h with h | h
                · exact Or.inl (List.mem_cons_of_mem _ h)
                · exact Or.inr h
        rcases this hx with h | h
        · exact F.key x h
        · rw [h]; exact ho
      · have := congrArg List.length hk
        simp only [keysF, List.length_map] at this
        have := F.len
        omega
  | gone1 old D N1 h1 h2 h3 h4 =>
    obtain ⟨g1, g2, g3, g4⟩ := F.gone hne hB h2 h4
    refine Or.inl ⟨rfl, ?_, ?_⟩
    · unfold applyN
      rw [(ok_par h1).1, h2, h3, g1]
      rfl
    · rw [g1]
      exact ⟨g2.nd, g2.kd, g2.key, g2.par, g2.cnt, Nat.le_succ_of_le g2.len, g2.ne⟩
  | over old D N1 h1 h2 h3 h4 h5 =>
    obtain ⟨g1, g2, g3, g4⟩ := F.gone hne hB h2 h5
    have e1 : (e.2.1 == 1 && old.2.1 == 1) = false := by
      cases ha : e.2.1 == 1 with
      | false => rfl
      | true =>
        have := h4 (by simpa using ha)
        simp [this]
    have e2 : (e.2.1 == 4) = false := by rw [beq_eq_false_iff_ne]; exact h3
    refine Or.inl ⟨rfl, ?_, ?_⟩
    · unfold applyN
      rw [(ok_par h1).1, h2]
      simp only [cond_true, e1, cond_false, e2]
      rw [g1, setG_app _ g3]
    · rw [g1, setG_app _ g3]
      have := g2.putP (v := kd5 e) hB hne g3 g4
      exact this
  | new h1 h2 h3 =>
    have e2 : (e.2.1 == 4) = false := by rw [beq_eq_false_iff_ne]; exact h3
    refine Or.inl ⟨rfl, ?_, ?_⟩
    · unfold applyN
      rw [(ok_par h1).1, h2]
      simp only [cond_true, e2, cond_false]
      rw [setG_app _ h2]
    · rw [setG_app _ h2]
      have := F.putP (v := kd5 e) hB hne h2 (ok_par h1).2
      exact this
def appsN : List (List Nat × En) → List En → Option (List (List Nat × En))
  | N, [] => some N
  | N, e :: l => match applyN N e with
    | none => none
    | some N' => appsN N' l
def pairE (es : List En) : List (List Nat × En) := es.map fun e => (e.1, e)
theorem keys_pair {es : List En} : keysF (pairE es) = es.map (·.1) := by simp [keysF, pairE]
theorem ground_fi : ∀ {es pre : List En} {K : List (List Nat × Int)} {B : Nat}, FI0 B (pairE pre) K → ((pre ++ es).map (·.1)).Nodup → [] ∉ es.map (·.1) → B + es.length ≤ 1000000 → (groundL (pairE pre, K) es).1 = pairE (pre ++ es) ∧ FI0 (B + es.length) (groundL (pairE pre, K) es).1 (groundL (pairE pre, K) es).2
  | [], pre, K, B, F, _, _, _ => by simpa [groundL] using F
  | e :: l, pre, K, B, F, hn, h0, hB => by
    have hne : e.1 ≠ [] := fun h => h0 (by simp [h])
    have hl : lookG e.1 (pairE pre) = none := by
      rw [lookG_none]
      show e.1 ∉ keysF (pairE pre)
      rw [keys_pair]
      intro hm
      rw [List.map_append, List.nodup_append] at hn
      exact hn.2.2 _ hm e.1 (by simp) rfl
    have F1 := F.put (v := e) (by simp at hB; omega) hne hl
    have ep : pairE pre ++ [(e.1, e)] = pairE (pre ++ [e]) := by simp [pairE]
    rw [ep] at F1
    have e0 : groundL (pairE pre, K) (e :: l) = groundL (pairE (pre ++ [e]), bumpK (upE e.1) 1 K) l := by
      simp only [groundL, setG_app _ hl, ep]
    obtain ⟨i1, i2⟩ := ground_fi (es := l) F1 (by simpa using hn) (fun h => h0 (by simp; exact Or.inr (by simpa using h))) (by simp at hB; omega)
    rw [e0]
    refine ⟨by rw [i1]; simp, ?_⟩
    have : B + (e :: l).length = B + 1 + l.length := by simp; omega
    rw [this]
    exact i2
def unP : List (List Nat) → List Nat
  | [] => []
  | [p] => p
  | p :: q :: l => p ++ 47 :: unP (q :: l)
theorem unP_pieces : ∀ {b : List Nat}, unP (pieces b) = b ∧ pieces b ≠ []
  | [] => ⟨rfl, by simp [pieces]⟩
  | c :: l => by
    obtain ⟨i1, i2⟩ := unP_pieces (b := l)
    simp only [pieces]
    cases hl : pieces l with
    | nil => exact absurd hl i2
    | cons p ps =>
      rw [hl] at i1
      cases hc : Nat.beq c 47 with
      | true =>
        have := Nat.eq_of_beq_eq_true hc
        subst this
        refine ⟨?_, by simp⟩
        simp only [cond_true, unP, List.nil_append, i1]
      | false =>
        refine ⟨?_, by simp⟩
        simp only [cond_false]
        cases ps with
        | nil => simp only [unP] at i1 ⊢; rw [i1]
        | cons q r => simp only [unP, List.cons_append] at i1 ⊢; rw [i1]
theorem parts_inj {a b : List Nat} (h : partsL a = partsL b) : a = b := by
  cases a with
  | nil =>
    cases b with
    | nil => rfl
    | cons y l => exact absurd h.symm (unP_pieces (b := y :: l)).2
  | cons x k =>
    cases b with
    | nil => exact absurd h (unP_pieces (b := x :: k)).2
    | cons y l =>
      have h : pieces (x :: k) = pieces (y :: l) := h
      have := congrArg unP h
      rw [unP_pieces.1, unP_pieces.1] at this
      exact this
def insEn (e : En) : List En → List En
  | [] => [e]
  | x :: l => bif decide (cmpP e.1 x.1 < 0) then e :: x :: l else x :: insEn e l
def sortEn : List En → List En
  | [] => []
  | e :: l => insEn e (sortEn l)
theorem insEn_perm {e : En} : ∀ {l : List En}, (insEn e l).Perm (e :: l)
  | [] => List.Perm.refl _
  | x :: l => by
    simp only [insEn]
    cases decide (cmpP e.1 x.1 < 0) with
    | true => exact List.Perm.refl _
    | false => exact (List.Perm.cons x insEn_perm).trans (List.Perm.swap e x l)
theorem sortEn_perm : ∀ {l : List En}, (sortEn l).Perm l
  | [] => List.Perm.refl _
  | e :: l => insEn_perm.trans (List.Perm.cons e sortEn_perm)
def RiseE (l : List En) : Prop := l.Pairwise fun a b => cmpP a.1 b.1 < 0
theorem insEn_rise {e : En} : ∀ {l : List En}, RiseE l → e.1 ∉ l.map (·.1) → RiseE (insEn e l)
  | [], _, _ => by simp [RiseE, insEn]
  | x :: l, h, hm => by
    simp only [RiseE, List.pairwise_cons] at h
    simp only [insEn]
    cases hd : decide (cmpP e.1 x.1 < 0) with
    | true =>
      have hd := of_decide_eq_true hd
      simp only [cond_true, RiseE, List.pairwise_cons]
      refine ⟨fun y hy => ?_, h⟩
      rcases List.mem_cons.1 hy with rfl | hy
      · exact hd
      · exact ltP_trans (show LtP _ _ from hd) (show LtP _ _ from h.1 y hy)
    | false =>
      have hd := of_decide_eq_false hd
      simp only [cond_false, RiseE, List.pairwise_cons]
      refine ⟨fun y hy => ?_, insEn_rise h.2 (fun hh => hm (List.mem_cons_of_mem _ hh))⟩
      rcases List.mem_cons.1 (insEn_perm.mem_iff.1 hy) with rfl | hy
      · exact ltP_total (fun h => hm (by rw [parts_inj h]; simp)) hd
      · exact h.1 y hy
theorem sortEn_rise : ∀ {l : List En}, (l.map (·.1)).Nodup → RiseE (sortEn l)
  | [], _ => by simp [RiseE, sortEn]
  | e :: l, h => by
    simp only [List.map_cons, List.nodup_cons] at h
    refine insEn_rise (sortEn_rise h.2) fun hm => h.1 ?_
    exact ((sortEn_perm (l := l)).map (·.1)).mem_iff.1 hm
theorem sorted_is {l l' : List En} (hn : (l.map (·.1)).Nodup) (hp : l'.Perm l) (hs : l'.Pairwise fun a b => ¬ cmpP b.1 a.1 < 0) : l' = sortEn l := by
  have hn' : (l'.map (·.1)).Nodup := (hp.map (·.1)).nodup_iff.2 hn
  refine rising_unique (r := fun a b : En => cmpP a.1 b.1 < 0) (fun a h => ltP_irrefl (show LtP _ _ from h)) (fun a b c h1 h2 => ltP_trans (show LtP _ _ from h1) (show LtP _ _ from h2)) ?_ (sortEn_rise hn) fun a => by rw [hp.mem_iff, sortEn_perm.mem_iff]
  rw [List.Nodup, List.pairwise_map] at hn'
  exact (hs.and hn').imp fun {a b} ⟨h1, h2⟩ => ltP_total (fun h => h2 (parts_inj h).symm) h1
end Go.AX
namespace Go.AX
open Go.Proofs Go.RowKit
set_option maxRecDepth 1000000
set_option maxHeartbeats 400000000
set_option linter.unusedSimpArgs false
set_option linter.unusedVariables false
def applyD (lower es : List En) : Option (List En) := match ofT lower with
  | none => none
  | some _ => bif (mayL es).2 != 0 then none else match appsN (pairE lower) es with
    | none => none
    | some N => bif decide ((N.length : Int) > 128) then none else some (sortEn (N.map (·.2)))
structure GoodE (es : List En) : Prop where
  may : ∀ e ∈ es, mayE e = true
  rise : RiseE es
  par : ∀ e ∈ es, upE e.1 ≠ [] → upE e.1 ∈ es.map (·.1)
  len : es.length ≤ 128
theorem lookK_key {p : List Nat} {u : Nat} : ∀ {K : List (List Nat × Nat)}, lookK p K = some u → p ∈ K.map (·.1)
  | [], h => by cases h
  | (q, j) :: l, h => by
    simp only [lookK] at h
    cases he : eqB p q with
    | true => rw [eqB_dec] at he; simp [of_decide_eq_true he]
    | false =>
      rw [he] at h
      exact List.mem_cons_of_mem _ (lookK_key h)
theorem setK_keys {p q : List Nat} {j : Nat} : ∀ {K : List (List Nat × Nat)}, q ∈ (setK p j K).map (·.1) → q = p ∨ q ∈ K.map (·.1)
  | [], h => by simp [setK] at h; exact Or.inl h
  | (r, i) :: l, h => by
    simp only [setK] at h
    cases he : eqB p r with
    | true =>
      rw [he, cond_true] at h
      rcases List.mem_cons.1 h with h | h
      · exact Or.inl h
      · exact Or.inr (List.mem_cons_of_mem _ h)
    | false =>
      rw [he, cond_false] at h
      rcases List.mem_cons.1 h with h | h
      · exact Or.inr (h ▸ List.mem_cons_self)
      · rcases setK_keys h with h | h
        · exact Or.inl h
        · exact Or.inr (List.mem_cons_of_mem _ h)
theorem ofRun_good : ∀ {l : List En} {M M' : Md} {K : List (List Nat × Nat)} {pv : Option (List Nat)}, ofRun l M K pv = some M' → (∀ e ∈ l, mayE e = true) ∧ RiseE l ∧ (∀ p, pv = some p → ∀ e ∈ l, cmpP p e.1 < 0) ∧ ∀ e ∈ l, upE e.1 ∈ K.map (·.1) ∨ upE e.1 ∈ l.map (·.1)
  | [], _, _, _, _, _ => ⟨fun _ h => (by cases h), List.Pairwise.nil, fun _ _ _ h => (by cases h), fun _ h => (by cases h)⟩
  | e :: l, M, M', K, pv, h => by
    simp only [ofRun] at h
    cases hm : mayE e with
    | false => rw [hm] at h; cases h
    | true =>
    rw [hm, cond_true] at h
    have hpv : ∀ p, pv = some p → cmpP p e.1 < 0 := by
      intro p hp
      subst hp
      cases hd : decide (cmpP p e.1 < 0) with
      | true => exact of_decide_eq_true hd
      | false => simp [hd] at h
    have h : (match lookK (e.1.take (cutE e.1)) K with
      | none => none
      | some u => match M.T u with
        | none => none
        | some ud => bif ud.kind != 1 then none else ofRun l (addO M u ud (nameE e.1) ⟨e.2.1, e.2.2.1, e.2.2.2, [], some u, nameE e.1, 0⟩) (setK e.1 M.nodes.length K) (some e.1)) = some M' := by
      cases pv with
      | none => exact h
      | some p =>
        simp only [hpv p rfl, decide_true, cond_true] at h
        exact h
    cases hk : lookK (e.1.take (cutE e.1)) K with
    | none => rw [hk] at h; cases h
    | some u =>
    rw [hk] at h
    simp only at h
    cases hu : M.T u with
    | none => rw [hu] at h; cases h
    | some ud =>
    rw [hu] at h
    simp only at h
    cases hd : ud.kind != 1 with
    | true => rw [hd] at h; cases h
    | false =>
    rw [hd, cond_false] at h
    obtain ⟨i1, i2, i3, i4⟩ := ofRun_good h
    have h3 := i3 e.1 rfl
    refine ⟨fun x hx => ?_, List.pairwise_cons.2 ⟨h3, i2⟩, fun p hp x hx => ?_, fun x hx => ?_⟩
    · rcases List.mem_cons.1 hx with rfl | hx
      · exact hm
      · exact i1 x hx
    · rcases List.mem_cons.1 hx with rfl | hx
      · exact hpv p hp
      · exact ltP_trans (show LtP _ _ from hpv p hp) (show LtP _ _ from h3 x hx)
    · rcases List.mem_cons.1 hx with rfl | hx
      · exact Or.inl (lookK_key hk)
      · rcases i4 x hx with h | h
        · rcases setK_keys h with h | h
          · exact Or.inr (by simp [h])
          · exact Or.inl h
        · exact Or.inr (List.mem_cons_of_mem _ h)
theorem of_good {es : List En} {M : Md} (h : ofT es = some M) : GoodE es := by
  unfold ofT at h
  cases hl : decide ((es.length : Int) > 128) with
  | true => rw [hl] at h; cases h
  | false =>
    rw [hl, cond_false] at h
    have hl := of_decide_eq_false hl
    cases hr : ofRun es MZ [([], 0)] none with
    | none => rw [hr] at h; cases h
    | some M' =>
      obtain ⟨i1, i2, _, i4⟩ := ofRun_good hr
      refine ⟨i1, i2, fun e he hu => ?_, by omega⟩
      rcases i4 e he with h | h
      · simp at h; exact absurd h hu
      · exact h
theorem may_ne {e : En} (h : mayE e = true) : e.1 ≠ [] := by
  intro h0
  unfold mayE pathE at h
  rw [h0] at h
  generalize cleanL [] (47 :: []) = x at h
  obtain ⟨q, c⟩ := x
  simp only at h
  cases hc : Nat.beq c 0 with
  | true => rw [hc] at h; cases h
  | false => rw [hc] at h; cases h
theorem rise_nodup {es : List En} (h : RiseE es) : (es.map (·.1)).Nodup := by
  rw [List.Nodup, List.pairwise_map]
  refine List.Pairwise.imp ?_ h
  intro a b hab he
  rw [← he] at hab
  exact ltP_irrefl (show LtP (partsL a.1) (partsL a.1) from hab)
theorem fault_ne {e : En} {pre : List En} (h : faultL e pre = 0) : e.1 ≠ [] := by
  intro h0
  unfold faultL at h
  cases h1 : knownB e.2.1 with
  | false => rw [h1] at h; cases h
  | true =>
    rw [h1, cond_true] at h
    have hp : pathedL e pre = 1303 := by
      unfold pathedL
      rw [h0]
      generalize cleanL [] (47 :: []) = x
      obtain ⟨q, c⟩ := x
      simp only
      cases Nat.beq c 0 <;> rfl
    rw [hp] at h
    cases h
theorem mayR_ok {es : List En} : ∀ {l : List En} {k : Nat}, (mayR es k l).2 = 0 → ∀ e ∈ l, ∃ pre, faultL e pre = 0
  | [], _, _, _, h => by cases h
  | x :: l, k, h, e, he => by
    simp only [mayR] at h
    cases hf : faultL x (es.take k) != 0 with
    | true =>
      rw [hf, cond_true] at h
      simp only at h
      rw [h] at hf
      cases hf
    | false =>
      rw [hf, cond_false] at h
      rcases List.mem_cons.1 he with rfl | he
      · exact ⟨_, by simpa using hf⟩
      · exact mayR_ok h e he
theorem mayL_ok {es : List En} (h : (mayL es).2 = 0) : es.length ≤ 256 ∧ ∀ e ∈ es, ∃ pre, faultL e pre = 0 := by
  unfold mayL at h
  cases hl : decide ((es.length : Int) > 256) with
  | true => rw [hl] at h; cases h
  | false =>
    rw [hl, cond_false] at h
    have hl := of_decide_eq_false hl
    exact ⟨by omega, mayR_ok h⟩
theorem applyN_keys {N N' : List (List Nat × En)} {e : En} (h : applyN N e = some N') : ∀ k ∈ keysF N', k ∈ keysF N ∨ k = e.1 := by
  unfold applyN at h
  cases hu : okUpN N e with
  | false => rw [hu] at h; cases h
  | true =>
    rw [hu, cond_true] at h
    have cut : ∀ k ∈ keysF (cutN e.1 N), k ∈ keysF N := fun k hk => by
      obtain ⟨x, hx, rfl⟩ := List.mem_map.1 hk
      exact List.mem_map.2 ⟨x, (delG_sub.trans List.filter_sublist).mem hx, rfl⟩
    cases hl : lookG e.1 N with
    | none =>
      rw [hl] at h
      simp only at h
      cases h4 : e.2.1 == 4 with
      | true => rw [h4] at h; cases h
      | false =>
        rw [h4] at h
        cases h
        intro k hk
        rcases List.mem_append.1 (by simpa [keysF] using hk : k ∈ keysF N ++ [e.1]) with h | h
        · exact Or.inl h
        · simp at h; exact Or.inr h
    | some old =>
      rw [hl] at h
      simp only at h
      cases h1 : e.2.1 == 1 && old.2.1 == 1 with
      | true =>
        rw [h1] at h
        cases h
        intro k hk
        rw [show keysF (setG e.1 (old.1, old.2.1, e.2.2.1, old.2.2.2) N) = keysF N from keys_setG hl] at hk
        exact Or.inl hk
      | false =>
        rw [h1, cond_false] at h
        cases h4 : e.2.1 == 4 with
        | true =>
          rw [h4] at h
          cases h
          exact fun k hk => Or.inl (cut k hk)
        | false =>
          rw [h4] at h
          cases h
          intro k hk
          rcases List.mem_append.1 (by simpa [keysF] using hk : k ∈ keysF (cutN e.1 N) ++ [e.1]) with h | h
          · exact Or.inl (cut k h)
          · simp at h; exact Or.inr h
theorem fair_c {s : St} (H : Ok TE Tryz.prog pr3) (hB : Below0 s) {V : AV} {es : List En} (hV : EsV s V es) (hp : ∀ e ∈ es, e.1.length ≤ 1048575) (hn0 : es.length < 1000000000) {kr kp : AV → St → Bool}
    (hk : ∀ s', Ext s s' → Below0 s' → kr (.raw (.bool (ofT es).isSome)) s' = true) :
    (sem Tryz.prog).call 71 [V] s kr kp = true := by
  refine w_call H 12 fn_71 rfl rfl ?_
  repeat (first | with_reducible (refine w_one H ?_; constructor) | simp only [rB, rP, rQ, boolA, intA, resultA, resA, reduceIte, reduceCtorEq, Nat.reduceAdd, Nat.reduceLT, Nat.reduceEqDiff, UInt8.reduceToNat, pe3, pf3])
  refine of_c H hB hV hp hn0 (fun s' x M h1 h2 h3 h4 => ?_) (fun s' h1 h2 h3 => ?_)
  · have g : ((0 : Int) == 0) = true := rfl
    repeat (first | with_reducible (refine w_one H ?_; constructor) | simp only [rB, rP, rQ, boolA, intA, resultA, resA, reduceIte, reduceCtorEq, Nat.reduceAdd, Nat.reduceLT, Nat.reduceEqDiff, UInt8.reduceToNat, pe3, pf3, b_eqi, g, Tryz.results71])
    have := hk s' h2 h3.1
    rw [h1] at this
    exact this
  · have g : ((500 : Int) == 0) = false := rfl
    repeat (first | with_reducible (refine w_one H ?_; constructor) | simp only [rB, rP, rQ, boolA, intA, resultA, resA, reduceIte, reduceCtorEq, Nat.reduceAdd, Nat.reduceLT, Nat.reduceEqDiff, UInt8.reduceToNat, pe3, pf3, b_eqi, g, Tryz.results71])
    have := hk s' h2 h3
    rw [h1] at this
    exact this
theorem agg_ly : (match TE.info 28 with | some ti => isAggD ti.desc && Nat.beq ti.size 1 | none => false) = true := by kernel_rfl
theorem ld_ly {s : St} {x : Nat} : loadA TE s 28 (.ptr x 0) = ldG 1 (s.h.get x) := ldG_gen agg_ly
theorem ldG_ly {V : AV} {el fz : Nat} : ldG 1 (some (.cells [V] el fz)) = some (.agg [V]) := (rfl)
end Go.AX
namespace Go.AX
open Go.Proofs Go.RowKit
set_option maxRecDepth 1000000
set_option maxHeartbeats 400000000
set_option linter.unusedSimpArgs false
set_option linter.unusedVariables false
theorem applyD_c {s : St} (H : Ok TE Tryz.prog pr3) (hB : Below0 s) {LV V : AV} {lower es : List En} (hL : EsV s LV lower) (hpl : ∀ e ∈ lower, e.1.length ≤ 1048575) (hnl : lower.length < 1000000000) (hV : EsV s V es) (hc : CapV V) (hp : ∀ e ∈ es, e.1.length ≤ 1048575) (h1 : V.cells = [V]) (h2 : V.one = true) {kr kp : AV → St → Bool}
    (hk : ∀ s' W out, applyD lower es = some out → Ext s s' → Below0 s' → ErB s.nx s' W out → (∀ e ∈ out, e.1.length ≤ 140) → out.length ≤ 128 → kr (.tuple [W, .raw (.int .i64 0)]) s' = true)
    (hf : ∀ s', applyD lower es = none → Ext s s' → Below0 s' → kr (.tuple [.raw (.slice none 0 0), .raw (.int .i64 1400)]) s' = true) :
    (sem Tryz.prog).call 31 [LV, .agg [V]] s kr kp = true := by
  refine w_call H 40 fn_31 rfl rfl ?_
  have hB1 : Below0 (s.alloc (.cells [V] 28 0)) := below_al hB _
  have hE1 : Ext s (s.alloc (.cells [V] 28 0)) := Ext.alloc s _
  have c1 : (s.alloc (.cells [V] 28 0)).h.get s.nx = some (.cells [V] 28 0) := al_same
  unfold applyD at hk hf
  have vl := hV.len
  have vi := hV.ids
  repeat (first | with_reducible (refine w_one H ?_; constructor) | simp only [rB, rP, rQ, boolA, intA, resultA, resA, reduceIte, reduceCtorEq, Nat.reduceAdd, Nat.reduceLT, Nat.reduceEqDiff, UInt8.reduceToNat, pe3, pf3, cells_agg])
  generalize s.alloc (.cells [V] 28 0) = s1 at *
  refine fair_c H hB1 (hL.ext hB hE1) hpl hnl (fun s2 hE2 hB2 => ?_)
  have hE12 := hE1.trans hE2
  have c2 := (hE2.2 _ (hB1 _ _ c1)).trans c1
  cases ho : ofT lower with
  | none =>
    repeat (first | with_reducible (refine w_one H ?_; constructor) | simp only [rB, rP, rQ, boolA, intA, resultA, resA, reduceIte, reduceCtorEq, Nat.reduceAdd, Nat.reduceLT, Nat.reduceEqDiff, UInt8.reduceToNat, pe3, pf3, ho, Option.isSome_none, Bool.not_false, Tryz.results31])
    exact hf s2 (by rw [ho]) hE12 hB2
  | some M0 =>
  have G := of_good ho
  repeat (first | with_reducible (refine w_one H ?_; constructor) | simp only [rB, rP, rQ, boolA, intA, resultA, resA, reduceIte, reduceCtorEq, Nat.reduceAdd, Nat.reduceLT, Nat.reduceEqDiff, UInt8.reduceToNat, pe3, pf3, ho, Option.isSome_some, Bool.not_true, c2, ld_ly, ldG_ly])
  refine may_all H hB2 (hV.ext hB hE12) hc hp h1 h2 (fun s3 hE3 hB3 => ?_)
  have hE13 := hE12.trans hE3
  have c3 := (hE3.2 _ (hB2 _ _ c2)).trans c2
  cases hm : (mayL es).2 != 0 with
  | true =>
    repeat (first | with_reducible (refine w_one H ?_; constructor) | simp only [rB, rP, rQ, boolA, intA, resultA, resA, reduceIte, reduceCtorEq, Nat.reduceAdd, Nat.reduceLT, Nat.reduceEqDiff, UInt8.reduceToNat, pe3, pf3, b_nei, hm, Tryz.results31])
    exact hf s3 (by rw [ho, hm]; rfl) hE13 hB3
  | false =>
  have hm0 : (mayL es).2 = 0 := by simpa using hm
  obtain ⟨hl256, hfault⟩ := mayL_ok hm0
  have hlow : ∀ e ∈ lower, e.1.length ≤ 140 := fun e he => (may_len (G.may e he)).1
  repeat (first | with_reducible (refine w_one H ?_; constructor) | simp only [rB, rP, rQ, boolA, intA, resultA, resA, reduceIte, reduceCtorEq, Nat.reduceAdd, Nat.reduceLT, Nat.reduceEqDiff, UInt8.reduceToNat, pe3, pf3, b_nei, hm])
  refine ground_c H hB3 (hL.ext hB hE13) (fun e he => by have := hlow e he; omega) (by have := G.len; omega) (fun s4 fb nb kb hE4 f1 f2 f3 hB4 R4 => ?_)
  have hE14 := hE13.trans hE4
  have c4 := (hE4.2 _ (hB3 _ _ c3)).trans c3
  have hs3 := hE13.1
  -- the ground is sound
  obtain ⟨g1, g2⟩ := ground_fi (es := lower) (pre := []) (K := []) (B := 0) FI.zero.to0 (by simpa using rise_nodup G.rise) (fun h => by
    obtain ⟨e, he, h0⟩ := List.mem_map.1 h
    exact may_ne (G.may e he) h0) (by have := G.len; omega)
  rw [show (pairE [], ([] : List (List Nat × Int))) = ([], []) from rfl] at g1 g2
  rw [List.nil_append] at g1
  have g2 := g2.to (by
    rw [g1, keys_pair]
    intro k hk hu
    obtain ⟨e, he, rfl⟩ := List.mem_map.1 hk
    exact G.par e he hu)
  rw [g1] at g2 R4
  have g2 : FI 128 (pairE lower) _ := ⟨g2.nd, g2.kd, g2.key, g2.par, g2.cnt, Nat.le_trans g2.len (by have := G.len; omega), g2.ne⟩
  rw [hm] at hk hf
  rw [ho] at hk hf
  simp only [cond_false] at hk hf
  repeat (first | with_reducible (refine w_one H ?_; constructor) | simp only [rB, rP, rQ, boolA, intA, resultA, resA, reduceIte, reduceCtorEq, Nat.reduceAdd, Nat.reduceLT, Nat.reduceEqDiff, UInt8.reduceToNat, pe3, pf3, c4, fa_ly0, ld_26, vl, vi])
  refine w_loop_ind H (fun n t s' => ∃ (k : Nat) (N : List (List Nat × En)) (K : List (List Nat × Int)), n + k = es.length ∧ tg t 8 = .ptr fb 0 ∧ tg t 24 = V ∧ tg t 25 = .raw (.int .i64 (es.length : Int)) ∧ tg t 26 = .raw (.int .i64 (k : Int)) ∧ Ext s s' ∧ Below0 s' ∧ FR s' fb nb kb N K ∧ FI (128 + k) N K ∧ (∀ q ∈ keysF N, q.length ≤ 140) ∧ appsN (pairE lower) es = appsN N (es.drop k)) (n := es.length)
    ⟨0, _, _, rfl, by simp only [rB, rP, rQ, boolA, intA, resultA, resA, reduceIte, reduceCtorEq, Nat.reduceAdd, Nat.reduceLT, Nat.reduceEqDiff, UInt8.reduceToNat], by simp only [rB, rP, rQ, boolA, intA, resultA, resA, reduceIte, reduceCtorEq, Nat.reduceAdd, Nat.reduceLT, Nat.reduceEqDiff, UInt8.reduceToNat], by simp only [rB, rP, rQ, boolA, intA, resultA, resA, reduceIte, reduceCtorEq, Nat.reduceAdd, Nat.reduceLT, Nat.reduceEqDiff, UInt8.reduceToNat], by simp only [rB, rP, rQ, boolA, intA, resultA, resA, reduceIte, reduceCtorEq, Nat.reduceAdd, Nat.reduceLT, Nat.reduceEqDiff, UInt8.reduceToNat]; rfl, hE14, hB4, R4, g2, fun q hq => by
      rw [keys_pair] at hq
      obtain ⟨e, he, rfl⟩ := List.mem_map.1 hq
      exact hlow e he, rfl⟩ ?_
  rintro n t s' ih ⟨k, N, K, hnk, t8, t24, t25, t26, hE, hB', R, F, hq, ha⟩
  cases n with
  | zero =>
    have g0 : decide ((k : Int) < (es.length : Int)) = false := by rw [decide_eq_false_iff_not]; omega
    rw [List.drop_eq_nil_of_le (by omega)] at ha
    rw [ha] at hk hf
    simp only [appsN] at hk hf
    repeat (first | with_reducible (refine w_one H ?_; constructor) | simp only [rB, rP, rQ, boolA, intA, resultA, resA, reduceIte, reduceCtorEq, Nat.reduceAdd, Nat.reduceLT, Nat.reduceEqDiff, UInt8.reduceToNat, pe3, pf3, t8, t24, t25, t26, b_lt, g0])
    refine many_fc H R ?_
    cases hN : decide ((N.length : Int) > 128) with
    | true =>
      rw [hN] at hf
      repeat (first | with_reducible (refine w_one H ?_; constructor) | simp only [rB, rP, rQ, boolA, intA, resultA, resA, reduceIte, reduceCtorEq, Nat.reduceAdd, Nat.reduceLT, Nat.reduceEqDiff, UInt8.reduceToNat, pe3, pf3, t8, b_gt, hN, Tryz.results31])
      exact hf s' rfl hE hB'
    | false =>
      rw [hN] at hk
      have hN' := of_decide_eq_false hN
      have hk140 : ∀ q ∈ N, q.2.1.length ≤ 140 := fun x hx => by
        rw [F.key x hx]
        exact hq _ (List.mem_map.2 ⟨x, hx, rfl⟩)
      repeat (first | with_reducible (refine w_one H ?_; constructor) | simp only [rB, rP, rQ, boolA, intA, resultA, resA, reduceIte, reduceCtorEq, Nat.reduceAdd, Nat.reduceLT, Nat.reduceEqDiff, UInt8.reduceToNat, pe3, pf3, t8, b_gt, hN])
      refine entries_fc H hB' R hk140 (by omega) (fun s5 W out hE5 hB5 hW hperm hsort => ?_)
      have hnd : ((N.map (·.2)).map (·.1)).Nodup := by
        have : (N.map (·.2)).map (·.1) = keysF N := by
          unfold keysF
          rw [List.map_map]
          exact List.map_congr_left fun x hx => F.key x hx
        rw [this]
        exact F.nd
      have hout := sorted_is hnd hperm hsort
      have hlen : out.length = N.length := by rw [hperm.length_eq, List.length_map]
      repeat (first | with_reducible (refine w_one H ?_; constructor) | simp only [rB, rP, rQ, boolA, intA, resultA, resA, reduceIte, reduceCtorEq, Nat.reduceAdd, Nat.reduceLT, Nat.reduceEqDiff, UInt8.reduceToNat, pe3, pf3, t8, Tryz.results31])
      refine hk s5 W out (by rw [hout]; rfl) (hE.trans hE5) hB5 ?_ (fun e he => ?_) (by omega)
      · rcases hW with h | ⟨id, w1, w2, w3⟩
        · exact Or.inl h
        · exact Or.inr ⟨id, Nat.le_trans hE.1 w1, w2, w3⟩
      · obtain ⟨x, hx, rfl⟩ := List.mem_map.1 (hperm.mem_iff.1 he)
        exact hk140 x hx
  | succ n =>
    have g0 : decide ((k : Int) < (es.length : Int)) = true := by rw [decide_eq_true_eq]; omega
    have hlt : k < es.length := by omega
    have hke : es[k]? = some es[k] := List.getElem?_eq_getElem hlt
    have hmem : es[k] ∈ es := List.getElem_mem hlt
    rw [List.drop_eq_getElem_cons hlt] at ha
    generalize es[k] = e at hke hmem ha
    simp only [appsN] at ha
    obtain ⟨pre, hpre⟩ := hfault e hmem
    have he140 := fault_len hpre
    have hene := fault_ne hpre
    have hV' := hV.ext hB hE
    obtain ⟨id, o, y1, y2, y3, y4, -⟩ := hV'.idx hke
    have hB3 : Below0 { h := (s'.alloc (.cells [.str [], .raw (.int .i64 0), .raw (.int .i64 0), .str []] 25 0)).h.set s'.nx (.cells (celE e) 25 0), nx := s'.nx + 1 } := below_putS hB'
    have hE3 : Ext s' { h := (s'.alloc (.cells [.str [], .raw (.int .i64 0), .raw (.int .i64 0), .str []] 25 0)).h.set s'.nx (.cells (celE e) 25 0), nx := s'.nx + 1 } := ext_putS
    have R3 := R.ext hB' hE3
    have ew : IntKind.i64.wrap ((k : Int) + 1) = ((k + 1 : Nat) : Int) := by
      rw [show (k : Int) + 1 = ((k + 1 : Nat) : Int) from by simp]
      exact wrap_nat (by omega)
    repeat (first | with_reducible (refine w_one H ?_; constructor) | simp only [rB, rP, rQ, boolA, intA, resultA, resA, reduceIte, reduceCtorEq, Nat.reduceAdd, Nat.reduceLT, Nat.reduceEqDiff, UInt8.reduceToNat, pe3, pf3, t8, t24, t25, t26, b_lt, g0, y1, y2, y3, y4, all_en, st_en, stA_en, ld_en, ldG_en])
    refine apply_fc H hB3 R3 F.nd (by omega) (fun s6 b N' K' hF6 hB6 A6 R6 => ?_)
    have hE6 : Ext s s6 := hF6.ext (hE.trans hE3) (by omega) (by omega)
    rcases A6.fin F hene (by omega) with ⟨rfl, a1, a2⟩ | ⟨rfl, a1⟩
    · rw [a1] at ha
      repeat (first | with_reducible (refine w_one H ?_; constructor) | simp only [rB, rP, rQ, boolA, intA, resultA, resA, reduceIte, reduceCtorEq, Nat.reduceAdd, Nat.reduceLT, Nat.reduceEqDiff, UInt8.reduceToNat, pe3, pf3, t8, t24, t25, t26, Bool.not_true, b_plus, ew])
      refine ih n _ _ (Nat.lt_succ_self n) ⟨k + 1, N', K', by omega, by simp only [rB, rP, rQ, boolA, intA, resultA, resA, reduceIte, reduceCtorEq, Nat.reduceAdd, Nat.reduceLT, Nat.reduceEqDiff, UInt8.reduceToNat, t8], by simp only [rB, rP, rQ, boolA, intA, resultA, resA, reduceIte, reduceCtorEq, Nat.reduceAdd, Nat.reduceLT, Nat.reduceEqDiff, UInt8.reduceToNat, t24], by simp only [rB, rP, rQ, boolA, intA, resultA, resA, reduceIte, reduceCtorEq, Nat.reduceAdd, Nat.reduceLT, Nat.reduceEqDiff, UInt8.reduceToNat, t25], by simp only [rB, rP, rQ, boolA, intA, resultA, resA, reduceIte, reduceCtorEq, Nat.reduceAdd, Nat.reduceLT, Nat.reduceEqDiff, UInt8.reduceToNat], hE6, hB6, R6, a2, fun q hq' => ?_, ha⟩
      rcases applyN_keys a1 q hq' with h | h
      · exact hq q h
      · rw [h]; exact he140
    · rw [a1] at ha
      repeat (first | with_reducible (refine w_one H ?_; constructor) | simp only [rB, rP, rQ, boolA, intA, resultA, resA, reduceIte, reduceCtorEq, Nat.reduceAdd, Nat.reduceLT, Nat.reduceEqDiff, UInt8.reduceToNat, pe3, pf3, t8, t24, t25, t26, Bool.not_false, Tryz.results31])
      exact hf s6 (by rw [ha]) hE6 hB6
end Go.AX
namespace Go.AX
open Go.Proofs Go.RowKit
set_option maxRecDepth 1000000
set_option maxHeartbeats 400000000
set_option linter.unusedSimpArgs false
set_option linter.unusedVariables false
def mergeR : List En → List (List En) → Option (List En)
  | es, [] => some es
  | es, l :: r => match applyD es l with
    | none => none
    | some es' => mergeR es' r
def mergeI (im : List (List En)) : Option (List En) := bif decide ((im.length : Int) > 12) then none else mergeR [] im
theorem cut_flatM : ∀ {es : List En} {k : Nat} {e : En}, es[k]? = some e → cutL (k * 4) 4 (flatE es) = some (celE e)
  | [], k, e, h => by simp at h
  | a :: l, 0, e, h => by
    simp at h
    subst h
    rfl
  | a :: l, k + 1, e, h => by
    have ih := cut_flatM (es := l) (k := k) (e := e) (by simpa using h)
    have e1 : (k + 1) * 4 = k * 4 + 4 := by omega
    rw [e1]
    exact ih
theorem beq_flatM : ∀ {es : List En}, beqAs (flatE es) (flatE es) = true
  | [] => rfl
  | e :: l => by
    have ih := beq_flatM (es := l)
    have := beq_cel (e := e)
    unfold celE at this
    simp only [flatE, beqAs] at this ⊢
    simp only [ih, Bool.and_true] at this ⊢
    exact this
theorem ErB.esvM {b : Nat} {s : St} {V : AV} {es : List En} (h : ErB b s V es) : EsV s V es := by
  rcases h with ⟨h1, h2⟩ | ⟨id, _, h1, h2⟩
  · exact Or.inl ⟨⟨_, _, h1⟩, h2⟩
  · exact Or.inr (Or.inr ⟨id, 0, 0, es.length, false, _, _, h1, h2, Or.inl ⟨_, rfl⟩, beq_flatM, fun k e hk => by rw [Nat.zero_add]; exact cut_flatM hk⟩)
def LsV (s : St) (V : AV) (im : List (List En)) : Prop := ((∃ a c, V = .raw (.slice a 0 c)) ∧ im = []) ∨ (∃ id off ci l z, V = .esl id off ci l z ∧ im = []) ∨
  ∃ id off ci cap ex cs ob, V = .slice id off im.length ci cap ex ∧ s.h.get id = some ob ∧ ((∃ fz, ob = .cells cs 28 fz) ∨ ob = .old cs) ∧ ∀ k es, im[k]? = some es → ∃ W, cs[off + k]? = some W ∧ EsV s W es ∧ CapV W ∧ W.cells = [W] ∧ W.one = true
theorem LsV.len {s : St} {V : AV} {im : List (List En)} (h : LsV s V im) : ∀ s', lenOpA TE s' [29] [V] = some (.raw (.int .i64 (im.length : Int))) := by
  intro s'
  rcases h with ⟨⟨a, c, rfl⟩, rfl⟩ | ⟨id, off, ci, l, z, rfl, rfl⟩ | ⟨id, off, ci, cap, ex, cs, fz, rfl, _⟩ <;> kernel_rfl
theorem LsV.ids {s : St} {V : AV} {im : List (List En)} (h : LsV s V im) : idsOf V = [] := by
  rcases h with ⟨⟨a, c, rfl⟩, rfl⟩ | ⟨id, off, ci, l, z, rfl, rfl⟩ | ⟨id, off, ci, cap, ex, cs, fz, rfl, _⟩ <;> rfl
theorem LsV.one {s : St} {V : AV} {im : List (List En)} (h : LsV s V im) : V.cells = [V] ∧ V.one = true := by
  rcases h with ⟨⟨a, c, rfl⟩, rfl⟩ | ⟨id, off, ci, l, z, rfl, rfl⟩ | ⟨id, off, ci, cap, ex, cs, fz, rfl, _⟩ <;> exact ⟨rfl, rfl⟩
theorem LsV.ext {s s' : St} {V : AV} {im : List (List En)} (h : LsV s V im) (hB : Below0 s) (hE : Ext s s') : LsV s' V im := by
  rcases h with h | h | ⟨id, off, ci, cap, ex, cs, ob, h1, h2, h3, h4⟩
  · exact Or.inl h
  · exact Or.inr (Or.inl h)
  · refine Or.inr (Or.inr ⟨id, off, ci, cap, ex, cs, ob, h1, (hE.2 _ (hB _ _ h2)).trans h2, h3, fun k es hk => ?_⟩)
    obtain ⟨W, a1, a2, a3⟩ := h4 k es hk
    exact ⟨W, a1, a2.ext hB hE, a3⟩
theorem cut_one : ∀ {l : List AV} {o : Nat} {x : AV}, l[o]? = some x → cutL o 1 l = some [x]
  | [], o, x, h => by simp at h
  | y :: l, 0, x, h => by
    simp at h
    subst h
    simp [cutL, dropL, takeL]
  | y :: l, o + 1, x, h => by
    have := cut_one (l := l) (o := o) (by simpa using h)
    simpa [cutL, dropL] using this
theorem ix_ly {id off n ci cap k : Nat} {ex : Bool} (h : k < n) : indexAddrA TE 29 (.slice id off n ci cap ex) (.raw (.int .i64 (k : Int))) = some (.ptr id (off + k * 1)) := by
  have e : indexAddrA TE 29 (.slice id off n ci cap ex) (.raw (.int .i64 (k : Int))) = (bif Nat.blt k n then some (.ptr id (off + k * 1)) else none) := by kernel_rfl
  rw [e, Nat.blt_eq.mpr h]
  rfl
theorem LsV.idx {s : St} {V : AV} {im : List (List En)} (h : LsV s V im) {k : Nat} {es : List En} (hk : im[k]? = some es) : ∃ id o W, indexAddrA TE 29 V (.raw (.int .i64 (k : Int))) = some (.ptr id o) ∧ loadA TE s 28 (.ptr id o) = some (.agg [W]) ∧ (∀ b, inO (s.h.get id) b = b) ∧ EsV s W es ∧ CapV W ∧ W.cells = [W] ∧ W.one = true := by
  rcases h with ⟨⟨a, c, rfl⟩, rfl⟩ | ⟨id, off, ci, l, z, rfl, rfl⟩ | ⟨id, off, ci, cap, ex, cs, ob, rfl, hg, ho, hc⟩
  · simp at hk
  · simp at hk
  · have hlt := (List.getElem?_eq_some_iff.mp hk).1
    obtain ⟨W, a1, a2, a3, a4, a5⟩ := hc k es hk
    have hcut : cutL (off + k * 1) 1 cs = some [W] := cut_one (by rw [Nat.mul_one]; exact a1)
    rcases ho with ⟨fz, rfl⟩ | rfl
    · exact ⟨id, off + k * 1, W, ix_ly hlt, ld_agg agg_ly hg hcut, fun b => by rw [hg]; rfl, a2, a3, a4, a5⟩
    · exact ⟨id, off + k * 1, W, ix_ly hlt, ld_aggO agg_ly hg hcut, fun b => by rw [hg]; rfl, a2, a3, a4, a5⟩
theorem all_ly {s : St} : allocA TE s 28 = some (.ptr s.nx 0, s.alloc (.cells [.raw (.slice none 0 0)] 28 0)) := by
  have : zeroOf TE 28 = some (.agg [.raw (.slice none 0 0)]) := by kernel_rfl
  simp only [allocA, this]; rfl
theorem size_ly : sizeT TE 28 = 1 := by kernel_rfl
theorem st_ly {s : St} {x : Nat} {W : AV} (hW : W.one = true) : storeA TE s 28 (.ptr x 0) (.agg [W]) = stA s x (s.h.get x) [W] := by
  have hs := size_ly
  unfold sizeT at hs
  cases ht : TE.info 28 with
  | none => rw [ht] at hs; cases hs
  | some ti =>
    rw [ht] at hs
    simp only at hs
    have hall : ([W] : List AV).all AV.one = true := by simp [hW]
    simp only [storeA, ht, hs, cells_agg, storeCellsA]
    show (bif true then (match getCells s x with
      | some (cs, el, fz) => bif ([W] : List AV).all AV.one then (match putL cs 0 [W] with | some cs' => some { s with h := s.h.set x (.cells cs' el fz) } | none => none) else none
      | none => none) else none) = _
    rw [hall]
    simp only [cond_true, stA, getCells]
    cases s.h.get x with
    | none => rfl
    | some y => cases y <;> rfl
theorem stA_ly {s : St} {x el fz : Nat} {a0 W : AV} : stA s x (some (.cells [a0] el fz)) [W] = some { s with h := s.h.set x (.cells [W] el fz) } := (rfl)
theorem fa_im0 {x : Nat} : fieldAddrA TE 31 (.ptr x 0) 0 = some (.ptr x 0) := by kernel_rfl
theorem ld_29 {s : St} {x o : Nat} : loadA TE s 29 (.ptr x o) = ldO (s.h.get x) o := by rw [ld_gen (by kernel_rfl), ldC_o]
theorem merge_c {s : St} (H : Ok TE Tryz.prog pr3) (hB : Below0 s) {V : AV} {im : List (List En)} (hI : LsV s V im) (hp : ∀ es ∈ im, ∀ e ∈ es, e.1.length ≤ 1048575) {kr kp : AV → St → Bool}
    (hk : ∀ s' W out, mergeI im = some out → Ext s s' → Below0 s' → ErB s.nx s' W out → (∀ e ∈ out, e.1.length ≤ 140) → out.length ≤ 128 → kr (.tuple [W, .raw (.int .i64 0)]) s' = true)
    (hf : ∀ s', mergeI im = none → Ext s s' → Below0 s' → kr (.tuple [.raw (.slice none 0 0), .raw (.int .i64 1400)]) s' = true) :
    (sem Tryz.prog).call 15 [.agg [V]] s kr kp = true := by
  refine w_call H 32 fn_15 rfl rfl ?_
  have hB1 : Below0 (s.alloc (.cells [V] 31 0)) := below_al hB _
  have hE1 : Ext s (s.alloc (.cells [V] 31 0)) := Ext.alloc s _
  have c1 : (s.alloc (.cells [V] 31 0)).h.get s.nx = some (.cells [V] 31 0) := al_same
  unfold mergeI at hk hf
  have vl := hI.len
  have vi := hI.ids
  repeat (first | with_reducible (refine w_one H ?_; constructor) | simp only [rB, rP, rQ, boolA, intA, resultA, resA, reduceIte, reduceCtorEq, Nat.reduceAdd, Nat.reduceLT, Nat.reduceEqDiff, UInt8.reduceToNat, pe3, pf3, cells_agg])
  generalize s.alloc (.cells [V] 31 0) = s1 at *
  cases hl : decide ((im.length : Int) > 12) with
  | true =>
    rw [hl] at hf
    repeat (first | with_reducible (refine w_one H ?_; constructor) | simp only [rB, rP, rQ, boolA, intA, resultA, resA, reduceIte, reduceCtorEq, Nat.reduceAdd, Nat.reduceLT, Nat.reduceEqDiff, UInt8.reduceToNat, pe3, pf3, c1, fa_im0, ld_29, vl, vi, b_gt, hl, Tryz.results15])
    exact hf s1 rfl hE1 hB1
  | false =>
  rw [hl] at hk hf
  simp only [cond_false] at hk hf
  have hl2 := of_decide_eq_false hl
  repeat (first | with_reducible (refine w_one H ?_; constructor) | simp only [rB, rP, rQ, boolA, intA, resultA, resA, reduceIte, reduceCtorEq, Nat.reduceAdd, Nat.reduceLT, Nat.reduceEqDiff, UInt8.reduceToNat, pe3, pf3, c1, fa_im0, ld_29, vl, vi, b_gt, hl])
  refine w_loop_ind H (fun n t s' => ∃ (k : Nat) (W : AV) (cur : List En), n + k = im.length ∧ tg t 4 = W ∧ tg t 14 = V ∧ tg t 15 = .raw (.int .i64 (im.length : Int)) ∧ tg t 16 = .raw (.int .i64 (k : Int)) ∧ Ext s s' ∧ Below0 s' ∧ ErB s.nx s' W cur ∧ (∀ e ∈ cur, e.1.length ≤ 140) ∧ cur.length ≤ 128 ∧ mergeR [] im = mergeR cur (im.drop k)) (n := im.length)
    ⟨0, _, [], rfl, by simp only [rB, rP, rQ, boolA, intA, resultA, resA, reduceIte, reduceCtorEq, Nat.reduceAdd, Nat.reduceLT, Nat.reduceEqDiff, UInt8.reduceToNat]; rfl, by simp only [rB, rP, rQ, boolA, intA, resultA, resA, reduceIte, reduceCtorEq, Nat.reduceAdd, Nat.reduceLT, Nat.reduceEqDiff, UInt8.reduceToNat], by simp only [rB, rP, rQ, boolA, intA, resultA, resA, reduceIte, reduceCtorEq, Nat.reduceAdd, Nat.reduceLT, Nat.reduceEqDiff, UInt8.reduceToNat], by simp only [rB, rP, rQ, boolA, intA, resultA, resA, reduceIte, reduceCtorEq, Nat.reduceAdd, Nat.reduceLT, Nat.reduceEqDiff, UInt8.reduceToNat]; rfl, hE1, hB1, Or.inl ⟨rfl, rfl⟩, fun _ h => (by cases h), Nat.zero_le _, rfl⟩ ?_
  rintro n t s' ih ⟨k, W, cur, hnk, t4, t14, t15, t16, hE, hB', hW, hc140, hc128, hm⟩
  cases n with
  | zero =>
    have g0 : decide ((k : Int) < (im.length : Int)) = false := by rw [decide_eq_false_iff_not]; omega
    rw [List.drop_eq_nil_of_le (by omega)] at hm
    simp only [mergeR] at hm
    repeat (first | with_reducible (refine w_one H ?_; constructor) | simp only [rB, rP, rQ, boolA, intA, resultA, resA, reduceIte, reduceCtorEq, Nat.reduceAdd, Nat.reduceLT, Nat.reduceEqDiff, UInt8.reduceToNat, pe3, pf3, t4, t14, t15, t16, b_lt, g0, Tryz.results15])
    exact hk s' W cur hm hE hB' hW hc140 hc128
  | succ n =>
    have g0 : decide ((k : Int) < (im.length : Int)) = true := by rw [decide_eq_true_eq]; omega
    have hlt : k < im.length := by omega
    have hke : im[k]? = some im[k] := List.getElem?_eq_getElem hlt
    have hmem : im[k] ∈ im := List.getElem_mem hlt
    rw [List.drop_eq_getElem_cons hlt] at hm
    generalize im[k] = es at hke hmem hm
    simp only [mergeR] at hm
    have hI' := hI.ext hB hE
    obtain ⟨id, o, X, y1, y2, y4, x1, x2, x3, x4⟩ := hI'.idx hke
    have hB3 : Below0 { h := (s'.alloc (.cells [.raw (.slice none 0 0)] 28 0)).h.set s'.nx (.cells [X] 28 0), nx := s'.nx + 1 } := below_putS hB'
    have hE3 : Ext s' { h := (s'.alloc (.cells [.raw (.slice none 0 0)] 28 0)).h.set s'.nx (.cells [X] 28 0), nx := s'.nx + 1 } := ext_putS
    have c3 : ({ h := (s'.alloc (.cells [.raw (.slice none 0 0)] 28 0)).h.set s'.nx (.cells [X] 28 0), nx := s'.nx + 1 } : St).h.get s'.nx = some (.cells [X] 28 0) := hs_same
    have ew : IntKind.i64.wrap ((k : Int) + 1) = ((k + 1 : Nat) : Int) := by
      rw [show (k : Int) + 1 = ((k + 1 : Nat) : Int) from by simp]
      exact wrap_nat (by omega)
    have stl := fun {s : St} {x : Nat} => st_ly (s := s) (x := x) x4
    generalize hS3 : ({ h := (s'.alloc (.cells [.raw (.slice none 0 0)] 28 0)).h.set s'.nx (.cells [X] 28 0), nx := s'.nx + 1 } : St) = s3 at *
    repeat (first | with_reducible (refine w_one H ?_; constructor) | simp only [rB, rP, rQ, boolA, intA, resultA, resA, reduceIte, reduceCtorEq, Nat.reduceAdd, Nat.reduceLT, Nat.reduceEqDiff, UInt8.reduceToNat, pe3, pf3, t4, t14, t15, t16, b_lt, g0, y1, y2, y4, all_ly, stl, stA_ly, hS3, c3, ld_ly, ldG_ly])
    refine applyD_c H hB3 (hW.esvM.ext hB' hE3) (fun e he => by have := hc140 e he; omega) (by omega) (x1.ext hB' hE3) x2 (hp es hmem) x3 x4 (fun s4 W' out a1 a2 a3 a4 a5 a6 => ?_) (fun s4 a1 a2 a3 => ?_)
    · rw [a1] at hm
      have g1 : ((0 : Int) != 0) = false := rfl
      repeat (first | with_reducible (refine w_one H ?_; constructor) | simp only [rB, rP, rQ, boolA, intA, resultA, resA, reduceIte, reduceCtorEq, Nat.reduceAdd, Nat.reduceLT, Nat.reduceEqDiff, UInt8.reduceToNat, pe3, pf3, t4, t14, t15, t16, b_nei, g1, b_plus, ew])
      refine ih n _ _ (Nat.lt_succ_self n) ⟨k + 1, W', out, by omega, by simp only [rB, rP, rQ, boolA, intA, resultA, resA, reduceIte, reduceCtorEq, Nat.reduceAdd, Nat.reduceLT, Nat.reduceEqDiff, UInt8.reduceToNat], by simp only [rB, rP, rQ, boolA, intA, resultA, resA, reduceIte, reduceCtorEq, Nat.reduceAdd, Nat.reduceLT, Nat.reduceEqDiff, UInt8.reduceToNat, t14], by simp only [rB, rP, rQ, boolA, intA, resultA, resA, reduceIte, reduceCtorEq, Nat.reduceAdd, Nat.reduceLT, Nat.reduceEqDiff, UInt8.reduceToNat, t15], by simp only [rB, rP, rQ, boolA, intA, resultA, resA, reduceIte, reduceCtorEq, Nat.reduceAdd, Nat.reduceLT, Nat.reduceEqDiff, UInt8.reduceToNat], (hE.trans hE3).trans a2, a3, ?_, a5, a6, hm⟩
      rcases a4 with h | ⟨id, w1, w2, w3⟩
      · exact Or.inl h
      · exact Or.inr ⟨id, Nat.le_trans (hE.trans hE3).1 w1, w2, w3⟩
    · rw [a1] at hm
      have g1 : ((1400 : Int) != 0) = true := rfl
      repeat (first | with_reducible (refine w_one H ?_; constructor) | simp only [rB, rP, rQ, boolA, intA, resultA, resA, reduceIte, reduceCtorEq, Nat.reduceAdd, Nat.reduceLT, Nat.reduceEqDiff, UInt8.reduceToNat, pe3, pf3, t4, t14, t15, t16, b_nei, g1, Tryz.results15])
      exact hf s4 hm ((hE.trans hE3).trans a2) a3
end Go.AX
