import Derived.Test.YtnaelolekokhbaaGreatAxDom
import Derived.RangeFuncNested
import Derived.RangeFuncBound
import Derived.RangeFuncCalls
import Derived.RangeFuncLeaves
import Derived.LoopNIn
import Derived.OrdersIn
import Derived.RecoverIn
import Derived.Below
namespace Go.AX
open Go.RowKit

/-! ### Trees of numbers -/
section
variable {α : Type}

theorem Tr.get_setF : ∀ (f : Nat) (t : Tr α) (k : Nat) (x : Option α), k < f → ∀ j, (Tr.setF f t k x).get j = if j = k then x else t.get j := by
  intro f
  induction f with
  | zero => intro t k x h; omega
  | succ f ih =>
    intro t k x h j
    have hb0 : ∀ n : Nat, Nat.beq n 0 = decide (n = 0) := fun n => by cases n <;> rfl
    have hb1 : ∀ n : Nat, Nat.beq n 1 = decide (n = 1) := fun n => by
      rcases n with _ | _ | n <;> rfl
    cases t with
    | e =>
      simp only [Tr.setF, hb0, hb1]
      by_cases hk0 : k = 0
      · subst hk0
        simp only [decide_true, cond_true, Tr.get, hb0, hb1]
        by_cases hj0 : j = 0
        · simp [hj0]
        · simp [hj0]
      · simp only [hk0, decide_false, cond_false]
        by_cases hk1 : k % 2 = 1
        · simp only [hk1, decide_true, cond_true, Tr.get, hb0, hb1]
          by_cases hj0 : j = 0
          · simp [hj0]; intro h'; omega
          · simp only [hj0, decide_false, cond_false]
            by_cases hj1 : j % 2 = 1
            · simp only [hj1, decide_true, cond_true]
              rw [ih .e (k / 2) x (by omega) (j / 2)]
              have : (j / 2 = k / 2) ↔ (j = k) := by omega
              simp [this, Tr.get]
            · simp only [hj1, decide_false, cond_false]
              rw [if_neg (by omega)]
        · simp only [hk1, decide_false, cond_false, Tr.get, hb0, hb1]
          by_cases hj0 : j = 0
          · simp [hj0]; intro h'; omega
          · simp only [hj0, decide_false, cond_false]
            by_cases hj1 : j % 2 = 1
            · simp only [hj1, decide_true, cond_true]
              rw [if_neg (by omega)]
            · simp only [hj1, decide_false, cond_false]
              rw [ih .e (k / 2 - 1) x (by omega) (j / 2 - 1)]
              have : (j / 2 - 1 = k / 2 - 1) ↔ (j = k) := by omega
              simp [this, Tr.get]
    | n l v r =>
      simp only [Tr.setF, hb0, hb1]
      by_cases hk0 : k = 0
      · subst hk0
        simp only [decide_true, cond_true, Tr.get, hb0, hb1]
        by_cases hj0 : j = 0
        · simp [hj0]
        · simp [hj0]
      · simp only [hk0, decide_false, cond_false]
        by_cases hk1 : k % 2 = 1
        · simp only [hk1, decide_true, cond_true, Tr.get, hb0, hb1]
          by_cases hj0 : j = 0
          · simp [hj0]; intro h'; omega
          · simp only [hj0, decide_false, cond_false]
            by_cases hj1 : j % 2 = 1
            · simp only [hj1, decide_true, cond_true]
              rw [ih l (k / 2) x (by omega) (j / 2)]
              have : (j / 2 = k / 2) ↔ (j = k) := by omega
              simp [this]
            · simp only [hj1, decide_false, cond_false]
              rw [if_neg (by omega)]
        · simp only [hk1, decide_false, cond_false, Tr.get, hb0, hb1]
          by_cases hj0 : j = 0
          · simp [hj0]; intro h'; omega
          · simp only [hj0, decide_false, cond_false]
            by_cases hj1 : j % 2 = 1
            · simp only [hj1, decide_true, cond_true]
              rw [if_neg (by omega)]
            · simp only [hj1, decide_false, cond_false]
              rw [ih r (k / 2 - 1) x (by omega) (j / 2 - 1)]
              have : (j / 2 - 1 = k / 2 - 1) ↔ (j = k) := by omega
              simp [this]

theorem Tr.get_set (t : Tr α) (k : Nat) (x : α) (j : Nat) : (t.set k x).get j = if j = k then some x else t.get j :=
  Tr.get_setF _ t k _ (by omega) j
theorem Tr.get_del (t : Tr α) (k j : Nat) : (t.del k).get j = if j = k then none else t.get j :=
  Tr.get_setF _ t k _ (by omega) j
end

/-! ### How an abstract value stands for a value -/
/-- Where an abstract block lies: its block, the place of its cell 0 there, and how many elements lie from there on (of a block whose capacity is not known). -/
abbrev Em := Nat → Option (Nat × Nat × Nat)

def Em.le (E E' : Em) : Prop := ∀ i p, E i = some p → E' i = some p
theorem Em.le_refl (E : Em) : E.le E := fun _ _ h => h
theorem Em.le_trans {E E' E'' : Em} (h : E.le E') (h' : E'.le E'') : E.le E'' := fun i p hp => h' i p (h i p hp)

def strV (s : List Nat) : Value := .string ⟨(s.map UInt8.ofNat).toArray⟩
def isBytes (s : List Nat) : Prop := ∀ c ∈ s, c < 256

mutual
def VRel (E : Em) : AV → Value → Prop
  | .raw v, V => V = v
  | .str s, V => isBytes s ∧ V = strV s
  | .ptr id off, V => ∃ p, E id = some p ∧ V = .pointer (some ⟨p.1, p.2.1 + off, none⟩)
  | .slice id off len ci cap ex, V => ∃ p, E id = some p ∧ V = .slice (some ⟨p.1, p.2.1 + off, none⟩) len (if ex then cap else p.2.2 - ci) ∧ len ≤ cap ∧ (ex = false → cap ≤ p.2.2 - ci)
  | .esl id off ci l size, V => ∃ p, E id = some p ∧ V = .slice (some (if p.2.2 - ci = l then ⟨p.1, p.2.1 + off, none⟩ else ⟨p.1, p.2.1 + off + l * size, none⟩)) 0 (p.2.2 - ci - l)
  | .map id, V => ∃ p, E id = some p ∧ V = .map (some p.1)
  | .fn f cap, V => ∃ C, VRels E cap C ∧ V = .func (.func f) #[] C.toArray
  | .yld id, V => ∃ p, E id = some p ∧ V = .func (.yield p.1) #[] #[]
  | .iface t v, V => ∃ U, VRel E v U ∧ V = .iface t U
  | .agg vs, V => ∃ C, VRels E vs C ∧ V = .agg C.toArray
  | .tuple vs, V => ∃ C, VRels E vs C ∧ V = .tuple C.toArray
def VRels (E : Em) : List AV → List Value → Prop
  | [], L => L = []
  | v :: vs, L => ∃ V Vs, VRel E v V ∧ VRels E vs Vs ∧ L = V :: Vs
end

mutual
theorem VRel.mono' {E E' : Em} (hE : E.le E') : ∀ (v : AV) (V : Value), VRel E v V → VRel E' v V
  | .raw v, V, h => by simpa [VRel] using h
  | .str s, V, h => by simpa [VRel] using h
  | .ptr id off, V, h => by simp only [VRel] at h ⊢; obtain ⟨p, hp, r⟩ := h; exact ⟨p, hE _ _ hp, r⟩
  | .slice id off len ci cap ex, V, h => by simp only [VRel] at h ⊢; obtain ⟨p, hp, r⟩ := h; exact ⟨p, hE _ _ hp, r⟩
  | .esl id off ci l size, V, h => by simp only [VRel] at h ⊢; obtain ⟨p, hp, r⟩ := h; exact ⟨p, hE _ _ hp, r⟩
  | .map id, V, h => by simp only [VRel] at h ⊢; obtain ⟨p, hp, r⟩ := h; exact ⟨p, hE _ _ hp, r⟩
  | .fn f cap, V, h => by simp only [VRel] at h ⊢; obtain ⟨C, hc, r⟩ := h; exact ⟨C, VRels.mono' hE cap C hc, r⟩
  | .yld id, V, h => by simp only [VRel] at h ⊢; obtain ⟨p, hp, r⟩ := h; exact ⟨p, hE _ _ hp, r⟩
  | .iface t v, V, h => by simp only [VRel] at h ⊢; obtain ⟨U, hu, r⟩ := h; exact ⟨U, VRel.mono' hE v U hu, r⟩
  | .agg vs, V, h => by simp only [VRel] at h ⊢; obtain ⟨C, hc, r⟩ := h; exact ⟨C, VRels.mono' hE vs C hc, r⟩
  | .tuple vs, V, h => by simp only [VRel] at h ⊢; obtain ⟨C, hc, r⟩ := h; exact ⟨C, VRels.mono' hE vs C hc, r⟩
theorem VRels.mono' {E E' : Em} (hE : E.le E') : ∀ (vs : List AV) (L : List Value), VRels E vs L → VRels E' vs L
  | [], L, h => by simpa [VRels] using h
  | v :: vs, L, h => by
    simp only [VRels] at h ⊢
    obtain ⟨V, Vs, hv, hvs, r⟩ := h
    exact ⟨V, Vs, VRel.mono' hE v V hv, VRels.mono' hE vs Vs hvs, r⟩
end

theorem VRel.mono {E E' : Em} {v : AV} {V : Value} (h : VRel E v V) (hE : E.le E') : VRel E' v V := VRel.mono' hE v V h
theorem VRels.mono {E E' : Em} {vs : List AV} {L : List Value} (h : VRels E vs L) (hE : E.le E') : VRels E' vs L := VRels.mono' hE vs L h

mutual
/-- What stands for one value under E stands for no other under more. -/
theorem VRel.same {E E' : Em} (hE : E.le E') : ∀ (v : AV) (V V' : Value), VRel E v V → VRel E' v V' → V' = V
  | .raw v, V, V', h, h' => by simp only [VRel] at h h'; rw [h, h']
  | .str s, V, V', h, h' => by simp only [VRel] at h h'; rw [h.2, h'.2]
  | .ptr id off, V, V', h, h' => by
    simp only [VRel] at h h'; obtain ⟨p, hp, r⟩ := h; obtain ⟨q, hq, r'⟩ := h'; rw [hE _ _ hp] at hq; cases hq; rw [r, r']
  | .slice id off len ci cap ex, V, V', h, h' => by
    simp only [VRel] at h h'; obtain ⟨p, hp, r, _⟩ := h; obtain ⟨q, hq, r', _⟩ := h'; rw [hE _ _ hp] at hq; cases hq; rw [r, r']
  | .esl id off ci l size, V, V', h, h' => by
    simp only [VRel] at h h'; obtain ⟨p, hp, r⟩ := h; obtain ⟨q, hq, r'⟩ := h'; rw [hE _ _ hp] at hq; cases hq; rw [r, r']
  | .map id, V, V', h, h' => by
    simp only [VRel] at h h'; obtain ⟨p, hp, r⟩ := h; obtain ⟨q, hq, r'⟩ := h'; rw [hE _ _ hp] at hq; cases hq; rw [r, r']
  | .fn f cap, V, V', h, h' => by
    simp only [VRel] at h h'; obtain ⟨C, hc, r⟩ := h; obtain ⟨C', hc', r'⟩ := h'; rw [r, r', VRels.same hE cap C C' hc hc']
  | .yld id, V, V', h, h' => by
    simp only [VRel] at h h'; obtain ⟨p, hp, r⟩ := h; obtain ⟨q, hq, r'⟩ := h'; rw [hE _ _ hp] at hq; cases hq; rw [r, r']
  | .iface t v, V, V', h, h' => by
    simp only [VRel] at h h'; obtain ⟨U, hu, r⟩ := h; obtain ⟨U', hu', r'⟩ := h'; rw [r, r', VRel.same hE v U U' hu hu']
  | .agg vs, V, V', h, h' => by
    simp only [VRel] at h h'; obtain ⟨C, hc, r⟩ := h; obtain ⟨C', hc', r'⟩ := h'; rw [r, r', VRels.same hE vs C C' hc hc']
  | .tuple vs, V, V', h, h' => by
    simp only [VRel] at h h'; obtain ⟨C, hc, r⟩ := h; obtain ⟨C', hc', r'⟩ := h'; rw [r, r', VRels.same hE vs C C' hc hc']
theorem VRels.same {E E' : Em} (hE : E.le E') : ∀ (vs : List AV) (L L' : List Value), VRels E vs L → VRels E' vs L' → L' = L
  | [], L, L', h, h' => by simp only [VRels] at h h'; rw [h, h']
  | v :: vs, L, L', h, h' => by
    simp only [VRels] at h h'
    obtain ⟨V, Vs, hv, hvs, r⟩ := h
    obtain ⟨V', Vs', hv', hvs', r'⟩ := h'
    rw [r, r', VRel.same hE v V V' hv hv', VRels.same hE vs Vs Vs' hvs hvs']
end

/-! ### Lists of values -/
theorem VRels.length {E : Em} : ∀ {vs : List AV} {L : List Value}, VRels E vs L → L.length = vs.length
  | [], L, h => by simp only [VRels] at h; simp [h]
  | v :: vs, L, h => by
    simp only [VRels] at h
    obtain ⟨V, Vs, _, hvs, r⟩ := h
    simp [r, VRels.length hvs]

theorem VRels.get {E : Em} : ∀ {vs : List AV} {L : List Value}, VRels E vs L → ∀ {i : Nat} {v : AV}, vs[i]? = some v → ∃ V, L[i]? = some V ∧ VRel E v V
  | [], _, _, i, v, hv => by simp at hv
  | u :: vs, L, h, i, v, hv => by
    simp only [VRels] at h
    obtain ⟨V, Vs, hu, hvs, r⟩ := h
    cases i with
    | zero => simp at hv; subst hv; exact ⟨V, by simp [r], hu⟩
    | succ i => simp at hv; obtain ⟨W, hW, hr⟩ := VRels.get hvs hv; exact ⟨W, by simp [r, hW], hr⟩

theorem VRels.append {E : Em} : ∀ {vs us : List AV} {L M : List Value}, VRels E vs L → VRels E us M → VRels E (vs ++ us) (L ++ M)
  | [], us, L, M, h, h' => by simp only [VRels] at h; simpa [h] using h'
  | v :: vs, us, L, M, h, h' => by
    simp only [VRels, List.cons_append] at h ⊢
    obtain ⟨V, Vs, hv, hvs, r⟩ := h
    exact ⟨V, Vs ++ M, hv, VRels.append hvs h', by simp [r]⟩

theorem VRels.map {E : Em} {β : Type} {f : β → AV} {g : β → Value} (h : ∀ x, VRel E (f x) (g x)) : ∀ (l : List β), VRels E (l.map f) (l.map g)
  | [] => by simp [VRels]
  | x :: l => by simp only [List.map_cons, VRels]; exact ⟨_, _, h x, VRels.map h l, rfl⟩

theorem VRels.raws {E : Em} : ∀ (L : List Value), VRels E (L.map .raw) L
  | [] => by simp [VRels]
  | V :: L => by simp only [List.map_cons, VRels]; exact ⟨V, L, by simp [VRel], VRels.raws L, rfl⟩

theorem VRels.cons {E : Em} {v : AV} {V : Value} {vs : List AV} {L : List Value} (h : VRel E v V) (h' : VRels E vs L) : VRels E (v :: vs) (V :: L) := by
  simp only [VRels]; exact ⟨V, L, h, h', rfl⟩

theorem VRels.nil {E : Em} : VRels E [] [] := by simp [VRels]

theorem takeL_some : ∀ {n : Nat} {l r : List AV}, takeL n l = some r → r = l.take n ∧ n ≤ l.length
  | 0, l, r, h => by simp [takeL] at h; simp [h]
  | n + 1, [], r, h => by simp [takeL] at h
  | n + 1, a :: l, r, h => by
    simp only [takeL] at h
    cases hr : takeL n l with
    | none => simp [hr] at h
    | some q =>
      simp only [hr, Option.some.injEq] at h
      obtain ⟨hq, hn⟩ := takeL_some hr
      subst h
      simp [hq, hn]

theorem dropL_some : ∀ {n : Nat} {l r : List AV}, dropL n l = some r → r = l.drop n ∧ n ≤ l.length
  | 0, l, r, h => by simp [dropL] at h; simp [h]
  | n + 1, [], r, h => by simp [dropL] at h
  | n + 1, a :: l, r, h => by
    simp only [dropL] at h
    obtain ⟨hq, hn⟩ := dropL_some h
    simp [hq, hn]

theorem cutL_some {off n : Nat} {cs r : List AV} (h : cutL off n cs = some r) : r = (cs.drop off).take n ∧ off + n ≤ cs.length := by
  unfold cutL at h
  cases hd : dropL off cs with
  | none => simp [hd] at h
  | some l =>
    simp only [hd] at h
    obtain ⟨rfl, h1⟩ := dropL_some hd
    obtain ⟨rfl, h2⟩ := takeL_some h
    simp at h2
    exact ⟨rfl, by omega⟩

theorem cutL_get {off n : Nat} {cs r : List AV} (h : cutL off n cs = some r) : r.length = n ∧ ∀ i, i < n → r[i]? = cs[off + i]? := by
  obtain ⟨rfl, hl⟩ := cutL_some h
  refine ⟨by simp; omega, fun i hi => ?_⟩
  rw [List.getElem?_take, if_pos hi, List.getElem?_drop]

theorem putL_some : ∀ {cs : List AV} {n : Nat} {xs r : List AV}, putL cs n xs = some r → (xs = [] ∨ n + xs.length ≤ cs.length) ∧ r.length = cs.length ∧ ∀ i, r[i]? = if n ≤ i ∧ i < n + xs.length then xs[i - n]? else cs[i]?
  | cs, n, [], r, h => by
    have hr : cs = r := by cases cs <;> cases n <;> simpa [putL] using h
    subst hr
    exact ⟨.inl rfl, rfl, fun i => by rw [if_neg (by simp)]⟩
  | [], n, x :: xs, r, h => by cases n <;> simp [putL] at h
  | c :: cs, 0, x :: xs, r, h => by
    simp only [putL] at h
    cases hp : putL cs 0 xs with
    | none => simp [hp] at h
    | some q =>
      simp only [hp, Option.some.injEq] at h
      subst h
      obtain ⟨h1, h2, h3⟩ := putL_some hp
      refine ⟨.inr ?_, by simp [h2], fun i => ?_⟩
      · rcases h1 with rfl | h1
        · simp
        · simp at h1 ⊢; omega
      · cases i with
        | zero => simp
        | succ i =>
          simp only [List.getElem?_cons_succ, h3 i, List.length_cons, Nat.zero_le, true_and, Nat.zero_add, Nat.sub_zero]
          by_cases hi : i < xs.length
          · rw [if_pos hi, if_pos (by omega)]
          · rw [if_neg hi, if_neg (by omega)]
  | c :: cs, n + 1, x :: xs, r, h => by
    simp only [putL] at h
    cases hp : putL cs n (x :: xs) with
    | none => simp [hp] at h
    | some q =>
      simp only [hp, Option.some.injEq] at h
      subst h
      obtain ⟨h1, h2, h3⟩ := putL_some hp
      refine ⟨.inr ?_, by simp [h2], fun i => ?_⟩
      · rcases h1 with h1 | h1
        · simp at h1
        · simp at h1 ⊢; omega
      · cases i with
        | zero => simp
        | succ i =>
          simp only [List.getElem?_cons_succ, h3 i]
          by_cases hi : n ≤ i ∧ i < n + (x :: xs).length
          · rw [if_pos hi, if_pos (by omega)]; congr 1; omega
          · rw [if_neg hi, if_neg (by omega)]

theorem cells_rel {E : Em} {v : AV} {V : Value} (h : VRel E v V) : VRels E v.cells V.cells.toList := by
  cases v with
  | raw u =>
    simp only [VRel] at h; subst h
    cases V <;> simp only [AV.cells, Value.cells] <;> first | exact VRels.raws _ | exact VRels.cons (by simp [VRel]) VRels.nil
  | agg vs => simp only [VRel] at h; obtain ⟨C, hc, rfl⟩ := h; simpa [AV.cells, Value.cells] using hc
  | str s => have := h; simp only [VRel] at h; rw [h.2]; exact VRels.cons (h.2 ▸ this) VRels.nil
  | ptr id off => have := h; simp only [VRel] at h; obtain ⟨p, hp, r⟩ := h; rw [r]; exact VRels.cons (r ▸ this) VRels.nil
  | slice id off len ci cap ex => have := h; simp only [VRel] at h; obtain ⟨p, hp, r, _⟩ := h; rw [r]; exact VRels.cons (r ▸ this) VRels.nil
  | esl id off ci l size => have := h; simp only [VRel] at h; obtain ⟨p, hp, r⟩ := h; rw [r]; exact VRels.cons (r ▸ this) VRels.nil
  | map id => have := h; simp only [VRel] at h; obtain ⟨p, hp, r⟩ := h; rw [r]; exact VRels.cons (r ▸ this) VRels.nil
  | fn f cap => have := h; simp only [VRel] at h; obtain ⟨C, hc, r⟩ := h; rw [r]; exact VRels.cons (r ▸ this) VRels.nil
  | yld id => have := h; simp only [VRel] at h; obtain ⟨p, hp, r⟩ := h; rw [r]; exact VRels.cons (r ▸ this) VRels.nil
  | iface t u => have := h; simp only [VRel] at h; obtain ⟨U, hu, r⟩ := h; rw [r]; exact VRels.cons (r ▸ this) VRels.nil
  | tuple vs => have := h; simp only [VRel] at h; obtain ⟨C, hc, r⟩ := h; rw [r]; exact VRels.cons (r ▸ this) VRels.nil

/-- The value of one cell: no struct, no array, no tuple. -/
def oneV : Value → Bool
  | .agg _ => false
  | .tuple _ => false
  | _ => true

theorem one_rel {E : Em} {v : AV} {V : Value} (h : VRel E v V) (h1 : v.one = true) : oneV V = true := by
  cases v with
  | raw u => simp only [VRel] at h; subst h; cases V <;> simp [AV.one, oneV] at h1 ⊢
  | agg vs => simp [AV.one] at h1
  | tuple vs => simp [AV.one] at h1
  | str s => simp only [VRel] at h; rw [h.2]; rfl
  | ptr id off => simp only [VRel] at h; obtain ⟨p, hp, r⟩ := h; rw [r]; rfl
  | slice id off len ci cap ex => simp only [VRel] at h; obtain ⟨p, hp, r, _⟩ := h; rw [r]; rfl
  | esl id off ci l size => simp only [VRel] at h; obtain ⟨p, hp, r⟩ := h; rw [r]; rfl
  | map id => simp only [VRel] at h; obtain ⟨p, hp, r⟩ := h; rw [r]; rfl
  | fn f cap => simp only [VRel] at h; obtain ⟨C, hc, r⟩ := h; rw [r]; rfl
  | yld id => simp only [VRel] at h; obtain ⟨p, hp, r⟩ := h; rw [r]; rfl
  | iface t u => simp only [VRel] at h; obtain ⟨U, hu, r⟩ := h; rw [r]; rfl

theorem ones_rel {E : Em} : ∀ {vs : List AV} {L : List Value}, VRels E vs L → vs.all AV.one = true → ∀ V ∈ L, oneV V = true
  | [], L, h, _, V, hV => by simp only [VRels] at h; subst h; simp at hV
  | v :: vs, L, h, h1, V, hV => by
    simp only [VRels] at h
    obtain ⟨U, Us, hu, hus, rfl⟩ := h
    simp only [List.all_cons, Bool.and_eq_true] at h1
    simp only [List.mem_cons] at hV
    rcases hV with rfl | hV
    · exact one_rel hu h1.1
    · exact ones_rel hus h1.2 V hV

/-! ### Memory -/
/-- The entries of a map. -/
def MRels (E : Em) : List (AV × AV) → List MapEntry → Prop
  | [], L => L = []
  | (k, v) :: es, L => ∃ e r, VRel E k e.key ∧ VRel E v e.val ∧ MRels E es r ∧ L = e :: r

/-- The entries' stamps. -/
def Born (en : Array MapEntry) (ck : Nat) : Prop := (∀ x ∈ en.toList, x.born < ck) ∧ (en.toList.map (·.born)).Nodup

/-- The temporaries. -/
def TRel (E : Em) (t : Tr AV) (n : Nat) (T : Array Value) : Prop :=
  T.size = n ∧ ∀ i, match t.get i with
    | some v => ∃ V, T[i]? = some V ∧ VRel E v V
    | none => T.getD i undef = undef

/-- Of a block's n cells none from d on is frozen; where the mark is even, no place from d on is; and there lie K elements of so many cells as half the mark says. -/
def Free (d K n : Nat) (fz : Nat × Nat) (frz : Nat) : Prop := (∀ i, d ≤ i → i < n → ¬ (fz.1 ≤ i ∧ i < fz.2)) ∧ (frz % 2 = 0 → fz.2 ≤ d) ∧ (0 < frz → d + K * (frz / 2) ≤ n) ∧ (frz = 0 → d = 0)

def ORel (E : Em) (p : Nat × Nat × Nat) : AO → Obj → Prop
  | .cells cs el frz, O => ∃ C fz, O = .cells C el fz ∧ (∀ i v, cs[i]? = some v → ∃ V, C[p.2.1 + i]? = some V ∧ VRel E v V) ∧ Free p.2.1 p.2.2 C.size fz frz
  | .map es, O => ∃ en ck, O = .map en ck ∧ MRels E es en.toList ∧ Born en ck
  | .loop st pend _ t n ps as b d, O => ∃ L pd, O = .loop L ∧ L.state = st ∧ L.pending = pend ∧ TRel E t n L.tmps ∧ L.params.toList = ps ∧ L.assign = as ∧ L.body = b ∧ E d = some pd ∧ L.defers = pd.1
  | .dfr taken, O => O = .deferred (if taken then none else some [])
  | .siter s pos left, O => isBytes s ∧ O = .stringIter ⟨(s.map UInt8.ofNat).toArray⟩ pos ∧ left = s.drop pos ∧ p.2.1 = 0

theorem MRels.mono {E E' : Em} (hE : E.le E') : ∀ {es : List (AV × AV)} {L : List MapEntry}, MRels E es L → MRels E' es L
  | [], L, h => by simpa [MRels] using h
  | (k, v) :: es, L, h => by
    simp only [MRels] at h ⊢
    obtain ⟨e, r, hk, hv, hr, rfl⟩ := h
    exact ⟨e, r, hk.mono hE, hv.mono hE, MRels.mono hE hr, rfl⟩

theorem TRel.mono {E E' : Em} (hE : E.le E') {t : Tr AV} {n : Nat} {T : Array Value} (h : TRel E t n T) : TRel E' t n T := by
  refine ⟨h.1, fun i => ?_⟩
  have := h.2 i
  cases hg : t.get i with
  | none => simpa [hg] using this
  | some v => simp only [hg] at this ⊢; obtain ⟨V, h1, h2⟩ := this; exact ⟨V, h1, h2.mono hE⟩

theorem ORel.mono {E E' : Em} (hE : E.le E') {p : Nat × Nat × Nat} {o : AO} {O : Obj} (h : ORel E p o O) : ORel E' p o O := by
  cases o with
  | cells cs el frz =>
    simp only [ORel] at h ⊢
    obtain ⟨C, fz, rfl, hc, hf⟩ := h
    exact ⟨C, fz, rfl, fun i v hv => let ⟨V, h1, h2⟩ := hc i v hv; ⟨V, h1, h2.mono hE⟩, hf⟩
  | map es => simp only [ORel] at h ⊢; obtain ⟨en, ck, rfl, hm, hB⟩ := h; exact ⟨en, ck, rfl, hm.mono hE, hB⟩
  | loop st pend fn t n ps as b d =>
    simp only [ORel] at h ⊢
    obtain ⟨L, pd, h1, h2, h3, h4, h5, h6, h7, h8, h9⟩ := h
    exact ⟨L, pd, h1, h2, h3, h4.mono hE, h5, h6, h7, hE _ _ h8, h9⟩
  | dfr taken => simpa [ORel] using h
  | siter s pos left => simpa [ORel] using h

end Go.AX
