import Derived.Test.YtnaelolekokhbaaGreatAxStepA
namespace Go.AX
open Go.RowKit

/-! ### Equality that is told by a run -/
def beqV : Value → Value → Bool
  | .bool a, .bool b => a == b
  | .int k a, .int l b => decide (k = l) && decide (a = b)
  | .float k a, .float l b => decide (k = l) && Nat.beq a b
  | .pointer none, .pointer none => true
  | .slice none a b, .slice none c d => Nat.beq a c && Nat.beq b d
  | .map none, .map none => true
  | .nilFunc, .nilFunc => true
  | .nilIface, .nilIface => true
  | _, _ => false

mutual
def beqA : AV → AV → Bool
  | .raw v, .raw u => beqV v u
  | .str x, .str y => eqB x y
  | .ptr i o, .ptr j q => Nat.beq i j && Nat.beq o q
  | .slice i o l c k x, .slice i' o' l' c' k' x' => Nat.beq i i' && (Nat.beq o o' && (Nat.beq l l' && (Nat.beq c c' && (Nat.beq k k' && (x == x')))))
  | .esl i o c l z, .esl i' o' c' l' z' => Nat.beq i i' && (Nat.beq o o' && (Nat.beq c c' && (Nat.beq l l' && Nat.beq z z')))
  | .map i, .map j => Nat.beq i j
  | .fn f c, .fn g d => Nat.beq f g && beqAs c d
  | .yld i, .yld j => Nat.beq i j
  | .iface t v, .iface u x => Nat.beq t u && beqA v x
  | .agg c, .agg d => beqAs c d
  | .tuple c, .tuple d => beqAs c d
  | _, _ => false
def beqAs : List AV → List AV → Bool
  | [], [] => true
  | v :: vs, u :: us => beqA v u && beqAs vs us
  | _, _ => false
end

def beqM : List (AV × AV) → List (AV × AV) → Bool
  | [], [] => true
  | (k, v) :: l, (k', v') :: r => beqA k k' && (beqA v v' && beqM l r)
  | _, _ => false

def beqO : AO → AO → Bool
  | .cells c e f, .cells c' e' f' => beqAs c c' && (Nat.beq e e' && Nat.beq f f')
  | .map es, .map es' => beqM es es'
  | _, _ => false

theorem beq_eq {a b : Nat} (h : Nat.beq a b = true) : a = b := Nat.eq_of_beq_eq_true h

theorem beqV_eq {v u : Value} (h : beqV v u = true) : v = u := by
  unfold beqV at h
  split at h <;> simp only [Bool.and_eq_true, decide_eq_true_eq, beq_iff_eq, Bool.false_eq_true] at h
  · rw [h]
  · obtain ⟨rfl, rfl⟩ := h; rfl
  · obtain ⟨rfl, h⟩ := h; rw [beq_eq h]
  · rfl
  · rw [beq_eq h.1, beq_eq h.2]
  · rfl
  · rfl
  · rfl

mutual
theorem beqA_eq : ∀ (v u : AV), beqA v u = true → v = u := fun v u h => by
  cases v <;> cases u <;> simp only [beqA, Bool.and_eq_true, beq_iff_eq, Bool.false_eq_true] at h
  · rw [beqV_eq h]
  · rw [eqB_dec] at h; rw [of_decide_eq_true h]
  · rw [beq_eq h.1, beq_eq h.2]
  · obtain ⟨h1, h2, h3, h4, h5, h6⟩ := h; rw [beq_eq h1, beq_eq h2, beq_eq h3, beq_eq h4, beq_eq h5, h6]
  · obtain ⟨h1, h2, h3, h4, h5⟩ := h; rw [beq_eq h1, beq_eq h2, beq_eq h3, beq_eq h4, beq_eq h5]
  · rw [beq_eq h]
  · rw [beq_eq h.1, beqAs_eq _ _ h.2]
  · rw [beq_eq h]
  · rw [beq_eq h.1, beqA_eq _ _ h.2]
  · rw [beqAs_eq _ _ h]
  · rw [beqAs_eq _ _ h]
theorem beqAs_eq : ∀ (v u : List AV), beqAs v u = true → v = u := fun v u h => by
  cases v <;> cases u <;> simp only [beqAs, Bool.and_eq_true, Bool.false_eq_true] at h
  · rfl
  · rw [beqA_eq _ _ h.1, beqAs_eq _ _ h.2]
end

theorem beqM_eq : ∀ {l r : List (AV × AV)}, beqM l r = true → l = r
  | [], [], _ => rfl
  | [], _ :: _, h => by simp [beqM] at h
  | _ :: _, [], h => by simp [beqM] at h
  | (k, v) :: l, (k', v') :: r, h => by
    simp only [beqM, Bool.and_eq_true] at h
    rw [beqA_eq _ _ h.1, beqA_eq _ _ h.2.1, beqM_eq h.2.2]

theorem beqO_eq {o o' : AO} (h : beqO o o' = true) : o = o' := by
  unfold beqO at h
  split at h
  · simp only [Bool.and_eq_true] at h
    rw [beqAs_eq _ _ h.1, beq_eq h.2.1, beq_eq h.2.2]
  · rw [beqM_eq h]
  · cases h

end Go.AX
