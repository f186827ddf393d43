import Derived.Test.YtnaelolekokhbaaGreatAxPlan
import Derived.IntWalk
namespace Go.AX
open Go.RowKit
variable {P : Program} {e : Env} {pr : Prims} {r : Tasks} {rd : Option Nat} {a : Ac} {s : St}

/-! ### The run with plans -/
theorem round_le (hr : Sound P r) {id : Nat} {args : List AV} {k k' : AV → St → Bool} (h : roundA r id args s k = true) (hk : ∀ v s', k v s' = true → k' v s' = true) : roundA (sem P) id args s k' = true := by
  unfold roundA at h ⊢
  split at h
  · split at h
    · refine mono_code (sem_max_code hr h) fun ex a1 s1 h1 => ?_
      split at h1
      · split at h1
        · refine mono_code (sem_max_code hr h1) fun ex a2 s2 h2 => ?_
          split at h2
          · exact endK_mono h2 hk
          · exact endK_mono h2 hk
          · exact endK_mono h2 hk
          · exact endK_mono h2 hk
          · cases h2
        · cases h1
      · cases h1
    · cases h
  · cases h
theorem evOp_le (hr : Sound P r) {o : Oper} {k k' : Ac → St → Bool} {kp kp' : AV → St → Bool} (h : evOp e pr r rd o a s k kp = true) (hk : ∀ a' s', k a' s' = true → k' a' s' = true) (hp : ∀ v s', kp v s' = true → kp' v s' = true) :
    evOp e pr (sem P) rd o a s k' kp' = true := by
  unfold evOp at h ⊢
  split at h
  · split at h
    · exact hp _ _ h
    · cases h
  · split at h
    · split at h
      · exact putK_mono h hk
      · cases h
    · cases h
  · split at h
    · split at h
      · split at h
        · exact putK_mono h hk
        · split at h
          · exact putK_mono h hk
          · exact mono_call (sem_max_call hr h) (fun v s' hv => putK_mono hv hk) hp
      · exact round_le hr h (fun v s' hv => putK_mono hv hk)
      · cases h
    · exact plain_mono h hk
  · exact plain_mono h hk
theorem evPl_le (hr : Sound P r) {all : List Oper} {k : Ac → St → Bool} {kp : AV → Ac → St → Bool} : ∀ (p : Pl) (held : List (Nat × List Nat)) (a : Ac) (s : St), evPl e pr r rd all p held a s k kp = true → evPl e pr (sem P) rd all p held a s k kp = true
  | .done, _, _, _, h => h
  | .no, _, _, _, h => h
  | .yes, _, _, _, h => h
  | .take i p, held, a, s, h => by
    simp only [evPl] at h ⊢
    split at h
    · split at h
      · split at h
        · rename_i v ids _
          cases hi : idsIn s ids with
          | false => rw [hi] at h; cases h
          | true => rw [hi] at h; simp only [cond_true] at h ⊢; exact putK_mono h fun a' s' h' => evPl_le hr p _ _ _ h'
        · cases h
      · exact putK_mono h fun a' s' h' => evPl_le hr p _ _ _ h'
      · cases h
    · cases h
  | .alt i deps p q, held, a, s, h => by
    simp only [evPl, Bool.and_eq_true] at h ⊢
    refine ⟨?_, evPl_le hr q _ _ _ h.2⟩
    have h := h.1
    split at h
    · split at h
      · refine evOp_le hr h (fun a' s' h' => ?_) (fun _ _ h' => h')
        cases hst : stillD deps s s' held with
        | false => rw [hst] at h'; cases h'
        | true => rw [hst] at h'; exact evPl_le hr p _ _ _ h'
      · exact putK_mono h fun a' s' h' => evPl_le hr p _ _ _ h'
      · cases h
    · cases h

def stepX (e : Env) (pr : Prims) (r : Tasks) : Tasks := {
  code := fun rd c a s k => match c with
    | .region _ ops true => bif noSel ops.toList then evPl e pr r rd ops.toList (plan e ops ops.size (Array.replicate ops.size false)) [] a s (fun a' s' => k .normal a' s') (fun v a' s' => k (.panic v) { a' with t := delAll a'.t ops.toList } s') else false
    | c => (step e pr r).code rd c a s k
  call := (step e pr r).call }
def evX (e : Env) (pr : Prims) : Nat → Tasks
  | 0 => noTasks
  | n + 1 => stepX e pr (evX e pr n)

theorem stepX_code (H : Ok e P pr) (hr : Sound P r) {c : Code} {k : AE → Ac → St → Bool} (h : (stepX e pr r).code rd c a s k = true) : (sem P).code rd c a s k = true := by
  have other : (step e pr r).code rd c a s k = true → (sem P).code rd c a s k = true := fun h => sem_max_code (step_sound H.prog H.prims hr) h
  simp only [stepX] at h
  split at h
  · rename_i i ops
    cases hs : noSel ops.toList with
    | false => rw [hs] at h; cases h
    | true =>
      rw [hs] at h
      obtain ⟨l⟩ := ops
      exact w_plan H _ hs rfl (evPl_le hr _ _ _ _ h)
  · exact other h
theorem stepX_sound (H : Ok e P pr) (hr : Sound P r) : Sound P (stepX e pr r) := {
  code := fun h h1 h2 h3 h4 => sem_sound.code (stepX_code H hr h) h1 h2 h3 h4
  loop := fun h h1 h2 h3 h4 => sem_sound.loop (stepX_code H hr h) h1 h2 h3 h4
  call := fun h h1 h2 h3 h4 => (step_sound H.prog H.prims hr).call h h1 h2 h3 h4 }
theorem evX_sound (H : Ok e P pr) : ∀ n, Sound P (evX e pr n)
  | 0 => noTasks_sound
  | n + 1 => stepX_sound H (evX_sound H n)

/-- A law's call, from an empty memory. -/
theorem sem_walk {f : FuncId} {args : List AV} {Args : List Value} (hv : VRels (fun _ => none) args Args) (h : (sem P).call f args { h := .e, nx := 0 } (fun v _ => isTrue v) (fun _ _ => false) = true) (w : World) :
    Calls P f Args.toArray w fun e w' => e = .returned (.bool true) ∧ Below w.heap.size w w' := by
  have key := sem_sound.call (R := fun V w' => V = .bool true ∧ Below w.heap.size w w') (Rp := fun _ _ => False) h hv (sim0 w) (fun E' v s V w' _ hv hs hk => ?_) (fun _ _ _ _ _ _ _ _ h => by cases h)
  · refine (callsIn_wide (n := 0)).1 (CallsIn.mono key.2 fun en w' he => ?_)
    cases en with
    | returned V => exact ⟨by rw [he.1], he.2⟩
    | panicked ch => obtain ⟨_, _, hh⟩ := he; exact hh.elim
    | outgrown => exact he.elim
  · refine ⟨?_, hs.below⟩
    unfold isTrue at hk
    split at hk
    · rename_i b
      simp only [VRel] at hv
      subst hk hv
      rfl
    · cases hk
theorem isTrue_eq {v : AV} (h : isTrue v = true) : v = .raw (.bool true) := by
  unfold isTrue at h
  split at h
  · rw [h]
  · cases h
theorem call_true {f : FuncId} {args : List AV} {kr kp : AV → St → Bool} (h : (sem P).call f args s (fun v _ => isTrue v) (fun _ _ => false) = true) (hk : ∀ s', kr (.raw (.bool true)) s' = true) : (sem P).call f args s kr kp = true :=
  mono_call h (fun v s' hv => by rw [isTrue_eq hv]; exact hk s') (fun _ _ hv => by cases hv)

/-! ### Bits -/
def andI (x m : Int) : Int := IntKind.i64.wrap (((BitVec.ofInt 64 x &&& BitVec.ofInt 64 m).toNat : Nat) : Int)
def isI64 : AV → Bool
  | .raw (.int .i64 _) => true
  | _ => false
def andA : AV → AV → Option (AV × List Nat)
  | .raw (.int .i64 x), .raw (.int .i64 y) => some (.raw (.int .i64 (andI x y)), [])
  | _, _ => none
theorem i64_int {z : Int} : isI64 (.raw (.int .i64 z)) = true := (rfl)
theorem andA_int {x y : Int} : andA (.raw (.int .i64 x)) (.raw (.int .i64 y)) = some (.raw (.int .i64 (andI x y)), []) := (rfl)
theorem isI64_of {v : AV} (h : isI64 v = true) : ∃ z, v = .raw (.int .i64 z) := by
  unfold isI64 at h
  split at h
  · exact ⟨_, rfl⟩
  · cases h
theorem b_and {v w : AV} : binFast .and v w = none := by
  unfold binFast
  split
  · split <;> rfl
  · rfl
  · rfl
theorem eqS_and {t : TypeId} {x y : AV} {d : Option (AV × List Nat)} : eqS e s .and t x y d = d := (rfl)
theorem an_eq {dst : Option Tmp} {x y : Operand} {t t' ty : TypeId} {pos : String} {after : Array Edge} (hx : isI64 (a.eval x) = true) (hy : isI64 (a.eval y) = true) :
    stepPure e a ⟨dst, .binOp .and t x y t', ty, pos, after, none⟩ = andA (a.eval x) (a.eval y) := by
  obtain ⟨u, hx⟩ := isI64_of hx
  obtain ⟨v, hy⟩ := isI64_of hy
  have h1 : valAt a x = .int .i64 u := by simp [valAt, hx, toVal]
  have h2 : valAt a y = .int .i64 v := by simp [valAt, hy, toVal]
  have hall : (Op.operands (.binOp .and t x y t')).toList.all (fun x => (toVal (a.eval x)).isSome) = true := by
    show (List.all [x, y] (fun x => (toVal (a.eval x)).isSome)) = true
    simp [hx, hy, toVal]
  simp only [stepPure, hall, cond_true]
  have hr : pureRun e.P (execOp (valAt a) ⟨dst, .binOp .and t x y t', ty, pos, after, none⟩) = some (.value (.int .i64 (andI u v))) := by
    have : execOp (valAt a) ⟨dst, .binOp .and t x y t', ty, pos, after, none⟩ = .pure (.value (.int .i64 (andI u v))) := by
      simp only [execOp, h1, h2]
      rfl
    rw [this]; rfl
  rw [hr, hx, hy]
  rfl
theorem and_lt {x : Int} {m : Nat} (hm : m < 4611686018427387904) : ∃ r : Nat, r ≤ m ∧ andI x (m : Int) = (r : Int) := by
  refine ⟨(BitVec.ofInt 64 x &&& BitVec.ofInt 64 (m : Int)).toNat, ?_, ?_⟩
  · rw [BitVec.toNat_and]
    refine Nat.le_trans Nat.and_le_right ?_
    simp
    omega
  · unfold andI
    have : (BitVec.ofInt 64 x &&& BitVec.ofInt 64 (m : Int)).toNat ≤ m := by
      rw [BitVec.toNat_and]
      refine Nat.le_trans Nat.and_le_right ?_
      simp
      omega
    exact Go.IntWalk.i64_in _ (by omega)
end Go.AX
