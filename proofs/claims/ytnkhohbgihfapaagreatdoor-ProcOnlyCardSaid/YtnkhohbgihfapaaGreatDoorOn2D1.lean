import Derived.Test.YtnkhohbgihfapaaGreatDoorOn2B3
set_option linter.unusedVariables false
set_option linter.unusedSimpArgs false
set_option linter.defProp false
namespace Go.AX
open Go.Proofs Go.RowKit
set_option maxRecDepth 1000000
set_option maxHeartbeats 400000000
set_option linter.unusedSimpArgs false
def allN : Nat → (Nat → Bool) → Bool
  | 0, _ => true
  | n + 1, f => f n && allN n f
theorem allN_at : ∀ {n : Nat} {f : Nat → Bool}, allN n f = true → ∀ {i : Nat}, i < n → f i = true
  | 0, _, _, i, hi => absurd hi (Nat.not_lt_zero i)
  | n + 1, f, h, i, hi => by
    simp only [allN, Bool.and_eq_true] at h
    by_cases e : i = n
    · rw [e]; exact h.1
    · exact allN_at h.2 (by omega)
def decL (n : Nat) : List Nat := bif Nat.blt n 10 then [48 + n] else bif Nat.blt n 100 then [48 + n / 10, 48 + n % 10] else [48 + n / 100, 48 + n / 10 % 10, 48 + n % 10]
def isStrB (b : List Nat) : AV → Bool
  | .str l => eqB l b
  | _ => false
theorem isStrB_of {b : List Nat} {v : AV} (h : isStrB b v = true) : v = .str b := by
  unfold isStrB at h
  split at h
  · rw [eqB_iff, decide_eq_true_eq] at h
    rw [h]
  · cases h
theorem decRun : allN 256 (fun i => (evX TE pr2 3000).call 5 [.raw (.int .i64 (.ofNat i))] st0 (fun v _ => isStrB (decL i) v) (fun _ _ => false)) = true := by kernel_rfl
def decP (args : List AV) (s : St) : Option (AV × St) := match args with
  | [.raw (.int .i64 (.ofNat n))] => bif Nat.blt n 256 then some (.str (decL n), s) else none
  | _ => none
def pr4 : Prims := pr3.add 5 decP
theorem ok4 : Ok TE Tryz.prog pr4 := ⟨ok0.prog, prims_add ok3.prims (fun {args s s' v w0 w E Args} h hv hs => by
  unfold decP at h
  split at h
  · rename_i n
    cases hb : Nat.blt n 256 with
    | false => rw [hb] at h; cases h
    | true =>
    rw [hb, cond_true] at h
    simp only [Option.some.injEq, Prod.mk.injEq] at h
    obtain ⟨rfl, rfl⟩ := h
    have hr := allN_at decRun (i := n) (Nat.blt_eq.mp hb)
    exact lift_flat rfl rfl (fun kr kp hk => mono_call (sem_max_call (evX_sound (ok2 ok0) 3000) hr) (fun v s' hv => by rw [isStrB_of hv]; exact hk s') (fun _ _ hv => by cases hv)) hv hs
  · cases h)⟩
theorem pe4 {g : Nat} {args : List AV} {s : St} (h : g ≠ 268) : pr4.ext g args s = none := pe_ne h
theorem pf4 {g : Nat} {args : List AV} {s : St} (h1 : g ≠ 70) (h2 : g ≠ 138) (h3 : g ≠ 133) (h4 : g ≠ 137) (h5 : g ≠ 92) (h6 : g ≠ 91) (h7 : g ≠ 49) (h8 : g ≠ 90) (h9 : g ≠ 4) (h10 : g ≠ 5) : pr4.fn g args s = none := by
  unfold pr4
  rw [add_ne h10]
  exact pf3 h1 h2 h3 h4 h5 h6 h7 h8 h9
theorem c_dec {r : Tasks} {a : Ac} {dst : Option Tmp} {s : St} {k : Ac → St → Bool} {kp : AV → St → Bool} {n : Nat} (h : Nat.blt n 256 = true) : callV pr4 r (.fn 5 []) [.raw (.int .i64 (n : Int))] a dst s k kp = putK a dst (.str (decL n)) s k := by
  refine c_prim (pe4 (by decide)) ?_
  unfold pr4
  rw [add_same]
  show (bif Nat.blt n 256 then some (AV.str (decL n), s) else none) = _
  rw [h]
  rfl
theorem decL_len {n : Nat} : (decL n).length ≤ 3 := by
  unfold decL
  cases Nat.blt n 10 <;> cases Nat.blt n 100 <;> simp
end Go.AX
