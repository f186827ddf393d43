import Derived.Test.YtliabkjjnkemlaaGreatSB2
import Derived.Test.YtliabkjjnkemlaaGreatSA3
set_option linter.unusedVariables false
set_option linter.unusedSimpArgs false
set_option linter.defProp false
namespace Go.AX
open Go.Proofs Go.RowKit
set_option maxRecDepth 1000000
set_option linter.unusedSimpArgs false
theorem awakeRun : (evX TE pr2 3000).call 10 [] st0 (fun v _ => isTrue v) (fun _ _ => false) = true := by kernel_rfl
def awakeP (args : List AV) (s : St) : Option (AV × St) := match args with
  | [] => some (boolA true, s)
  | _ => none
def pr3 : Prims := pr2.add 10 awakeP
theorem ok3 : Ok TE Tryz.prog pr3 := ⟨ok0.prog, prims_add (ok2 ok0).prims (fun {args s s' v w0 w E Args} h hv hs => by
  unfold awakeP at h
  split at h
  · simp only [Option.some.injEq, Prod.mk.injEq] at h
    obtain ⟨rfl, rfl⟩ := h
    exact lift_flat rfl rfl (fun kr kp hk => call_true (sem_max_call (evX_sound (ok2 ok0) 3000) awakeRun) hk) hv hs
  · cases h)⟩
theorem pe3 {g : Nat} {args : List AV} {s : St} (h : g ≠ 128) : pr3.ext g args s = none := pe_ne h
theorem c_awake {r : Tasks} {a : Ac} {dst : Option Tmp} {s : St} {k : Ac → St → Bool} {kp : AV → St → Bool} : callV pr3 r (.fn 10 []) [] a dst s k kp = putK a dst (.raw (.bool true)) s k := by
  refine c_prim (pe3 (by decide)) ?_
  unfold pr3
  rw [add_same]
  rfl
theorem pf3 {g : Nat} {args : List AV} {s : St} (h1 : g ≠ 69) (h2 : g ≠ 77) (h3 : g ≠ 75) (h4 : g ≠ 81) (h5 : g ≠ 62) (h6 : g ≠ 66) (h7 : g ≠ 43) (h8 : g ≠ 53) (h9 : g ≠ 10) : pr3.fn g args s = none := by
  unfold pr3
  rw [add_ne h9]
  unfold pr2
  rw [add_ne h8, add_ne h7]
  exact pf1 h1 h2 h3 h4 h5 h6
end Go.AX
namespace Go.AX
open Go.Proofs Go.RowKit
set_option maxRecDepth 1000000
set_option linter.unusedSimpArgs false
end Go.AX
