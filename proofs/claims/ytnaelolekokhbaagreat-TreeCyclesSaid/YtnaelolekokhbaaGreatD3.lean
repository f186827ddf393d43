import Derived.Test.YtnaelolekokhbaaGreatD2
set_option linter.unusedVariables false
set_option linter.unusedSimpArgs false
set_option linter.defProp false
namespace Go.AX
open Go.Proofs Go.RowKit
set_option maxRecDepth 1000000
set_option maxHeartbeats 40000000
set_option linter.unusedSimpArgs false

/-! ### A uint as an int -/
def toI : AV → AV
  | .raw (.int _ z) => .raw (.int .i64 (IntKind.i64.wrap z))
  | v => v
theorem toI_int {k : IntKind} {z : Int} : toI (.raw (.int k z)) = .raw (.int .i64 (IntKind.i64.wrap z)) := (rfl)
theorem run_cvi {z : Int} : pureRun TE.P (do pure (Next.value (← convert 59 3 (.int .u64 z)))) = some (.value (.int .i64 (IntKind.i64.wrap z))) := by kernel_rfl
theorem tx_cvi {s : St} {z : Int} : textA TE s 59 3 (.raw (.int .u64 z)) = none := by kernel_rfl
theorem o_cvi {pr : Prims} {r : Tasks} {rd : Option Nat} {a : Ac} {s : St} {dst : Option Tmp} {x : Operand} {ty : TypeId} {pos : String} {after : Array Edge} {k : Ac → St → Bool} {kp : AV → St → Bool} (h : isU64 (a.eval x) = true) :
    evOp TE pr r rd ⟨dst, .convert 59 3 x, ty, pos, after, none⟩ a s k kp = putK a dst (toI (a.eval x)) s k := by
  obtain ⟨z, hz⟩ := isU64_of h
  have h1 : valAt a x = .int .u64 z := by simp [valAt, hz, toVal]
  have hall : (Op.operands (.convert 59 3 x)).toList.all (fun x => (toVal (a.eval x)).isSome) = true := by
    show (List.all [x] (fun x => (toVal (a.eval x)).isSome)) = true
    simp [hz, toVal]
  have hr : pureRun TE.P (execOp (valAt a) ⟨dst, .convert 59 3 x, ty, pos, after, none⟩) = some (.value (.int .i64 (IntKind.i64.wrap z))) := by
    have he : execOp (valAt a) ⟨dst, .convert 59 3 x, ty, pos, after, none⟩ = (do pure (Next.value (← convert 59 3 (.int .u64 z)))) := by
      simp only [execOp, h1]
    rw [he]
    exact run_cvi
  have hp : stepPure TE a ⟨dst, .convert 59 3 x, ty, pos, after, none⟩ = some (.raw (.int .i64 (IntKind.i64.wrap z)), []) := by
    simp only [stepPure, hall, cond_true, hr]
    rfl
  have hs : stepP TE a s ⟨dst, .convert 59 3 x, ty, pos, after, none⟩ = some (.raw (.int .i64 (IntKind.i64.wrap z)), []) := by
    simp only [stepP, hz, tx_cvi, hp]
  show plainOp TE ⟨dst, .convert 59 3 x, ty, pos, after, none⟩ a s k = _
  rw [plain_some hs, hz]
  rfl
end Go.AX
