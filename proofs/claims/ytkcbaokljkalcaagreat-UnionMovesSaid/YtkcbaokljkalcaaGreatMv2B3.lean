import Derived.Test.YtkcbaokljkalcaaGreatMv2B2
import Derived.Test.YtkcbaokljkalcaaGreatMv2A3
set_option linter.unusedVariables false
set_option linter.unusedSimpArgs false
set_option linter.defProp false
namespace Go.AX
open Go.Proofs Go.RowKit
set_option maxRecDepth 1000000
set_option linter.unusedSimpArgs false
theorem awakeRun : (evY TE pr2 3000).call 8 [] st0 (fun v _ => isTrue v) (fun _ _ => false) = true := by kernel_rfl
def awakeP (args : List AV) (s : St) : Option (AV × St) := match args with
  | [] => some (boolA true, s)
  | _ => none
def pr3 : Prims := pr2.add 8 awakeP
theorem ok3 : Ok TE Tryz.prog pr3 := ⟨ok0.prog, prims_add (ok2 ok0).prims (fun {args s s' v w0 w E Args} h hv hs => by
  unfold awakeP at h
  split at h
  · simp only [Option.some.injEq, Prod.mk.injEq] at h
    obtain ⟨rfl, rfl⟩ := h
    exact lift_flat rfl rfl (fun kr kp hk => call_true (sem_max_call (evY_sound (ok2 ok0) 3000) awakeRun) hk) hv hs
  · cases h)⟩
theorem pe3 {g : Nat} {args : List AV} {s : St} (h : g ≠ 220) : pr3.ext g args s = none := pe_ne h
theorem c_awake {r : Tasks} {a : Ac} {dst : Option Tmp} {s : St} {k : Ac → St → Bool} {kp : AV → St → Bool} : callV pr3 r (.fn 8 []) [] a dst s k kp = putK a dst (.raw (.bool true)) s k := by
  refine c_prim (pe3 (by decide)) ?_
  unfold pr3
  rw [add_same]
  rfl
theorem pf3 {g : Nat} {args : List AV} {s : St} (h1 : g ≠ 149) (h2 : g ≠ 136) (h3 : g ≠ 133) (h4 : g ≠ 171) (h5 : g ≠ 109) (h6 : g ≠ 147) (h7 : g ≠ 128) (h8 : g ≠ 103) (h9 : g ≠ 8) : pr3.fn g args s = none := by
  unfold pr3
  rw [add_ne h9]
  unfold pr2
  rw [add_ne h8, add_ne h7]
  exact pf1 h1 h2 h3 h4 h5 h6
end Go.AX
namespace Go.AX
open Go.Proofs Go.RowKit
set_option maxRecDepth 1000000
set_option linter.unusedSimpArgs false
def toU : AV → AV
  | .raw (.int _ z) => .raw (.int .u64 (IntKind.u64.wrap z))
  | v => v
theorem toU_int {k : IntKind} {z : Int} : toU (.raw (.int k z)) = .raw (.int .u64 (IntKind.u64.wrap z)) := (rfl)
theorem run_cv {z : Int} : pureRun TE.P (do pure (Next.value (← convert 3 35 (.int .i64 z)))) = some (.value (.int .u64 (IntKind.u64.wrap z))) := by kernel_rfl
theorem tx_cv {s : St} {z : Int} : textA TE s 3 35 (.raw (.int .i64 z)) = none := by kernel_rfl
theorem o_cvt {pr : Prims} {r : Tasks} {rd : Option Nat} {a : Ac} {s : St} {dst : Option Tmp} {x : Operand} {ty : TypeId} {pos : String} {after : Array Edge} {k : Ac → St → Bool} {kp : AV → St → Bool} (h : isI64 (a.eval x) = true) :
    evOp TE pr r rd ⟨dst, .convert 3 35 x, ty, pos, after, none⟩ a s k kp = putK a dst (toU (a.eval x)) s k := by
  obtain ⟨z, hz⟩ := isI64_of h
  have h1 : valAt a x = .int .i64 z := by simp [valAt, hz, toVal]
  have hall : (Op.operands (.convert 3 35 x)).toList.all (fun x => (toVal (a.eval x)).isSome) = true := by
    show (List.all [x] (fun x => (toVal (a.eval x)).isSome)) = true
    simp [hz, toVal]
  have hr : pureRun TE.P (execOp (valAt a) ⟨dst, .convert 3 35 x, ty, pos, after, none⟩) = some (.value (.int .u64 (IntKind.u64.wrap z))) := by
    have he : execOp (valAt a) ⟨dst, .convert 3 35 x, ty, pos, after, none⟩ = (do pure (Next.value (← convert 3 35 (.int .i64 z)))) := by
      simp only [execOp, h1]
    rw [he]
    exact run_cv
  have hp : stepPure TE a ⟨dst, .convert 3 35 x, ty, pos, after, none⟩ = some (.raw (.int .u64 (IntKind.u64.wrap z)), []) := by
    simp only [stepPure, hall, cond_true, hr]
    rfl
  have hs : stepP TE a s ⟨dst, .convert 3 35 x, ty, pos, after, none⟩ = some (.raw (.int .u64 (IntKind.u64.wrap z)), []) := by
    simp only [stepP, hz, tx_cv, hp]
  show plainOp TE ⟨dst, .convert 3 35 x, ty, pos, after, none⟩ a s k = _
  rw [plain_some hs, hz]
  rfl
def isU64 : AV → Bool
  | .raw (.int .u64 _) => true
  | _ => false
theorem u64_int {z : Int} : isU64 (.raw (.int .u64 z)) = true := (rfl)
theorem isU64_of {v : AV} (h : isU64 v = true) : ∃ z, v = .raw (.int .u64 z) := by
  unfold isU64 at h
  split at h
  · exact ⟨_, rfl⟩
  · cases h
def remA (m : Int) : AV → Option (AV × List Nat)
  | .raw (.int .u64 z) => some (.raw (.int .u64 (z.tmod m)), [])
  | _ => none
theorem remA_int {m z : Int} : remA m (.raw (.int .u64 z)) = some (.raw (.int .u64 (z.tmod m)), []) := (rfl)
theorem b_rem {v w : AV} : binFast .rem v w = none := by
  unfold binFast
  split
  · split <;> rfl
  · rfl
  · rfl
theorem eqS_rem {s : St} {t : TypeId} {x y : AV} {d : Option (AV × List Nat)} : eqS TE s .rem t x y d = d := (rfl)
theorem rm_eq {e : Env} {a : Ac} {dst : Option Tmp} {x : Operand} {t t' ty : TypeId} {pos : String} {after : Array Edge} {m : Int} (hm : m ≠ 0) (hx : isU64 (a.eval x) = true) :
    stepPure e a ⟨dst, .binOp .rem t x (.const (.int .u64 m)) t', ty, pos, after, none⟩ = remA m (a.eval x) := by
  obtain ⟨u, hx⟩ := isU64_of hx
  have h1 : valAt a x = .int .u64 u := by simp [valAt, hx, toVal]
  have h2 : valAt a (.const (.int .u64 m)) = .int .u64 m := rfl
  have hall : (Op.operands (.binOp .rem t x (.const (.int .u64 m)) t')).toList.all (fun x => (toVal (a.eval x)).isSome) = true := by
    show (List.all [x, .const (.int .u64 m)] (fun x => (toVal (a.eval x)).isSome)) = true
    simp only [List.all_cons, List.all_nil, hx]
    rfl
  have hr : pureRun e.P (execOp (valAt a) ⟨dst, .binOp .rem t x (.const (.int .u64 m)) t', ty, pos, after, none⟩) = some (.value (.int .u64 (u.tmod m))) := by
    have : execOp (valAt a) ⟨dst, .binOp .rem t x (.const (.int .u64 m)) t', ty, pos, after, none⟩ = .pure (.value (.int .u64 (u.tmod m))) := by
      have hd : Op.intDiv .rem .u64 u m = .pure (.int .u64 (u.tmod m)) := by
        simp only [Op.intDiv, if_neg hm]
        rfl
      simp only [execOp, h1, h2]
      show (do pure (Next.value (← Op.intDiv .rem .u64 u m))) = _
      rw [hd]
      rfl
    rw [this]; rfl
  simp only [stepPure, hall, cond_true, hr, hx]
  rfl
theorem rem_lt {z : Int} {m : Nat} (hm : 0 < m) : ∃ r : Nat, r < m ∧ (IntKind.u64.wrap z).tmod (m : Int) = (r : Int) := by
  have h0 : 0 ≤ IntKind.u64.wrap z := by
    show 0 ≤ z % 18446744073709551616
    omega
  obtain ⟨n, hn⟩ : ∃ n : Nat, IntKind.u64.wrap z = (n : Int) := ⟨_, (Int.toNat_of_nonneg h0).symm⟩
  refine ⟨n % m, Nat.mod_lt _ hm, ?_⟩
  rw [hn]
  exact (Int.ofNat_tmod n m).symm
end Go.AX
