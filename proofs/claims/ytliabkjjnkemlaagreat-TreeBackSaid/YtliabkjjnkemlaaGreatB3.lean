import Derived.Test.YtliabkjjnkemlaaGreatB2
import Derived.Test.YtliabkjjnkemlaaGreatA3
set_option linter.unusedVariables false
set_option linter.unusedSimpArgs false
set_option linter.defProp false
namespace Go.AX
open Go.Proofs Go.RowKit
set_option maxRecDepth 1000000
set_option linter.unusedSimpArgs false

/-! ### What every law asks first -/
theorem awakeRun : (evX TE pr2 3000).call 10 [] st0 (fun v _ => isTrue v) (fun _ _ => false) = true := by kernel_rfl
def awakeP (args : List AV) (s : St) : Option (AV × St) := match args with
  | [] => some (boolA true, s)
  | _ => none
def pr3 : Prims := pr2.add 10 awakeP
theorem ok3 : Ok TE Tryz.prog pr3 := ⟨ok0.prog, prims_add (ok2 ok0).prims (fun {args s s' v w0 w E Args} h hv hs => by
  unfold awakeP at h
  split at h
  · simp only [Option.some.injEq, Prod.mk.injEq] at h
    obtain ⟨rfl, rfl⟩ := h
    exact lift_flat rfl rfl (fun kr kp hk => call_true (sem_max_call (evX_sound (ok2 ok0) 3000) awakeRun) hk) hv hs
  · cases h)⟩
theorem pe3 {g : Nat} {args : List AV} {s : St} (h : g ≠ 128) : pr3.ext g args s = none := pe_ne h
theorem c_awake {r : Tasks} {a : Ac} {dst : Option Tmp} {s : St} {k : Ac → St → Bool} {kp : AV → St → Bool} : callV pr3 r (.fn 10 []) [] a dst s k kp = putK a dst (.raw (.bool true)) s k := by
  refine c_prim (pe3 (by decide)) ?_
  unfold pr3
  rw [add_same]
  rfl
theorem pf3 {g : Nat} {args : List AV} {s : St} (h1 : g ≠ 69) (h2 : g ≠ 77) (h3 : g ≠ 75) (h4 : g ≠ 81) (h5 : g ≠ 62) (h6 : g ≠ 66) (h7 : g ≠ 43) (h8 : g ≠ 53) (h9 : g ≠ 10) : pr3.fn g args s = none := by
  unfold pr3
  rw [add_ne h9]
  unfold pr2
  rw [add_ne h8, add_ne h7]
  exact pf1 h1 h2 h3 h4 h5 h6

/-! ### A new tree -/
def nilA0 : AV := .raw (.pointer none)
theorem bd_root : buildA TE 59 [(0, .raw (.int .i64 1)), (1, .raw (.int .i64 493)), (3, .map 0)] = some (.agg [.raw (.int .i64 1), .raw (.int .i64 493), .str [], .map 0, nilA0, .str []]) := by kernel_rfl
theorem bd_tree : buildA TE 53 [(0, .ptr 1 0), (1, .ptr 1 0)] = some (.agg [.ptr 1 0, .ptr 1 0, nilA0, nilA0, nilA0, nilA0, nilA0, nilA0, nilA0, nilA0, .raw (.int .i64 0)]) := by kernel_rfl
theorem new_c {kr kp : AV → St → Bool} (H : Ok TE Tryz.prog pr3) (hk : kr (.ptr 2 0) (((st0.alloc (.map [])).alloc (.cells [.raw (.int .i64 1), .raw (.int .i64 493), .str [], .map 0, nilA0, .str []] 59 0)).alloc (.cells [.ptr 1 0, .ptr 1 0, nilA0, nilA0, nilA0, nilA0, nilA0, nilA0, nilA0, nilA0, .raw (.int .i64 0)] 53 0)) = true) :
    (sem Tryz.prog).call 16 [] st0 kr kp = true := by
  refine w_call H 9 fn_16 rfl rfl ?_
  repeat (first | with_reducible (refine w_one H ?_; constructor) | simp only [rB, rP, rQ, boolA, intA, resultA, resA, reduceIte, reduceCtorEq, Nat.reduceAdd, Nat.reduceLT, Nat.reduceEqDiff, UInt8.reduceToNat, bd_root, bd_tree, cells_agg, Tryz.results16])
  exact hk
end Go.AX
namespace Go.AX
open Go.Proofs Go.RowKit
set_option maxRecDepth 1000000
set_option linter.unusedSimpArgs false

/-! ### Numbers that a law is handed -/
def toU : AV → AV
  | .raw (.int _ z) => .raw (.int .u64 (IntKind.u64.wrap z))
  | v => v
theorem toU_int {k : IntKind} {z : Int} : toU (.raw (.int k z)) = .raw (.int .u64 (IntKind.u64.wrap z)) := (rfl)
theorem run_cv {z : Int} : pureRun TE.P (do pure (Next.value (← convert 3 119 (.int .i64 z)))) = some (.value (.int .u64 (IntKind.u64.wrap z))) := by kernel_rfl
theorem tx_cv {s : St} {z : Int} : textA TE s 3 119 (.raw (.int .i64 z)) = none := by kernel_rfl
theorem o_cvt {pr : Prims} {r : Tasks} {rd : Option Nat} {a : Ac} {s : St} {dst : Option Tmp} {x : Operand} {ty : TypeId} {pos : String} {after : Array Edge} {k : Ac → St → Bool} {kp : AV → St → Bool} (h : isI64 (a.eval x) = true) :
    evOp TE pr r rd ⟨dst, .convert 3 119 x, ty, pos, after, none⟩ a s k kp = putK a dst (toU (a.eval x)) s k := by
  obtain ⟨z, hz⟩ := isI64_of h
  have h1 : valAt a x = .int .i64 z := by simp [valAt, hz, toVal]
  have hall : (Op.operands (.convert 3 119 x)).toList.all (fun x => (toVal (a.eval x)).isSome) = true := by
    show (List.all [x] (fun x => (toVal (a.eval x)).isSome)) = true
    simp [hz, toVal]
  have hr : pureRun TE.P (execOp (valAt a) ⟨dst, .convert 3 119 x, ty, pos, after, none⟩) = some (.value (.int .u64 (IntKind.u64.wrap z))) := by
    have he : execOp (valAt a) ⟨dst, .convert 3 119 x, ty, pos, after, none⟩ = (do pure (Next.value (← convert 3 119 (.int .i64 z)))) := by
      simp only [execOp, h1]
    rw [he]
    exact run_cv
  have hp : stepPure TE a ⟨dst, .convert 3 119 x, ty, pos, after, none⟩ = some (.raw (.int .u64 (IntKind.u64.wrap z)), []) := by
    simp only [stepPure, hall, cond_true, hr]
    rfl
  have hs : stepP TE a s ⟨dst, .convert 3 119 x, ty, pos, after, none⟩ = some (.raw (.int .u64 (IntKind.u64.wrap z)), []) := by
    simp only [stepP, hz, tx_cv, hp]
  show plainOp TE ⟨dst, .convert 3 119 x, ty, pos, after, none⟩ a s k = _
  rw [plain_some hs, hz]
  rfl
def isU64 : AV → Bool
  | .raw (.int .u64 _) => true
  | _ => false
theorem u64_int {z : Int} : isU64 (.raw (.int .u64 z)) = true := (rfl)
theorem isU64_of {v : AV} (h : isU64 v = true) : ∃ z, v = .raw (.int .u64 z) := by
  unfold isU64 at h
  split at h
  · exact ⟨_, rfl⟩
  · cases h
def remA (m : Int) : AV → Option (AV × List Nat)
  | .raw (.int .u64 z) => some (.raw (.int .u64 (z.tmod m)), [])
  | _ => none
theorem remA_int {m z : Int} : remA m (.raw (.int .u64 z)) = some (.raw (.int .u64 (z.tmod m)), []) := (rfl)
theorem b_rem {v w : AV} : binFast .rem v w = none := by
  unfold binFast
  split
  · split <;> rfl
  · rfl
  · rfl
theorem eqS_rem {s : St} {t : TypeId} {x y : AV} {d : Option (AV × List Nat)} : eqS TE s .rem t x y d = d := (rfl)
theorem rm_eq {e : Env} {a : Ac} {dst : Option Tmp} {x : Operand} {t t' ty : TypeId} {pos : String} {after : Array Edge} {m : Int} (hm : m ≠ 0) (hx : isU64 (a.eval x) = true) :
    stepPure e a ⟨dst, .binOp .rem t x (.const (.int .u64 m)) t', ty, pos, after, none⟩ = remA m (a.eval x) := by
  obtain ⟨u, hx⟩ := isU64_of hx
  have h1 : valAt a x = .int .u64 u := by simp [valAt, hx, toVal]
  have h2 : valAt a (.const (.int .u64 m)) = .int .u64 m := rfl
  have hall : (Op.operands (.binOp .rem t x (.const (.int .u64 m)) t')).toList.all (fun x => (toVal (a.eval x)).isSome) = true := by
    show (List.all [x, .const (.int .u64 m)] (fun x => (toVal (a.eval x)).isSome)) = true
    simp only [List.all_cons, List.all_nil, hx]
    rfl
  have hr : pureRun e.P (execOp (valAt a) ⟨dst, .binOp .rem t x (.const (.int .u64 m)) t', ty, pos, after, none⟩) = some (.value (.int .u64 (u.tmod m))) := by
    have : execOp (valAt a) ⟨dst, .binOp .rem t x (.const (.int .u64 m)) t', ty, pos, after, none⟩ = .pure (.value (.int .u64 (u.tmod m))) := by
      have hd : Op.intDiv .rem .u64 u m = .pure (.int .u64 (u.tmod m)) := by
        simp only [Op.intDiv, if_neg hm]
        rfl
      simp only [execOp, h1, h2]
      show (do pure (Next.value (← Op.intDiv .rem .u64 u m))) = _
      rw [hd]
      rfl
    rw [this]; rfl
  simp only [stepPure, hall, cond_true, hr, hx]
  rfl
theorem rem_lt {z : Int} {m : Nat} (hm : 0 < m) : ∃ r : Nat, r < m ∧ (IntKind.u64.wrap z).tmod (m : Int) = (r : Int) := by
  have h0 : 0 ≤ IntKind.u64.wrap z := by
    show 0 ≤ z % 18446744073709551616
    omega
  obtain ⟨n, hn⟩ : ∃ n : Nat, IntKind.u64.wrap z = (n : Int) := ⟨_, (Int.toNat_of_nonneg h0).symm⟩
  refine ⟨n % m, Nat.mod_lt _ hm, ?_⟩
  rw [hn]
  exact (Int.ofNat_tmod n m).symm
end Go.AX
