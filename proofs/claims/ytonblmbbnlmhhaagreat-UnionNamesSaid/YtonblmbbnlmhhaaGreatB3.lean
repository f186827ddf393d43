import Derived.Test.YtonblmbbnlmhhaaGreatB2
import Derived.Test.YtonblmbbnlmhhaaGreatA3
set_option linter.unusedVariables false
set_option linter.unusedSimpArgs false
set_option linter.defProp false
namespace Go.AX
open Go.Proofs Go.RowKit
set_option maxRecDepth 1000000
set_option linter.unusedSimpArgs false

/-! ### What every law asks first -/
theorem awakeRun : (evY TE pr2 3000).call 21 [] st0 (fun v _ => isTrue v) (fun _ _ => false) = true := by kernel_rfl
def awakeP (args : List AV) (s : St) : Option (AV × St) := match args with
  | [] => some (boolA true, s)
  | _ => none
def pr3 : Prims := pr2.add 21 awakeP
theorem ok3 : Ok TE Tryz.prog pr3 := ⟨ok0.prog, prims_add (ok2 ok0).prims (fun {args s s' v w0 w E Args} h hv hs => by
  unfold awakeP at h
  split at h
  · simp only [Option.some.injEq, Prod.mk.injEq] at h
    obtain ⟨rfl, rfl⟩ := h
    exact lift_flat rfl rfl (fun kr kp hk => call_true (sem_max_call (evY_sound (ok2 ok0) 3000) awakeRun) hk) hv hs
  · cases h)⟩
theorem pe3 {g : Nat} {args : List AV} {s : St} (h : g ≠ 194) : pr3.ext g args s = none := pe_ne h
theorem c_awake {r : Tasks} {a : Ac} {dst : Option Tmp} {s : St} {k : Ac → St → Bool} {kp : AV → St → Bool} : callV pr3 r (.fn 21 []) [] a dst s k kp = putK a dst (.raw (.bool true)) s k := by
  refine c_prim (pe3 (by decide)) ?_
  unfold pr3
  rw [add_same]
  rfl
theorem pf3 {g : Nat} {args : List AV} {s : St} (h1 : g ≠ 117) (h2 : g ≠ 123) (h3 : g ≠ 121) (h4 : g ≠ 134) (h5 : g ≠ 103) (h6 : g ≠ 114) (h7 : g ≠ 87) (h8 : g ≠ 97) (h9 : g ≠ 21) : pr3.fn g args s = none := by
  unfold pr3
  rw [add_ne h9]
  unfold pr2
  rw [add_ne h8, add_ne h7]
  exact pf1 h1 h2 h3 h4 h5 h6

/-! ### A new union -/
def nilA0 : AV := .raw (.pointer none)
def gotB (h : Tr AO) (i : Nat) (o : AO) : Bool := match h.get i with
  | some o' => beqO o' o
  | none => false
theorem gotB_eq {h : Tr AO} {i : Nat} {o : AO} (e : gotB h i o = true) : h.get i = some o := by
  unfold gotB at e
  split at e
  · rename_i o' ho
    rw [ho, beqO_eq e]
  · cases e
/-- All that a memory holds lies below n; the places of the part that is looked at are k * i + d. -/
def belowB (n : Nat) : Nat → Nat → Tr AO → Bool
  | _, _, .e => true
  | k, d, .n l v r => (match v with | some _ => Nat.blt d n | none => true) && (belowB n (k + k) (d + k) l && belowB n (k + k) (d + k + k) r)
theorem belowB_lt {n : Nat} : ∀ (t : Tr AO) (k d : Nat), belowB n k d t = true → ∀ i o, t.get i = some o → k * i + d < n
  | .e, k, d, _, i, o, h => by simp [Tr.get] at h
  | .n l v r, k, d, hb, i, o, h => by
    simp only [belowB, Bool.and_eq_true] at hb
    obtain ⟨h1, h2, h3⟩ := hb
    unfold Tr.get at h
    cases e0 : Nat.beq i 0 with
    | true =>
      rw [e0, cond_true] at h
      subst h
      have : i = 0 := Nat.eq_of_beq_eq_true e0
      subst this
      simpa [Nat.blt_eq] using h1
    | false =>
      rw [e0, cond_false] at h
      have hi : i ≠ 0 := fun e => by subst e; cases e0
      cases e1 : Nat.beq (i % 2) 1 with
      | true =>
        rw [e1, cond_true] at h
        have := belowB_lt l _ _ h2 _ _ h
        have e2 : i % 2 = 1 := Nat.eq_of_beq_eq_true e1
        have e3 : i = 2 * (i / 2) + 1 := by omega
        rw [e3]
        have : (k + k) * (i / 2) + (d + k) = k * (2 * (i / 2) + 1) + d := by rw [Nat.mul_add, ← Nat.mul_assoc, Nat.mul_two]; omega
        omega
      | false =>
        rw [e1, cond_false] at h
        have := belowB_lt r _ _ h3 _ _ h
        have e2 : i % 2 ≠ 1 := fun e => by rw [e] at e1; cases e1
        have e3 : i = 2 * (i / 2 - 1) + 2 := by omega
        have : (k + k) * (i / 2 - 1) + (d + k + k) = k * (2 * (i / 2 - 1) + 2) + d := by rw [Nat.mul_add, ← Nat.mul_assoc, Nat.mul_two]; omega
        rw [e3]
        omega
/-- The end of the face's making, looked at. -/
def chkF (d : Nat) (v : AV) (s : St) : Bool :=
  beqA v (.fn 46 [.ptr (83 + d) 0]) && (Nat.beq s.nx (84 + d) && (belowB (84 + d) 1 0 s.h && (gotB s.h (78 + d) (.map []) && (gotB s.h (79 + d) (.cells [.raw (.int .i64 1), .raw (.int .i64 493), .str [], .map (78 + d), nilA0, .str []] 86 0) && (
  gotB s.h (80 + d) (.cells [.ptr (79 + d) 0, .ptr (79 + d) 0, nilA0, nilA0, nilA0, nilA0, nilA0, nilA0, nilA0, nilA0, .raw (.int .i64 0)] 80 0) && (gotB s.h (82 + d) (.cells [.ptr (80 + d) 0, .raw (.slice none 0 0)] 71 0) && gotB s.h (83 + d) (.cells [.ptr (82 + d) 0] 38 0)))))))
structure FaceAt (d : Nat) (s : St) : Prop where
  nx : s.nx = 84 + d
  lt : ∀ i o, s.h.get i = some o → i < s.nx
  g1 : s.h.get (78 + d) = some (.map [])
  g2 : s.h.get (79 + d) = some (.cells [.raw (.int .i64 1), .raw (.int .i64 493), .str [], .map (78 + d), nilA0, .str []] 86 0)
  g3 : s.h.get (80 + d) = some (.cells [.ptr (79 + d) 0, .ptr (79 + d) 0, nilA0, nilA0, nilA0, nilA0, nilA0, nilA0, nilA0, nilA0, .raw (.int .i64 0)] 80 0)
  g4 : s.h.get (82 + d) = some (.cells [.ptr (80 + d) 0, .raw (.slice none 0 0)] 71 0)
  g5 : s.h.get (83 + d) = some (.cells [.ptr (82 + d) 0] 38 0)
theorem chkF_at {d : Nat} {v : AV} {s : St} (h : chkF d v s = true) : v = .fn 46 [.ptr (83 + d) 0] ∧ FaceAt d s := by
  unfold chkF at h
  simp only [Bool.and_eq_true] at h
  obtain ⟨h1, h2, h3, h4, h5, h6, h7, h8⟩ := h
  have e2 := Nat.eq_of_beq_eq_true h2
  refine ⟨beqA_eq _ _ h1, e2, fun i o hi => ?_, gotB_eq h4, gotB_eq h5, gotB_eq h6, gotB_eq h7, gotB_eq h8⟩
  have := belowB_lt s.h 1 0 h3 i o hi
  omega
theorem faceRun : (evY TE pr2 3000).call 22 [] st0 (fun v s => chkF 0 v s) (fun _ _ => false) = true := by kernel_rfl
theorem face_c {kr kp : AV → St → Bool} (hk : ∀ s, FaceAt 0 s → kr (.fn 46 [.ptr 83 0]) s = true) : (sem Tryz.prog).call 22 [] st0 kr kp = true :=
  mono_call (sem_max_call (evY_sound (ok2 ok0) 3000) faceRun) (fun v s h => by obtain ⟨rfl, h2⟩ := chkF_at h; exact hk s h2) (fun _ _ h => by cases h)
/-! ### The same behind what is handed in -/
def stI (h0 : Tr AO) : St := { h := h0, nx := 1 }
theorem faceRunE : (evY TE pr2 3000).call 22 [] (stI .e) (fun v s => chkF 1 v s && noOld s.h) (fun _ _ => false) = true := by kernel_rfl
theorem faceE_c {kr kp : AV → St → Bool} (hk : ∀ s, FaceAt 1 s → kr (.fn 46 [.ptr 84 0]) s = true) : (sem Tryz.prog).call 22 [] (stI .e) kr kp = true :=
  mono_call (sem_max_call (evY_sound (ok2 ok0) 3000) faceRunE) (fun v s h => by
    rw [Bool.and_eq_true] at h
    obtain ⟨rfl, h2⟩ := chkF_at h.1
    exact hk s h2) (fun _ _ h => by cases h)
theorem faceI_c {cs : List AV} {kr kp : AV → St → Bool} (hk : ∀ s, FaceAt 1 s → s.h.get 0 = some (.old cs) → kr (.fn 46 [.ptr 84 0]) s = true) : (sem Tryz.prog).call 22 [] (stI (Tr.e.set 0 (.old cs))) kr kp = true :=
  sem_learn (sem_max_call (evY_sound (ok2 ok0) 3000) faceRunE) (fun v s h => by
    rw [Bool.and_eq_true] at h
    obtain ⟨rfl, F⟩ := chkF_at h.1
    have n : ∀ i, i ≠ 0 → (s.h.set 0 (.old cs)).get i = s.h.get i := fun i hi => by rw [Tr.get_set, if_neg hi]
    refine ⟨h.2, by rw [F.nx]; decide, hk _ ⟨F.nx, fun i o hi => ?_, ?_, ?_, ?_, ?_, ?_⟩ (by rw [Tr.get_set, if_pos rfl])⟩
    · by_cases h0 : i = 0
      · subst h0
        show 0 < s.nx
        rw [F.nx]
        decide
      · exact F.lt i o ((n i h0).symm.trans hi)
    · exact (n _ (by decide)).trans F.g1
    · exact (n _ (by decide)).trans F.g2
    · exact (n _ (by decide)).trans F.g3
    · exact (n _ (by decide)).trans F.g4
    · exact (n _ (by decide)).trans F.g5)
end Go.AX
namespace Go.AX
open Go.Proofs Go.RowKit
set_option maxRecDepth 1000000
set_option linter.unusedSimpArgs false

/-! ### Numbers that a law is handed -/
def toU : AV → AV
  | .raw (.int _ z) => .raw (.int .u64 (IntKind.u64.wrap z))
  | v => v
theorem toU_int {k : IntKind} {z : Int} : toU (.raw (.int k z)) = .raw (.int .u64 (IntKind.u64.wrap z)) := (rfl)
theorem run_cv {z : Int} : pureRun TE.P (do pure (Next.value (← convert 3 37 (.int .i64 z)))) = some (.value (.int .u64 (IntKind.u64.wrap z))) := by kernel_rfl
theorem tx_cv {s : St} {z : Int} : textA TE s 3 37 (.raw (.int .i64 z)) = none := by kernel_rfl
theorem o_cvt {pr : Prims} {r : Tasks} {rd : Option Nat} {a : Ac} {s : St} {dst : Option Tmp} {x : Operand} {ty : TypeId} {pos : String} {after : Array Edge} {k : Ac → St → Bool} {kp : AV → St → Bool} (h : isI64 (a.eval x) = true) :
    evOp TE pr r rd ⟨dst, .convert 3 37 x, ty, pos, after, none⟩ a s k kp = putK a dst (toU (a.eval x)) s k := by
  obtain ⟨z, hz⟩ := isI64_of h
  have h1 : valAt a x = .int .i64 z := by simp [valAt, hz, toVal]
  have hall : (Op.operands (.convert 3 37 x)).toList.all (fun x => (toVal (a.eval x)).isSome) = true := by
    show (List.all [x] (fun x => (toVal (a.eval x)).isSome)) = true
    simp [hz, toVal]
  have hr : pureRun TE.P (execOp (valAt a) ⟨dst, .convert 3 37 x, ty, pos, after, none⟩) = some (.value (.int .u64 (IntKind.u64.wrap z))) := by
    have he : execOp (valAt a) ⟨dst, .convert 3 37 x, ty, pos, after, none⟩ = (do pure (Next.value (← convert 3 37 (.int .i64 z)))) := by
      simp only [execOp, h1]
    rw [he]
    exact run_cv
  have hp : stepPure TE a ⟨dst, .convert 3 37 x, ty, pos, after, none⟩ = some (.raw (.int .u64 (IntKind.u64.wrap z)), []) := by
    simp only [stepPure, hall, cond_true, hr]
    rfl
  have hs : stepP TE a s ⟨dst, .convert 3 37 x, ty, pos, after, none⟩ = some (.raw (.int .u64 (IntKind.u64.wrap z)), []) := by
    simp only [stepP, hz, tx_cv, hp]
  show plainOp TE ⟨dst, .convert 3 37 x, ty, pos, after, none⟩ a s k = _
  rw [plain_some hs, hz]
  rfl
def isU64 : AV → Bool
  | .raw (.int .u64 _) => true
  | _ => false
theorem u64_int {z : Int} : isU64 (.raw (.int .u64 z)) = true := (rfl)
theorem isU64_of {v : AV} (h : isU64 v = true) : ∃ z, v = .raw (.int .u64 z) := by
  unfold isU64 at h
  split at h
  · exact ⟨_, rfl⟩
  · cases h
def remA (m : Int) : AV → Option (AV × List Nat)
  | .raw (.int .u64 z) => some (.raw (.int .u64 (z.tmod m)), [])
  | _ => none
theorem remA_int {m z : Int} : remA m (.raw (.int .u64 z)) = some (.raw (.int .u64 (z.tmod m)), []) := (rfl)
theorem b_rem {v w : AV} : binFast .rem v w = none := by
  unfold binFast
  split
  · split <;> rfl
  · rfl
  · rfl
theorem eqS_rem {s : St} {t : TypeId} {x y : AV} {d : Option (AV × List Nat)} : eqS TE s .rem t x y d = d := (rfl)
theorem rm_eq {e : Env} {a : Ac} {dst : Option Tmp} {x : Operand} {t t' ty : TypeId} {pos : String} {after : Array Edge} {m : Int} (hm : m ≠ 0) (hx : isU64 (a.eval x) = true) :
    stepPure e a ⟨dst, .binOp .rem t x (.const (.int .u64 m)) t', ty, pos, after, none⟩ = remA m (a.eval x) := by
  obtain ⟨u, hx⟩ := isU64_of hx
  have h1 : valAt a x = .int .u64 u := by simp [valAt, hx, toVal]
  have h2 : valAt a (.const (.int .u64 m)) = .int .u64 m := rfl
  have hall : (Op.operands (.binOp .rem t x (.const (.int .u64 m)) t')).toList.all (fun x => (toVal (a.eval x)).isSome) = true := by
    show (List.all [x, .const (.int .u64 m)] (fun x => (toVal (a.eval x)).isSome)) = true
    simp only [List.all_cons, List.all_nil, hx]
    rfl
  have hr : pureRun e.P (execOp (valAt a) ⟨dst, .binOp .rem t x (.const (.int .u64 m)) t', ty, pos, after, none⟩) = some (.value (.int .u64 (u.tmod m))) := by
    have : execOp (valAt a) ⟨dst, .binOp .rem t x (.const (.int .u64 m)) t', ty, pos, after, none⟩ = .pure (.value (.int .u64 (u.tmod m))) := by
      have hd : Op.intDiv .rem .u64 u m = .pure (.int .u64 (u.tmod m)) := by
        simp only [Op.intDiv, if_neg hm]
        rfl
      simp only [execOp, h1, h2]
      show (do pure (Next.value (← Op.intDiv .rem .u64 u m))) = _
      rw [hd]
      rfl
    rw [this]; rfl
  simp only [stepPure, hall, cond_true, hr, hx]
  rfl
theorem rem_lt {z : Int} {m : Nat} (hm : 0 < m) : ∃ r : Nat, r < m ∧ (IntKind.u64.wrap z).tmod (m : Int) = (r : Int) := by
  have h0 : 0 ≤ IntKind.u64.wrap z := by
    show 0 ≤ z % 18446744073709551616
    omega
  obtain ⟨n, hn⟩ : ∃ n : Nat, IntKind.u64.wrap z = (n : Int) := ⟨_, (Int.toNat_of_nonneg h0).symm⟩
  refine ⟨n % m, Nat.mod_lt _ hm, ?_⟩
  rw [hn]
  exact (Int.ofNat_tmod n m).symm
end Go.AX
