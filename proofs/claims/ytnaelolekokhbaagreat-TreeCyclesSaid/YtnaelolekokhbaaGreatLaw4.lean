import Derived.Test.YtnaelolekokhbaaGreatD3
set_option linter.unusedVariables false
set_option linter.unusedSimpArgs false
set_option linter.defProp false
namespace Go.AX
open Go.Proofs Go.RowKit
set_option maxRecDepth 1000000
set_option maxHeartbeats 40000000
set_option linter.unusedSimpArgs false

/-! ### Bytes that a law holds -/
def toB : AV → AV
  | .raw (.int _ z) => .raw (.int .u8 (IntKind.u8.wrap z))
  | v => v
theorem toB_int {k : IntKind} {z : Int} : toB (.raw (.int k z)) = .raw (.int .u8 (IntKind.u8.wrap z)) := (rfl)
theorem run_cvb {z : Int} : pureRun TE.P (do pure (Next.value (← convert 3 5 (.int .i64 z)))) = some (.value (.int .u8 (IntKind.u8.wrap z))) := by kernel_rfl
theorem tx_cvb {s : St} {z : Int} : textA TE s 3 5 (.raw (.int .i64 z)) = none := by kernel_rfl
theorem o_cvb {pr : Prims} {r : Tasks} {rd : Option Nat} {a : Ac} {s : St} {dst : Option Tmp} {x : Operand} {ty : TypeId} {pos : String} {after : Array Edge} {k : Ac → St → Bool} {kp : AV → St → Bool} (h : isI64 (a.eval x) = true) :
    evOp TE pr r rd ⟨dst, .convert 3 5 x, ty, pos, after, none⟩ a s k kp = putK a dst (toB (a.eval x)) s k := by
  obtain ⟨z, hz⟩ := isI64_of h
  have h1 : valAt a x = .int .i64 z := by simp [valAt, hz, toVal]
  have hall : (Op.operands (.convert 3 5 x)).toList.all (fun x => (toVal (a.eval x)).isSome) = true := by
    show (List.all [x] (fun x => (toVal (a.eval x)).isSome)) = true
    simp [hz, toVal]
  have hr : pureRun TE.P (execOp (valAt a) ⟨dst, .convert 3 5 x, ty, pos, after, none⟩) = some (.value (.int .u8 (IntKind.u8.wrap z))) := by
    have he : execOp (valAt a) ⟨dst, .convert 3 5 x, ty, pos, after, none⟩ = (do pure (Next.value (← convert 3 5 (.int .i64 z)))) := by
      simp only [execOp, h1]
    rw [he]
    exact run_cvb
  have hp : stepPure TE a ⟨dst, .convert 3 5 x, ty, pos, after, none⟩ = some (.raw (.int .u8 (IntKind.u8.wrap z)), []) := by
    simp only [stepPure, hall, cond_true, hr]
    rfl
  have hs : stepP TE a s ⟨dst, .convert 3 5 x, ty, pos, after, none⟩ = some (.raw (.int .u8 (IntKind.u8.wrap z)), []) := by
    simp only [stepP, hz, tx_cvb, hp]
  show plainOp TE ⟨dst, .convert 3 5 x, ty, pos, after, none⟩ a s k = _
  rw [plain_some hs, hz]
  rfl
theorem wrap_b {n : Nat} (h : n < 256) : IntKind.u8.wrap (n : Int) = (n : Int) := by
  show (n : Int) % 256 = (n : Int)
  omega
theorem WL.set {s : St} {M : Md} {L : List (Nat × AO)} {a : Nat} {o : AO} (h : WL s M ((a, o) :: L)) (hne : ∀ q ∈ L, q.1 ≠ a) (hf : a ≠ 3) (o' : AO) : WL { s with h := s.h.set a o' } M ((a, o') :: L) :=
  WL.mid (World.set (WL.out h) (fun q hq => by
    rcases List.mem_append.mp hq with hq | hq
    · simp only [fL, List.mem_singleton] at hq
      rw [hq]
      exact fun e => hf e.symm
    · exact hne q hq) o')
theorem mk_sl {s : St} {n : Nat} (h : n ≤ 1000) : makeSliceA TE s 64 (.raw (.int .i64 (n : Int))) (.raw (.int .i64 (n : Int))) = some (.slice s.nx 0 n 0 n true, s.alloc (.cells (repL [.raw (.int .u8 0)] n) 5 0)) := by
  have e : makeSliceA TE s 64 (.raw (.int .i64 (n : Int))) (.raw (.int .i64 (n : Int))) = (bif (Nat.ble n n && Nat.ble (n * 1) 1048576 && Nat.ble n 1048576) && true then some (.slice s.nx 0 n 0 n true, s.alloc (.cells (repL [.raw (.int .u8 0)] n) 5 0)) else none) := by kernel_rfl
  rw [e, Nat.mul_one, Nat.ble_eq.mpr (Nat.le_refl n), Nat.ble_eq.mpr (by omega : n ≤ 1048576)]
  rfl
theorem ix_b {q i n : Nat} (h : i < n) : indexAddrA TE 64 (.slice q 0 n 0 n true) (.raw (.int .i64 (i : Int))) = some (.ptr q i) := by
  have e : indexAddrA TE 64 (.slice q 0 n 0 n true) (.raw (.int .i64 (i : Int))) = (bif Nat.blt i n then some (.ptr q (0 + i * 1)) else none) := by kernel_rfl
  rw [e, Nat.blt_eq.mpr h, Nat.mul_one, Nat.zero_add]
  rfl
theorem repL_b : ∀ {n : Nat}, repL [.raw (.int .u8 0)] n = cellsOfStr (List.replicate n 0)
  | 0 => rfl
  | n + 1 => by
    show [AV.raw (.int .u8 0)] ++ repL [.raw (.int .u8 0)] n = _
    rw [repL_b (n := n)]
    rfl
theorem cutL_all {l : List AV} : cutL 0 l.length l = some l := by
  rw [cutL_eq (by omega)]
  simp
theorem bytesL_of : ∀ {b : List Nat}, (∀ x ∈ b, x < 256) → bytesL (cellsOfStr b) = some b
  | [], _ => rfl
  | x :: l, h => by
    show (bif Nat.blt x 256 then (match bytesL (cellsOfStr l) with | some r => some (x :: r) | none => none) else none) = _
    rw [Nat.blt_eq.mpr (h x (List.mem_cons_self ..)), bytesL_of (fun y hy => h y (List.mem_cons_of_mem _ hy))]
    rfl
theorem cells_len {b : List Nat} : (cellsOfStr b).length = b.length := by simp [cellsOfStr]
theorem tx_b {s : St} {q t z n : Nat} {b : List Nat} (hb : ∀ x ∈ b, x < 256) (hn : b.length = n) (h : s.h.get q = some (.cells (cellsOfStr b) t z)) : textA TE s 64 9 (.slice q 0 n 0 n true) = some (.str b, [q]) := by
  have e : textA TE s 64 9 (.slice q 0 n 0 n true) = (match bytesOfA s q 0 n with | some b => some (.str b, [q]) | none => none) := by kernel_rfl
  rw [e]
  have : bytesOfA s q 0 n = some b := by
    unfold bytesOfA getCells
    rw [h]
    simp only
    rw [← hn, ← cells_len, cutL_all]
    exact bytesL_of hb
  rw [this]
theorem sp_tx {a : Ac} {s : St} {dst : Option Tmp} {x : Operand} {ty : TypeId} {pos : String} {after : Array Edge} {v : AV} {ids : List Nat} (h : textA TE s 64 9 (a.eval x) = some (v, ids)) :
    stepP TE a s ⟨dst, .convert 64 9 x, ty, pos, after, none⟩ = readR ids (some v) := by
  simp only [stepP, h]
  rfl
def txO (o d : Option (AV × List Nat)) : Option (AV × List Nat) := match o with
  | some (v, ids) => readR ids (some v)
  | none => d
theorem txO_some {v : AV} {ids : List Nat} {d : Option (AV × List Nat)} : txO (some (v, ids)) d = readR ids (some v) := (rfl)
theorem sp_txo {a : Ac} {s : St} {dst : Option Tmp} {x : Operand} {ty : TypeId} {pos : String} {after : Array Edge} :
    stepP TE a s ⟨dst, .convert 64 9 x, ty, pos, after, none⟩ = txO (textA TE s 64 9 (a.eval x)) (stepPure TE a ⟨dst, .convert 64 9 x, ty, pos, after, none⟩) := by
  simp only [stepP]
  cases textA TE s 64 9 (a.eval x) <;> rfl
theorem ba_u8 {z : Int} : beqA (.raw (.int .u8 z)) (.raw (.int .u8 z)) = true := ba_int
theorem beqAs_b : ∀ {b : List Nat}, beqAs (cellsOfStr b) (cellsOfStr b) = true
  | [] => rfl
  | x :: l => by
    show (beqA (.raw (.int .u8 (.ofNat x))) (.raw (.int .u8 (.ofNat x))) && beqAs (cellsOfStr l) (cellsOfStr l)) = true
    rw [ba_u8, beqAs_b]
    rfl
theorem put_b {b b' : List Nat} {i x : Nat} (hi : i < b.length) (e : b.take i ++ [x] ++ b.drop (i + 1) = b') : putL (cellsOfStr b) i [.raw (.int .u8 (x : Int))] = some (cellsOfStr b') := by
  rw [putL_app (by simp only [List.length_cons, List.length_nil, cells_len]; omega), ← e]
  simp [cellsOfStr, List.map_take, List.map_drop]
end Go.AX
