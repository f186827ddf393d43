import Derived.Test.YtkcbaokljkalcaaGreatMv2H6
import Derived.Test.YtkcbaokljkalcaaGreatMv2B3
import Derived.Test.YtkcbaokljkalcaaGreatMv2C4
set_option linter.unusedVariables false
set_option linter.unusedSimpArgs false
set_option linter.defProp false
namespace Go.AX
open Go.Proofs Go.RowKit
set_option maxRecDepth 1000000
set_option maxHeartbeats 400000000
set_option linter.unusedSimpArgs false
set_option linter.unusedVariables false
def allM : Nat → (Nat → Bool) → Bool
  | 0, _ => true
  | n + 1, f => f n && allM n f
theorem allM_at : ∀ {n : Nat} {f : Nat → Bool}, allM n f = true → ∀ {i : Nat}, i < n → f i = true
  | 0, _, _, i, hi => absurd hi (Nat.not_lt_zero i)
  | n + 1, f, h, i, hi => by
    simp only [allM, Bool.and_eq_true] at h
    by_cases e : i = n
    · rw [e]; exact h.1
    · exact allM_at h.2 (by omega)
def ofRun2 : List En → Md → List (List Nat × Nat) → Option (List Nat) → Option Md
  | [], M, _, _ => some M
  | e :: l, M, K, pv => bif (match pv with | none => true | some p => decide (cmpP p e.1 < 0)) then (match lookK (e.1.take (cutE e.1)) K with
      | none => none
      | some u => match M.T u with
        | none => none
        | some ud => bif ud.kind != 1 then none else ofRun2 l (addO M u ud (nameE e.1) ⟨e.2.1, e.2.2.1, e.2.2.2, [], some u, nameE e.1, 0⟩) (setK e.1 M.nodes.length K) (some e.1)) else none
theorem ofRun2_is : ∀ {l : List En} {M : Md} {K : List (List Nat × Nat)} {pv : Option (List Nat)}, (∀ e ∈ l, mayE e = true) → ofRun l M K pv = ofRun2 l M K pv
  | [], _, _, _, _ => rfl
  | e :: l, M, K, pv, h => by
    have ih := fun M K pv => ofRun2_is (l := l) (M := M) (K := K) (pv := pv) (fun x hx => h x (List.mem_cons_of_mem _ hx))
    simp only [ofRun, ofRun2, h e List.mem_cons_self, cond_true, ih]
    cases pv <;> rfl
def filesM (s : List Nat) : Nat → Nat → List En
  | 0, _ => []
  | n + 1, i => ([97, 47, 102, 97 + i], 2, 420, s) :: filesM s n (i + 1)
def movE (k : Nat) (s : List Nat) : List En := ([97], 1, 493, []) :: (filesM s k 0 ++ [([98], 1, 493, [])])
def movM (k : Nat) (s : List Nat) : Md := match ofRun2 (movE k s) MZ [([], 0)] none with
  | some M => { M with many := ((movE k s).length : Int) }
  | none => MZ
theorem files_mem {s : List Nat} {e : En} : ∀ {n i : Nat}, e ∈ filesM s n i → ∃ j, i ≤ j ∧ j < i + n ∧ e = ([97, 47, 102, 97 + j], 2, 420, s)
  | 0, _, h => by cases h
  | n + 1, i, h => by
    rcases List.mem_cons.1 h with h | h
    · exact ⟨i, Nat.le_refl _, by omega, h⟩
    · obtain ⟨j, h1, h2, h3⟩ := files_mem h
      exact ⟨j, by omega, by omega, h3⟩
theorem path_ok : ∀ j, j < 15 → pathE [97, 47, 102, 97 + j] = true := by
  have h : allM 15 (fun j => pathE [97, 47, 102, 97 + j]) = true := by kernel_rfl
  exact fun j hj => allM_at h hj
theorem mov_may {k : Nat} {s : List Nat} (hk : k ≤ 15) (hs : s.length ≤ 1024) : ∀ e ∈ movE k s, mayE e = true := by
  intro e he
  unfold movE at he
  rcases List.mem_cons.1 he with rfl | he
  · kernel_rfl
  · rcases List.mem_append.1 he with he | he
    · obtain ⟨j, _, h2, rfl⟩ := files_mem he
      unfold mayE
      show (bif pathE [97, 47, 102, 97 + j] then restE _ else false) = true
      rw [path_ok j (by omega), cond_true]
      show decide ((s.length : Int) ≤ 1024) = true
      exact decide_eq_true (by omega)
    · rw [List.mem_singleton.1 he]
      kernel_rfl
theorem mov_ok (k : Nat) (s : List Nat) (hk : k ≤ 15) : (ofRun2 (movE k s) MZ [([], 0)] none).isSome = true := by
  have h : allM 16 (fun k => (ofRun2 (movE k s) MZ [([], 0)] none).isSome) = true := by kernel_rfl
  exact allM_at h (by omega)
theorem files_len {s : List Nat} : ∀ {n i : Nat}, (filesM s n i).length = n
  | 0, _ => rfl
  | n + 1, i => by simp [filesM, files_len (n := n)]
theorem mov_of {k : Nat} {s : List Nat} (hk : k ≤ 15) (hs : s.length ≤ 1024) : ofT (movE k s) = some (movM k s) := by
  have hl : (movE k s).length = k + 2 := by simp [movE, files_len]
  unfold ofT movM
  have : decide (((movE k s).length : Int) > 128) = false := by rw [decide_eq_false_iff_not]; omega
  rw [this, cond_false, ofRun2_is (mov_may hk hs)]
  have h := mov_ok k s hk
  cases hr : ofRun2 (movE k s) MZ [([], 0)] none with
  | none => rw [hr] at h; cases h
  | some M => rfl
end Go.AX
namespace Go.AX
open Go.Proofs Go.RowKit
set_option maxRecDepth 1000000
set_option maxHeartbeats 400000000
set_option linter.unusedSimpArgs false
set_option linter.unusedVariables false
def stepM (M : Md) (c : Cl) : Md := match doM M c with
  | some (_, M') => M'
  | none => M
def cM1 : Cl := ⟨13, [97], [98, 47, 99], 0, 0, 0, 0, []⟩
def cM2 : Cl := ⟨13, [98], [97], 0, 0, 0, 0, []⟩
def cM3 : Cl := ⟨3, [97, 47, 99], [], 0, 0, 0, 0, []⟩
def cMs (i : Nat) : Cl := ⟨1, [97, 47, 99, 47, 102, 97 + i], [], 0, 0, 0, 0, []⟩
def cMb : Cl := ⟨1, [98], [], 0, 0, 0, 0, []⟩
def mM1 (k : Nat) (s : List Nat) : Md := stepM (movM k s) cM1
def mM2 (k : Nat) (s : List Nat) : Md := stepM (mM1 k s) cM2
theorem at_map {α : Type} {f g : Nat → α} {n k : Nat} (h : (List.range n).map f = (List.range n).map g) (hk : k < n) : f k = g k := by
  have := congrArg (fun l => l[k]?) h
  simpa [List.getElem?_map, List.getElem?_range hk] using this
theorem mov_1 {k : Nat} {s : List Nat} (hk : k ≤ 15) : doM (movM k s) cM1 = some (⟨0, 0, 0, 0, [], []⟩, mM1 k s) := by
  have h : (List.range 16).map (fun k => doM (movM k s) cM1) = (List.range 16).map (fun k => some (⟨0, 0, 0, 0, [], []⟩, mM1 k s)) := by kernel_rfl
  exact at_map h (by omega)
theorem mov_2 {k : Nat} {s : List Nat} (hk : k ≤ 15) : doM (mM1 k s) cM2 = some (⟨0, 0, 0, 0, [], []⟩, mM2 k s) := by
  have h : (List.range 16).map (fun k => doM (mM1 k s) cM2) = (List.range 16).map (fun k => some (⟨0, 0, 0, 0, [], []⟩, mM2 k s)) := by kernel_rfl
  exact at_map h (by omega)
theorem mov_3 {k : Nat} {s : List Nat} (hk : k ≤ 15) : doM (mM2 k s) cM3 = some (⟨0, 0, 0, 0, [], (List.range k).map fun i => [102, 97 + i]⟩, mM2 k s) := by
  have h : (List.range 16).map (fun k => doM (mM2 k s) cM3) = (List.range 16).map (fun k => some (⟨0, 0, 0, 0, [], (List.range k).map fun i => [102, 97 + i]⟩, mM2 k s)) := by kernel_rfl
  exact at_map h (by omega)
theorem mov_b {k : Nat} {s : List Nat} (hk : k ≤ 15) : doM (mM2 k s) cMb = some (⟨1, 0, 0, 0, [], []⟩, mM2 k s) := by
  have h : (List.range 16).map (fun k => doM (mM2 k s) cMb) = (List.range 16).map (fun k => some (⟨1, 0, 0, 0, [], []⟩, mM2 k s)) := by kernel_rfl
  exact at_map h (by omega)
theorem mov_s {k i : Nat} {s : List Nat} (hk : k ≤ 15) (hi : i < k) : doM (mM2 k s) (cMs i) = some (⟨0, (s.length : Int), 2, 420, [], []⟩, mM2 k s) := by
  have h : (List.range 16).map (fun k => (List.range k).map fun i => doM (mM2 k s) (cMs i)) = (List.range 16).map (fun k => (List.range k).map fun _ => some (⟨0, (s.length : Int), 2, 420, [], []⟩, mM2 k s)) := by kernel_rfl
  exact at_map (at_map h (by omega)) hi
theorem mov_e {k : Nat} {s : List Nat} (hk : k ≤ 15) : ∃ es, entsT (mM2 k s).T 20 (mM2 k s).root [] = some es ∧ es.length = k + 2 := by
  have h : (List.range 16).map (fun k => (entsT (mM2 k s).T 20 (mM2 k s).root []).map List.length) = (List.range 16).map (fun k => some (k + 2)) := by kernel_rfl
  have := at_map h (by omega : k < 16)
  cases he : entsT (mM2 k s).T 20 (mM2 k s).root [] with
  | none => simp [he] at this
  | some es => exact ⟨es, rfl, by simpa [he] using this⟩
end Go.AX
namespace Go.AX
open Go.Proofs Go.RowKit
set_option maxRecDepth 1000000
set_option maxHeartbeats 40000000
set_option linter.unusedSimpArgs false
def toI : AV → AV
  | .raw (.int _ z) => .raw (.int .i64 (IntKind.i64.wrap z))
  | v => v
theorem toI_int {k : IntKind} {z : Int} : toI (.raw (.int k z)) = .raw (.int .i64 (IntKind.i64.wrap z)) := (rfl)
theorem run_cvi {z : Int} : pureRun TE.P (do pure (Next.value (← convert 35 3 (.int .u64 z)))) = some (.value (.int .i64 (IntKind.i64.wrap z))) := by kernel_rfl
theorem tx_cvi {s : St} {z : Int} : textA TE s 35 3 (.raw (.int .u64 z)) = none := by kernel_rfl
theorem o_cvi {pr : Prims} {r : Tasks} {rd : Option Nat} {a : Ac} {s : St} {dst : Option Tmp} {x : Operand} {ty : TypeId} {pos : String} {after : Array Edge} {k : Ac → St → Bool} {kp : AV → St → Bool} (h : isU64 (a.eval x) = true) :
    evOp TE pr r rd ⟨dst, .convert 35 3 x, ty, pos, after, none⟩ a s k kp = putK a dst (toI (a.eval x)) s k := by
  obtain ⟨z, hz⟩ := isU64_of h
  have h1 : valAt a x = .int .u64 z := by simp [valAt, hz, toVal]
  have hall : (Op.operands (.convert 35 3 x)).toList.all (fun x => (toVal (a.eval x)).isSome) = true := by
    show (List.all [x] (fun x => (toVal (a.eval x)).isSome)) = true
    simp [hz, toVal]
  have hr : pureRun TE.P (execOp (valAt a) ⟨dst, .convert 35 3 x, ty, pos, after, none⟩) = some (.value (.int .i64 (IntKind.i64.wrap z))) := by
    have he : execOp (valAt a) ⟨dst, .convert 35 3 x, ty, pos, after, none⟩ = (do pure (Next.value (← convert 35 3 (.int .u64 z)))) := by
      simp only [execOp, h1]
    rw [he]
    exact run_cvi
  have hp : stepPure TE a ⟨dst, .convert 35 3 x, ty, pos, after, none⟩ = some (.raw (.int .i64 (IntKind.i64.wrap z)), []) := by
    simp only [stepPure, hall, cond_true, hr]
    rfl
  have hs : stepP TE a s ⟨dst, .convert 35 3 x, ty, pos, after, none⟩ = some (.raw (.int .i64 (IntKind.i64.wrap z)), []) := by
    simp only [stepP, hz, tx_cvi, hp]
  show plainOp TE ⟨dst, .convert 35 3 x, ty, pos, after, none⟩ a s k = _
  rw [plain_some hs, hz]
  rfl
end Go.AX
namespace Go.AX
open Go.Proofs Go.RowKit
set_option maxRecDepth 1000000
set_option maxHeartbeats 40000000
set_option linter.unusedSimpArgs false
def toB : AV → AV
  | .raw (.int _ z) => .raw (.int .u8 (IntKind.u8.wrap z))
  | v => v
theorem toB_int {k : IntKind} {z : Int} : toB (.raw (.int k z)) = .raw (.int .u8 (IntKind.u8.wrap z)) := (rfl)
theorem run_cvb {z : Int} : pureRun TE.P (do pure (Next.value (← convert 3 5 (.int .i64 z)))) = some (.value (.int .u8 (IntKind.u8.wrap z))) := by kernel_rfl
theorem tx_cvb {s : St} {z : Int} : textA TE s 3 5 (.raw (.int .i64 z)) = none := by kernel_rfl
theorem o_cvb {pr : Prims} {r : Tasks} {rd : Option Nat} {a : Ac} {s : St} {dst : Option Tmp} {x : Operand} {ty : TypeId} {pos : String} {after : Array Edge} {k : Ac → St → Bool} {kp : AV → St → Bool} (h : isI64 (a.eval x) = true) :
    evOp TE pr r rd ⟨dst, .convert 3 5 x, ty, pos, after, none⟩ a s k kp = putK a dst (toB (a.eval x)) s k := by
  obtain ⟨z, hz⟩ := isI64_of h
  have h1 : valAt a x = .int .i64 z := by simp [valAt, hz, toVal]
  have hall : (Op.operands (.convert 3 5 x)).toList.all (fun x => (toVal (a.eval x)).isSome) = true := by
    show (List.all [x] (fun x => (toVal (a.eval x)).isSome)) = true
    simp [hz, toVal]
  have hr : pureRun TE.P (execOp (valAt a) ⟨dst, .convert 3 5 x, ty, pos, after, none⟩) = some (.value (.int .u8 (IntKind.u8.wrap z))) := by
    have he : execOp (valAt a) ⟨dst, .convert 3 5 x, ty, pos, after, none⟩ = (do pure (Next.value (← convert 3 5 (.int .i64 z)))) := by
      simp only [execOp, h1]
    rw [he]
    exact run_cvb
  have hp : stepPure TE a ⟨dst, .convert 3 5 x, ty, pos, after, none⟩ = some (.raw (.int .u8 (IntKind.u8.wrap z)), []) := by
    simp only [stepPure, hall, cond_true, hr]
    rfl
  have hs : stepP TE a s ⟨dst, .convert 3 5 x, ty, pos, after, none⟩ = some (.raw (.int .u8 (IntKind.u8.wrap z)), []) := by
    simp only [stepP, hz, tx_cvb, hp]
  show plainOp TE ⟨dst, .convert 3 5 x, ty, pos, after, none⟩ a s k = _
  rw [plain_some hs, hz]
  rfl
theorem wrap_b {n : Nat} (h : n < 256) : IntKind.u8.wrap (n : Int) = (n : Int) := by
  show (n : Int) % 256 = (n : Int)
  omega
theorem mk_sl {s : St} {n : Nat} (h : n ≤ 1000) : makeSliceA TE s 68 (.raw (.int .i64 (n : Int))) (.raw (.int .i64 (n : Int))) = some (.slice s.nx 0 n 0 n true, s.alloc (.cells (repL [.raw (.int .u8 0)] n) 5 0)) := by
  have e : makeSliceA TE s 68 (.raw (.int .i64 (n : Int))) (.raw (.int .i64 (n : Int))) = (bif (Nat.ble n n && Nat.ble (n * 1) 1048576 && Nat.ble n 1048576) && true then some (.slice s.nx 0 n 0 n true, s.alloc (.cells (repL [.raw (.int .u8 0)] n) 5 0)) else none) := by kernel_rfl
  rw [e, Nat.mul_one, Nat.ble_eq.mpr (Nat.le_refl n), Nat.ble_eq.mpr (by omega : n ≤ 1048576)]
  rfl
theorem repL_b : ∀ {n : Nat}, repL [.raw (.int .u8 0)] n = cellsOfStr (List.replicate n 0)
  | 0 => rfl
  | n + 1 => by
    show [AV.raw (.int .u8 0)] ++ repL [.raw (.int .u8 0)] n = _
    rw [repL_b (n := n)]
    rfl
theorem cutL_all {l : List AV} : cutL 0 l.length l = some l := by
  rw [cutL_eq (by omega)]
  simp
theorem bytesL_of : ∀ {b : List Nat}, (∀ x ∈ b, x < 256) → bytesL (cellsOfStr b) = some b
  | [], _ => rfl
  | x :: l, h => by
    show (bif Nat.blt x 256 then (match bytesL (cellsOfStr l) with | some r => some (x :: r) | none => none) else none) = _
    rw [Nat.blt_eq.mpr (h x (List.mem_cons_self ..)), bytesL_of (fun y hy => h y (List.mem_cons_of_mem _ hy))]
    rfl
theorem cells_len {b : List Nat} : (cellsOfStr b).length = b.length := by simp [cellsOfStr]
theorem tx_b {s : St} {q t z n : Nat} {b : List Nat} (hb : ∀ x ∈ b, x < 256) (hn : b.length = n) (h : s.h.get q = some (.cells (cellsOfStr b) t z)) : textA TE s 68 9 (.slice q 0 n 0 n true) = some (.str b, [q]) := by
  have e : textA TE s 68 9 (.slice q 0 n 0 n true) = (match bytesOfA s q 0 n with | some b => some (.str b, [q]) | none => none) := by kernel_rfl
  rw [e]
  have : bytesOfA s q 0 n = some b := by
    unfold bytesOfA getCells
    rw [h]
    simp only
    rw [← hn, ← cells_len, cutL_all]
    exact bytesL_of hb
  rw [this]
def txO (o d : Option (AV × List Nat)) : Option (AV × List Nat) := match o with
  | some (v, ids) => readR ids (some v)
  | none => d
theorem txO_some {v : AV} {ids : List Nat} {d : Option (AV × List Nat)} : txO (some (v, ids)) d = readR ids (some v) := (rfl)
theorem sp_txo {a : Ac} {s : St} {dst : Option Tmp} {x : Operand} {ty : TypeId} {pos : String} {after : Array Edge} :
    stepP TE a s ⟨dst, .convert 68 9 x, ty, pos, after, none⟩ = txO (textA TE s 68 9 (a.eval x)) (stepPure TE a ⟨dst, .convert 68 9 x, ty, pos, after, none⟩) := by
  simp only [stepP]
  cases textA TE s 68 9 (a.eval x) <;> rfl
end Go.AX
namespace Go.AX
open Go.Proofs Go.RowKit
set_option maxRecDepth 1000000
set_option maxHeartbeats 400000000
set_option linter.unusedSimpArgs false
set_option linter.unusedVariables false
theorem bd_e3 {p : List Nat} {k m : Int} : buildA TE 34 [(0, .str p), (1, .raw (.int .i64 k)), (2, .raw (.int .i64 m))] = some (agE (p, k, m, [])) := by kernel_rfl
theorem filesM_snoc {s : List Nat} : ∀ {n i : Nat}, filesM s (n + 1) i = filesM s n i ++ [([97, 47, 102, 97 + (i + n)], 2, 420, s)]
  | 0, i => by simp [filesM]
  | n + 1, i => by
    have ih := filesM_snoc (s := s) (n := n) (i := i + 1)
    rw [filesM, ih]
    simp only [filesM, List.cons_append]
    rw [show i + 1 + n = i + (n + 1) from by omega]
theorem sp_cvt {a : Ac} {s : St} {dst : Option Tmp} {x : Operand} {ty : TypeId} {pos : String} {after : Array Edge} (h : isI64 (a.eval x) = true) :
    stepP TE a s ⟨dst, .convert 3 35 x, ty, pos, after, none⟩ = quietR (some (toU (a.eval x))) := by
  obtain ⟨z, hz⟩ := isI64_of h
  have h1 : valAt a x = .int .i64 z := by simp [valAt, hz, toVal]
  have hall : (Op.operands (.convert 3 35 x)).toList.all (fun x => (toVal (a.eval x)).isSome) = true := by
    show (List.all [x] (fun x => (toVal (a.eval x)).isSome)) = true
    simp [hz, toVal]
  have hr : pureRun TE.P (execOp (valAt a) ⟨dst, .convert 3 35 x, ty, pos, after, none⟩) = some (.value (.int .u64 (IntKind.u64.wrap z))) := by
    have he : execOp (valAt a) ⟨dst, .convert 3 35 x, ty, pos, after, none⟩ = (do pure (Next.value (← convert 3 35 (.int .i64 z)))) := by
      simp only [execOp, h1]
    rw [he]
    exact run_cv
  have hp : stepPure TE a ⟨dst, .convert 3 35 x, ty, pos, after, none⟩ = some (.raw (.int .u64 (IntKind.u64.wrap z)), []) := by
    simp only [stepPure, hall, cond_true, hr]
    rfl
  have hs : stepP TE a s ⟨dst, .convert 3 35 x, ty, pos, after, none⟩ = some (.raw (.int .u64 (IntKind.u64.wrap z)), []) := by
    simp only [stepP, hz, tx_cv, hp]
  rw [hs, hz]
  rfl
theorem sp_cvi {a : Ac} {s : St} {dst : Option Tmp} {x : Operand} {ty : TypeId} {pos : String} {after : Array Edge} (h : isU64 (a.eval x) = true) :
    stepP TE a s ⟨dst, .convert 35 3 x, ty, pos, after, none⟩ = quietR (some (toI (a.eval x))) := by
  obtain ⟨z, hz⟩ := isU64_of h
  have h1 : valAt a x = .int .u64 z := by simp [valAt, hz, toVal]
  have hall : (Op.operands (.convert 35 3 x)).toList.all (fun x => (toVal (a.eval x)).isSome) = true := by
    show (List.all [x] (fun x => (toVal (a.eval x)).isSome)) = true
    simp [hz, toVal]
  have hr : pureRun TE.P (execOp (valAt a) ⟨dst, .convert 35 3 x, ty, pos, after, none⟩) = some (.value (.int .i64 (IntKind.i64.wrap z))) := by
    have he : execOp (valAt a) ⟨dst, .convert 35 3 x, ty, pos, after, none⟩ = (do pure (Next.value (← convert 35 3 (.int .u64 z)))) := by
      simp only [execOp, h1]
    rw [he]
    exact run_cvi
  have hp : stepPure TE a ⟨dst, .convert 35 3 x, ty, pos, after, none⟩ = some (.raw (.int .i64 (IntKind.i64.wrap z)), []) := by
    simp only [stepPure, hall, cond_true, hr]
    rfl
  have hs : stepP TE a s ⟨dst, .convert 35 3 x, ty, pos, after, none⟩ = some (.raw (.int .i64 (IntKind.i64.wrap z)), []) := by
    simp only [stepP, hz, tx_cvi, hp]
  rw [hs, hz]
  rfl
theorem bs_u8 {s : St} {c : Int} : buildSliceA TE s 68 1 [(0, .raw (.int .u8 c))] = some (.slice s.nx 0 1 0 1 true, s.alloc (.cells [.raw (.int .u8 c)] 5 0)) := by kernel_rfl
theorem bd_e4 {p d : List Nat} {k m : Int} : buildA TE 34 [(0, .str p), (1, .raw (.int .i64 k)), (2, .raw (.int .i64 m)), (3, .str d)] = some (agE (p, k, m, d)) := bd_en
def putT (o : Option (AV × List Nat)) (d : Bool) (a : Ac) (dst : Option Tmp) (s : St) (k : Ac → St → Bool) : Bool := match o with
  | some (v, ids) => bif idsIn s ids then putK a dst v s k else false
  | none => d
theorem putT_some {a : Ac} {s : St} {dst : Option Tmp} {k : Ac → St → Bool} {v : AV} {ids : List Nat} {d : Bool} (h : idsIn s ids = true) : putT (some (v, ids)) d a dst s k = putK a dst v s k := by simp [putT, h]
theorem o_txo {pr : Prims} {r : Tasks} {rd : Option Nat} {a : Ac} {s : St} {dst : Option Tmp} {x : Operand} {ty : TypeId} {pos : String} {after : Array Edge} {k : Ac → St → Bool} {kp : AV → St → Bool} :
    evOp TE pr r rd ⟨dst, .convert 68 9 x, ty, pos, after, none⟩ a s k kp = putT (textA TE s 68 9 (a.eval x)) (plainOp TE ⟨dst, .convert 68 9 x, ty, pos, after, none⟩ a s k) a dst s k := by
  cases h : textA TE s 68 9 (a.eval x) with
  | none => rfl
  | some q =>
    obtain ⟨v, ids⟩ := q
    exact plain_some (by simp only [stepP, h])
theorem bd_c1M {a : Int} {b : List Nat} : buildA TE 41 [(0, .raw (.int .i64 a)), (1, .str b)] = some (.agg (clL ⟨a, b, [], 0, 0, 0, 0, []⟩)) := by kernel_rfl
theorem bd_c2M {a : Int} {b c : List Nat} : buildA TE 41 [(0, .raw (.int .i64 a)), (1, .str b), (2, .str c)] = some (.agg (clL ⟨a, b, c, 0, 0, 0, 0, []⟩)) := by kernel_rfl
theorem fn_an0M {a b c d : Int} {e : List Nat} {V : AV} : fieldA TE 38 (.agg (anL a b c d e V)) 0 = some (.raw (.int .i64 a)) := by kernel_rfl
theorem fa_an0M {x : Nat} : fieldAddrA TE 38 (.ptr x 0) 0 = some (.ptr x 0) := by kernel_rfl
theorem fa_an1M {x : Nat} : fieldAddrA TE 38 (.ptr x 0) 1 = some (.ptr x 1) := by kernel_rfl
theorem fa_an5M {x : Nat} : fieldAddrA TE 38 (.ptr x 0) 5 = some (.ptr x 5) := by kernel_rfl
theorem ldO_an0M {a b c d : Int} {e : List Nat} {V : AV} {t z : Nat} : ldO (some (.cells (anL a b c d e V) t z)) 0 = some (.raw (.int .i64 a)) := (rfl)
theorem ldO_an1M {a b c d : Int} {e : List Nat} {V : AV} {t z : Nat} : ldO (some (.cells (anL a b c d e V) t z)) 1 = some (.raw (.int .i64 b)) := (rfl)
theorem ldO_an5M {a b c d : Int} {e : List Nat} {V : AV} {t z : Nat} : ldO (some (.cells (anL a b c d e V) t z)) 5 = some V := (rfl)
theorem an_g0M {a b c d : Int} {e : List Nat} {V : AV} : (anL a b c d e V)[0]? = some (.raw (.int .i64 a)) := (rfl)
theorem an_g1M {a b c d : Int} {e : List Nat} {V : AV} : (anL a b c d e V)[1]? = some (.raw (.int .i64 b)) := (rfl)
theorem an_g5M {a b c d : Int} {e : List Nat} {V : AV} : (anL a b c d e V)[5]? = some V := (rfl)
theorem num_cM {s : St} (H : Ok TE Tryz.prog pr3) {z : Int} {kr kp : AV → St → Bool} (hk : kr (.raw (.int .i64 z)) s = true) : (sem Tryz.prog).call 23 [.raw (.int .i64 z)] s kr kp = true := by
  refine w_call H 4 fn_23 rfl rfl ?_
  repeat (first | with_reducible (refine w_one H ?_; constructor) | simp only [rB, rP, rQ, boolA, intA, resultA, resA, reduceIte, reduceCtorEq, Nat.reduceAdd, Nat.reduceLT, Nat.reduceEqDiff, UInt8.reduceToNat, pe3, pf3, Tryz.results23])
  exact hk
theorem World.putM {s : St} {x : Nat} {M : Md} {L : List (Nat × AO)} (h : World s x M L) (o o' : AO) : World { h := (s.alloc o).h.set s.nx o', nx := s.nx + 1 } x M ((s.nx, o') :: L) :=
  (World.alloc h o).set (fun q hq => Nat.ne_of_lt (World.lt h hq)) o'
theorem bd_ly {b : Nat} {s : St} {V : AV} {es : List En} (h : ErB b s V es) : buildA TE 49 [(0, V)] = some (.agg [V]) := by
  rcases h with ⟨rfl, _⟩ | ⟨id, _, rfl, _⟩ <;> kernel_rfl
theorem bs_ly {b : Nat} {s : St} {V : AV} {es : List En} (h : ErB b s V es) : buildSliceA TE s 22 1 [(0, .agg [V])] = some (.slice s.nx 0 1 0 1 true, s.alloc (.cells [V] 49 0)) := by
  rcases h with ⟨rfl, _⟩ | ⟨id, _, rfl, _⟩ <;> kernel_rfl
theorem bd_imM {q : Nat} : buildA TE 24 [(0, .slice q 0 1 0 1 true)] = some (.agg [.slice q 0 1 0 1 true]) := by kernel_rfl
theorem row_ly {b : Nat} {s : St} (hB : Below0 s) {V : AV} {es : List En} (h : ErB b s V es) : LsV (s.alloc (.cells [V] 49 0)) (.slice s.nx 0 1 0 1 true) [es] := by
  have h2 := (h.ext hB (Ext.alloc s (.cells [V] 49 0))).esvM
  refine Or.inr (Or.inr ⟨s.nx, 0, 0, 1, true, [V], _, rfl, al_same, Or.inl ⟨_, rfl⟩, fun k es' hk => ?_⟩)
  cases k with
  | succ k => cases hk
  | zero =>
    cases hk
    refine ⟨V, rfl, h2, ?_, ?_, ?_⟩
    · rcases h with ⟨rfl, _⟩ | ⟨id, _, rfl, _⟩
      · trivial
      · exact Nat.le_refl _
    · rcases h with ⟨rfl, _⟩ | ⟨id, _, rfl, _⟩ <;> rfl
    · rcases h with ⟨rfl, _⟩ | ⟨id, _, rfl, _⟩ <;> rfl
theorem mov_path {k : Nat} {s : List Nat} {e : En} (h : e ∈ movE k s) : e.1.length ≤ 1048575 := by
  unfold movE at h
  rcases List.mem_cons.1 h with rfl | h
  · decide
  · rcases List.mem_append.1 h with h | h
    · obtain ⟨j, _, _, rfl⟩ := files_mem h
      show [97, 47, 102, 97 + j].length ≤ _
      simp
    · rw [List.mem_singleton.1 h]
      decide
theorem doS_c {s : St} (H : Ok TE Tryz.prog pr3) {x : Nat} {M : Md} {L : List (Nat × AO)} (hW : World s x M L) {c : Cl} (ho : c.op = 1 ∨ c.op = 3 ∨ c.op = 13) {q : An × Md} (h : doM M c = some q) {kr kp : AV → St → Bool} (hk : Dt s x L kr q) :
    (sem Tryz.prog).call 31 [.ptr x 0, .agg (clL c)] s kr kp = true := by
  unfold doM at h
  have hb : (decide (c.op < 1) || decide (c.op > 18)) = false := by rw [Bool.or_eq_false_iff, decide_eq_false_iff_not, decide_eq_false_iff_not]; omega
  rw [hb, cond_false] at h
  cases hr : doR M c c.op.toNat with
  | none => rw [hr] at h; cases h
  | some r =>
  rw [hr] at h
  cases h
  rcases ho with e | e | e
  · rw [e] at hr
    exact do_look H hW (by omega) (by omega) (fun s L kr kp hW hk => do1_c H hW e hr hk) hk
  · rw [e] at hr
    exact do_look H hW (by omega) (by omega) (fun s L kr kp hW hk => do3_c H hW e hr hk) hk
  · rw [e] at hr
    exact do_rename H hW (by omega) (by omega) (fun s L kr kp hW hk => do13_c H hW hr hk) hk
theorem uDoS_c {s : St} (H : Ok TE Tryz.prog pr3) {x u : Nat} {W : AV} {M : Md} {L : List (Nat × AO)} (hW : World s x M L) (hU : (u, AO.cells [.ptr x 0, W] 74 0) ∈ L) {c : Cl} (hop : c.op = 1 ∨ c.op = 3 ∨ c.op = 13) {q : An × Md} (h : doM M c = some q) {kr kp : AV → St → Bool} (hk : Dt s x L kr q) :
    (sem Tryz.prog).call 10 [.ptr u 0, .agg (clL c)] s kr kp = true := by
  refine w_call H 14 fn_10 rfl rfl ?_
  have g3 := World.get hW hU
  have h3 : u < s.nx := World.lt hW hU
  have m1 : (s.nx = s.nx + 1) = False := by simp
  have m2 : (s.nx + 1 = s.nx) = False := by simp
  have m3 : (u = s.nx) = False := by simp; omega
  have m4 : (u = s.nx + 1) = False := by simp; omega
  have hW2 := (World.alloc hW (.cells (clL c) 41 0)).alloc (.cells (anL 0 0 0 0 [] nilS) 38 0)
  have hL1 : ∀ q ∈ (s.nx, AO.cells (clL c) 41 0) :: L, q.1 ≠ s.nx + 1 := by
    intro q hq
    simp only [List.mem_cons] at hq
    rcases hq with rfl | hq
    · simp
    · have := World.lt hW hq
      omega
  unfold clL at hW2 ⊢
  repeat (first | with_reducible (refine w_one H ?_; constructor) | simp only [rB, rP, rQ, boolA, intA, resultA, resA, reduceIte, reduceCtorEq, Nat.reduceAdd, Nat.reduceLT, Nat.reduceEqDiff, UInt8.reduceToNat, pe3, pf3, all_an, cells_agg, b_eqi, b_pp, eq_unU, fa_unU, ld_72, m1, m2, m3, m4, g3, ld_cl, ldG_cl] | (with_reducible refine w_plan H (i := 3) (.take 0 (.take 1 (.take 2 (.take 3 (.take 4 (.alt 5 [0, 1, 2, 3, 4] (.alt 6 [0, 1, 2, 3, 4, 5] (.done) (.yes)) (.yes))))))) rfl (by kernel_rfl) ?_))
  refine doS_c H hW2 hop h (c := c) ?_
  intro s1 V w1 l1 hV
  have c1 : s1.h.get (s.nx + 1) = some (.cells (anL 0 0 0 0 [] nilS) 38 0) := w1.get0
  repeat (first | with_reducible (refine w_one H ?_; constructor) | simp only [rB, rP, rQ, boolA, intA, resultA, resA, reduceIte, reduceCtorEq, Nat.reduceAdd, Nat.reduceLT, Nat.reduceEqDiff, UInt8.reduceToNat, pe3, pf3, c1, st_an hV.cells1.2, stA_an, ld_an, ldG_an, Tryz.results10])
  exact hk _ V ((w1.set hL1 _).sub (fun q hq => List.mem_cons_of_mem _ (List.mem_cons_of_mem _ hq))) (Nat.le_trans (by show s.nx ≤ s.nx + 1 + 1; omega) l1) (hV.set c1 an_str _)
theorem moves_c (H : Ok TE Tryz.prog pr3) (f z : Int) {k : Nat} (ek : andI f 15 = (k : Int)) (hk15 : k ≤ 15) {n : Nat} (er : (IntKind.u64.wrap z).tmod 1000 = (n : Int)) (hn : n < 1000) {kr kp : AV → St → Bool} (hk : ∀ s', kr (.raw (.bool true)) s' = true) :
    (sem Tryz.prog).call 7 [.raw (.int .i64 f), .raw (.int .i64 z)] st0 kr kp = true := by
  refine w_call H 131 fn_7 rfl rfl ?_
  have ew : IntKind.i64.wrap (n : Int) = (n : Int) := wrap_nat (by omega)
  have B0 : Below0 st0 := fun i o h => by cases h
  have B1 : Below0 (st0.alloc (.cells (celE ([97], 1, 493, [])) 34 0)) := below_al B0 _
  have hq1 : (st0.alloc (.cells (celE ([97], 1, 493, [])) 34 0)).h.get st0.nx = some (.cells (flatE [([97], 1, 493, [])]) 34 0) := al_same
  obtain ⟨V1, s1, a1, a2, a3, a4, a5, a6, a7⟩ := er_app (b := 0) (V := nilS) (acc := []) (Nat.zero_le _) B1 (Or.inl ⟨rfl, rfl⟩) (by simp) hq1
  have bs := bs_agE (s := st0) (e := ([97], 1, 493, []))
  unfold nilS at a1
  rw [show st0.nx = 0 from rfl] at a1
  repeat (first | with_reducible (refine w_one H ?_; constructor) | simp only [rB, rP, rQ, boolA, intA, resultA, resA, reduceIte, reduceCtorEq, Nat.reduceAdd, Nat.reduceLT, Nat.reduceEqDiff, UInt8.reduceToNat, pe3, pf3, c_awake, Bool.not_true, bd_e3, bs, a1, o_cvt, i64_int, toU_int, o_cvi, u64_int, toI_int, remA_int, b_rem, eqS_rem, rm_eq])
  have mk : makeSliceA TE s1 68 (.raw (.int .i64 (n : Int))) (.raw (.int .i64 (n : Int))) = some (.slice s1.nx 0 n 0 n true, s1.alloc (.cells (cellsOfStr (List.replicate n 0)) 5 0)) := by rw [mk_sl (by omega), repL_b]
  have g0 : (s1.alloc (.cells (cellsOfStr (List.replicate n 0)) 5 0)).h.get s1.nx = some (.cells (cellsOfStr (List.replicate n 0)) 5 0) := al_same
  have tx := tx_b (b := List.replicate n 0) (n := n) (fun x hx => by rw [(List.mem_replicate.1 hx).2]; decide) (by simp) g0
  generalize st0.alloc (.cells (celE ([97], 1, 493, [])) 34 0) = s0 at *
  repeat (first | with_reducible (refine w_one H ?_; constructor) | simp only [rB, rP, rQ, boolA, intA, resultA, resA, reduceIte, reduceCtorEq, Nat.reduceAdd, Nat.reduceLT, Nat.reduceEqDiff, UInt8.reduceToNat, pe3, pf3, o_cvt, i64_int, toU_int, o_cvi, u64_int, toI_int, remA_int, b_rem, eqS_rem, rm_eq (m := 1000) (by decide), sp_cvt, sp_cvi, t_binP, ek, er, ew, mk, tx, txO_some, sp_txo] | (with_reducible refine w_plan H (i := 5) (.take 0 (.take 1 (.take 2 (.take 3 (.take 4 (.take 5 (.take 8 (.alt 6 [2, 3, 4, 5] (.take 7 (.take 9 (.done))) (.yes))))))))) rfl (by kernel_rfl) ?_))
  have BS : Below0 (s1.alloc (.cells (cellsOfStr (List.replicate n 0)) 5 0)) := below_al a4 _
  have VS : ErB 0 (s1.alloc (.cells (cellsOfStr (List.replicate n 0)) 5 0)) V1 ([([97], 1, 493, [])] ++ filesM (List.replicate n 0) 0 0) := a2.ext a4 (Ext.alloc _ _)
  generalize s1.alloc (.cells (cellsOfStr (List.replicate n 0)) 5 0) = sA at *
  refine w_loop_ind H (fun m t s' => ∃ (i : Nat) (V : AV), m + i = k ∧ tg t 5 = V ∧ tg t 6 = .raw (.int .i64 (k : Int)) ∧ tg t 7 = .str (List.replicate n 0) ∧ tg t 8 = .raw (.int .i64 (i : Int)) ∧ Below0 s' ∧ ErB 0 s' V ([([97], 1, 493, [])] ++ filesM (List.replicate n 0) i 0)) (n := k)
    ⟨0, V1, rfl, by simp only [rB, rP, rQ, boolA, intA, resultA, resA, reduceIte, reduceCtorEq, Nat.reduceAdd, Nat.reduceLT, Nat.reduceEqDiff, UInt8.reduceToNat], by simp only [rB, rP, rQ, boolA, intA, resultA, resA, reduceIte, reduceCtorEq, Nat.reduceAdd, Nat.reduceLT, Nat.reduceEqDiff, UInt8.reduceToNat], by simp only [rB, rP, rQ, boolA, intA, resultA, resA, reduceIte, reduceCtorEq, Nat.reduceAdd, Nat.reduceLT, Nat.reduceEqDiff, UInt8.reduceToNat], by simp only [rB, rP, rQ, boolA, intA, resultA, resA, reduceIte, reduceCtorEq, Nat.reduceAdd, Nat.reduceLT, Nat.reduceEqDiff, UInt8.reduceToNat]; rfl, BS, VS⟩ ?_
  rintro m t s' ih ⟨i, V, hmi, t5, t6, t7, t8, B', hV⟩
  cases m with
  | zero =>
    have hik : i = k := by omega
    subst hik
    have g1 : decide ((i : Int) < (i : Int)) = false := by rw [decide_eq_false_iff_not]; omega
    have bs := bs_agE (s := s') (e := ([98], 1, 493, []))
    have hq4 : (s'.alloc (.cells (celE ([98], 1, 493, [])) 34 0)).h.get s'.nx = some (.cells (flatE [([98], 1, 493, [])]) 34 0) := al_same
    have B4 : Below0 (s'.alloc (.cells (celE ([98], 1, 493, [])) 34 0)) := below_al B' _
    have V4 := hV.ext B' (Ext.alloc s' (.cells (celE ([98], 1, 493, [])) 34 0))
    obtain ⟨V5, s5, b1, b2, b3, b4, b5, b6, b7⟩ := er_app (b := 0) (Nat.zero_le _) B4 V4 (by simp [files_len]; omega) hq4
    have hVE : ErB 0 s5 V5 (movE i (List.replicate n 0)) := b2
    have bl := bd_ly hVE
    have bsl := bs_ly hVE
    have hL := row_ly b4 hVE
    have B6 := below_al b4 (.cells [V5] 49 0)
    repeat (first | with_reducible (refine w_one H ?_; constructor) | simp only [rB, rP, rQ, boolA, intA, resultA, resA, reduceIte, reduceCtorEq, Nat.reduceAdd, Nat.reduceLT, Nat.reduceEqDiff, UInt8.reduceToNat, pe3, pf3, t5, t6, t7, t8, b_lt, g1, bd_e3, bs, b1, bl, bsl, bd_imM])
    generalize s5.alloc (.cells [V5] 49 0) = s6 at *
    have hsl : (List.replicate n 0).length ≤ 1024 := by simp; omega
    have hof := mov_of (k := i) (s := List.replicate n 0) hk15 hsl
    refine unewF_c H B6 hL (fun es hes e he => by rw [List.mem_singleton.1 hes] at he; exact mov_path he) ?_ (fun _ h _ _ => by rw [merge_tree hof] at h; cases h)
    intro s7 u x M W out hm hO hE7 hx7 hu7 hW hWE
    rw [merge_tree hof] at hm
    cases hm
    rw [hof] at hO
    cases hO
    have hU : ∀ {L : List (Nat × AO)}, (u, AO.cells [.ptr x 0, W] 74 0) ∈ (u, AO.cells [.ptr x 0, W] 74 0) :: L := List.mem_cons_self ..
    have up : ∀ {y a : Nat × AO} {L : List (Nat × AO)}, y ∈ L → y ∈ a :: L := fun h => List.mem_cons_of_mem _ h
    generalize hS : List.replicate n 0 = S at *
    repeat (first | with_reducible (refine w_one H ?_; constructor) | simp only [rB, rP, rQ, boolA, intA, resultA, resA, reduceIte, reduceCtorEq, Nat.reduceAdd, Nat.reduceLT, Nat.reduceEqDiff, UInt8.reduceToNat, pe3, pf3, t5, t6, t7, t8, bd_c2M])
    refine uDoS_c H hW hU (Or.inr (Or.inr rfl)) (mov_1 hk15) ?_
    intro s8 V8 hW8 l8 hV8
    repeat (first | with_reducible (refine w_one H ?_; constructor) | simp only [rB, rP, rQ, boolA, intA, resultA, resA, reduceIte, reduceCtorEq, Nat.reduceAdd, Nat.reduceLT, Nat.reduceEqDiff, UInt8.reduceToNat, pe3, pf3, t5, t6, t7, t8, all_an, st_an hV8.cells1.2, stA_an, bd_c2M])
    refine uDoS_c H (World.putM hW8 _ _) (up hU) (Or.inr (Or.inr rfl)) (mov_2 hk15) ?_
    intro s9 V9 hW9 l9 hV9
    repeat (first | with_reducible (refine w_one H ?_; constructor) | simp only [rB, rP, rQ, boolA, intA, resultA, resA, reduceIte, reduceCtorEq, Nat.reduceAdd, Nat.reduceLT, Nat.reduceEqDiff, UInt8.reduceToNat, pe3, pf3, t5, t6, t7, t8, all_an, st_an hV9.cells1.2, stA_an, bd_c1M])
    refine uDoS_c H (World.putM hW9 _ _) (up (up hU)) (Or.inr (Or.inl rfl)) (mov_3 hk15) ?_
    intro s10 V10 hW10 l10 hV10
    repeat (first | with_reducible (refine w_one H ?_; constructor) | simp only [rB, rP, rQ, boolA, intA, resultA, resA, reduceIte, reduceCtorEq, Nat.reduceAdd, Nat.reduceLT, Nat.reduceEqDiff, UInt8.reduceToNat, pe3, pf3, t5, t6, t7, t8, all_an, st_an hV10.cells1.2, stA_an])
    refine w_loop_ind H (fun m t s' => ∃ j : Nat, m + j = i ∧ tg t 6 = .raw (.int .i64 (i : Int)) ∧ tg t 7 = .str S ∧ tg t 9 = .ptr u 0 ∧ tg t 10 = .raw (.int .i64 0) ∧ tg t 11 = .ptr s8.nx 0 ∧ tg t 12 = .ptr s9.nx 0 ∧ tg t 13 = .ptr s10.nx 0 ∧ tg t 14 = .raw (.int .i64 (j : Int)) ∧ World s' x (mM2 i S) ((s10.nx, .cells (anL 0 0 0 0 [] V10) 38 0) :: (s9.nx, .cells (anL 0 0 0 0 [] V9) 38 0) :: (s8.nx, .cells (anL 0 0 0 0 [] V8) 38 0) :: (u, AO.cells [.ptr x 0, W] 74 0) :: rowL W (movE i S))) (n := i)
      (by
        refine ⟨0, rfl, ?_, ?_, ?_, ?_, ?_, ?_, ?_, ?_, World.putM hW10 _ _⟩
        · simp only [rB, rP, rQ, boolA, intA, resultA, resA, reduceIte, reduceCtorEq, Nat.reduceAdd, Nat.reduceLT, Nat.reduceEqDiff, UInt8.reduceToNat, t6]
        · simp only [rB, rP, rQ, boolA, intA, resultA, resA, reduceIte, reduceCtorEq, Nat.reduceAdd, Nat.reduceLT, Nat.reduceEqDiff, UInt8.reduceToNat, t7]
        · simp only [rB, rP, rQ, boolA, intA, resultA, resA, reduceIte, reduceCtorEq, Nat.reduceAdd, Nat.reduceLT, Nat.reduceEqDiff, UInt8.reduceToNat]
        · simp only [rB, rP, rQ, boolA, intA, resultA, resA, reduceIte, reduceCtorEq, Nat.reduceAdd, Nat.reduceLT, Nat.reduceEqDiff, UInt8.reduceToNat]
        · simp only [rB, rP, rQ, boolA, intA, resultA, resA, reduceIte, reduceCtorEq, Nat.reduceAdd, Nat.reduceLT, Nat.reduceEqDiff, UInt8.reduceToNat]
        · simp only [rB, rP, rQ, boolA, intA, resultA, resA, reduceIte, reduceCtorEq, Nat.reduceAdd, Nat.reduceLT, Nat.reduceEqDiff, UInt8.reduceToNat]
        · simp only [rB, rP, rQ, boolA, intA, resultA, resA, reduceIte, reduceCtorEq, Nat.reduceAdd, Nat.reduceLT, Nat.reduceEqDiff, UInt8.reduceToNat]
        · simp only [rB, rP, rQ, boolA, intA, resultA, resA, reduceIte, reduceCtorEq, Nat.reduceAdd, Nat.reduceLT, Nat.reduceEqDiff, UInt8.reduceToNat]
          rfl) ?_
    rintro m t s' ih ⟨j, hmj, t6, t7, t9, t10, t11, t12, t13, t14, hW'⟩
    cases m with
    | zero =>
      have hij : j = i := by omega
      have g2 : decide ((j : Int) < (i : Int)) = false := by rw [decide_eq_false_iff_not]; omega
      repeat (first | with_reducible (refine w_one H ?_; constructor) | simp only [rB, rP, rQ, boolA, intA, resultA, resA, reduceIte, reduceCtorEq, Nat.reduceAdd, Nat.reduceLT, Nat.reduceEqDiff, UInt8.reduceToNat, pe3, pf3, t6, t7, t9, t10, t11, t12, t13, t14, b_lt, g2])
      refine num_cM H ?_
      have k3 := World.get hW' (List.mem_cons_self ..)
      have k2 := World.get hW' (up (List.mem_cons_self ..))
      have k1 := World.get hW' (up (up (List.mem_cons_self ..)))
      simp only at k1 k2 k3
      have nl := hV10.len
      have z1 : ((0 : Int) == 0) = true := rfl
      have z2 : ((1 : Int) == 1) = true := rfl
      have nk : (((List.range i).map fun i => [102, 97 + i]).length : Int) = (i : Int) := by simp
      have nk2 : IntKind.i64.wrap ((i : Int) + 2) = ((i + 2 : Nat) : Int) := by
        rw [show (i : Int) + 2 = ((i + 2 : Nat) : Int) from by simp]
        exact wrap_nat (by omega)
      have v10 := hV10.ids
      simp only [nk] at nl
      repeat (first | with_reducible (refine w_one H ?_; constructor) | simp only [rB, rP, rQ, boolA, intA, resultA, resA, reduceIte, reduceCtorEq, Nat.reduceAdd, Nat.reduceLT, Nat.reduceEqDiff, UInt8.reduceToNat, pe3, pf3, t6, t7, t9, t10, t11, t12, t13, t14, b_eqi, k1, k2, k3, z1, z2, an_g0M, an_g5M, fa_an0M, fa_an5M, ldO_an0M, ldO_an5M, ld_3, ld_36, nl, v10, beq_self_eq_true])
      refine copied_c H ?_
      repeat (first | with_reducible (refine w_one H ?_; constructor) | simp only [rB, rP, rQ, boolA, intA, resultA, resA, reduceIte, reduceCtorEq, Nat.reduceAdd, Nat.reduceLT, Nat.reduceEqDiff, UInt8.reduceToNat, pe3, pf3, t6, t7, t9, t10, t11, t12, t13, t14, b_eqi, z1, z2, bd_c1M])
      refine uDoS_c H hW' (up (up (up hU))) (Or.inl rfl) (mov_b hk15) ?_
      intro s11 V11 hW11 l11 hV11
      repeat (first | with_reducible (refine w_one H ?_; constructor) | simp only [rB, rP, rQ, boolA, intA, resultA, resA, reduceIte, reduceCtorEq, Nat.reduceAdd, Nat.reduceLT, Nat.reduceEqDiff, UInt8.reduceToNat, pe3, pf3, t6, t7, t9, t10, t11, t12, t13, t14, b_eqi, z1, z2, fn_an0M])
      obtain ⟨es, he1, he2⟩ := mov_e (s := S) hk15
      refine uEnts_c H hW11 (up (up (up hU))) he1 (by omega) ?_
      intro s12 V12 hW12 hV12
      have el := hV12.esvM.len
      have ei := hV12.esvM.ids
      rw [he2] at el
      repeat (first | with_reducible (refine w_one H ?_; constructor) | simp only [rB, rP, rQ, boolA, intA, resultA, resA, reduceIte, reduceCtorEq, Nat.reduceAdd, Nat.reduceLT, Nat.reduceEqDiff, UInt8.reduceToNat, pe3, pf3, t6, t7, t9, t10, t11, t12, t13, t14, b_eqi, b_plus, nk2, el, ei, z1, z2, beq_self_eq_true, Tryz.results7])
      exact hk _
    | succ m =>
      have hji : j < i := by omega
      have g2 : decide ((j : Int) < (i : Int)) = true := by rw [decide_eq_true_eq]; omega
      have e1 : IntKind.i64.wrap (97 + (j : Int)) = ((97 + j : Nat) : Int) := by
        rw [show (97 : Int) + (j : Int) = ((97 + j : Nat) : Int) from by simp]
        exact wrap_nat (by omega)
      have e2 : IntKind.i64.wrap ((j : Int) + 1) = ((j + 1 : Nat) : Int) := by
        rw [show (j : Int) + 1 = ((j + 1 : Nat) : Int) from by simp]
        exact wrap_nat (by omega)
      have e3 := wrap_b (n := 97 + j) (by omega)
      have g3 : (s'.alloc (.cells [.raw (.int .u8 ((97 + j : Nat) : Int))] 5 0)).h.get s'.nx = some (.cells (cellsOfStr [97 + j]) 5 0) := al_same
      have tx3 := tx_b (b := [97 + j]) (n := 1) (fun x hx => by rw [List.mem_singleton.1 hx]; omega) rfl g3
      have hW3 := (World.alloc hW' (.cells [.raw (.int .u8 ((97 + j : Nat) : Int))] 5 0)).sub (fun q hq => List.mem_cons_of_mem _ hq)
      generalize hs2 : s'.alloc (.cells [.raw (.int .u8 ((97 + j : Nat) : Int))] 5 0) = s2 at *
      have hi3 : idsIn s2 [s'.nx] = true := by simp [idsIn, g3]
      have f1 : binFast .add (.str [97, 47, 99, 47, 102]) (.str [97 + j]) = some (.str [97, 47, 99, 47, 102, 97 + j]) := b_add (by simp)
      repeat (first | with_reducible (refine w_one H ?_; constructor) | simp only [rB, rP, rQ, boolA, intA, resultA, resA, reduceIte, reduceCtorEq, Nat.reduceAdd, Nat.reduceLT, Nat.reduceEqDiff, UInt8.reduceToNat, pe3, pf3, t6, t7, t9, t10, t11, t12, t13, t14, b_lt, g2, b_plus, e1, o_cvb, i64_int, toB_int, e3, bs_u8, hs2, o_txo, tx3, putT_some hi3, f1, bd_c1M])
      refine uDoS_c H hW3 (up (up (up hU))) (Or.inl rfl) (mov_s hk15 hji) ?_
      intro s4 V4' hW4 l4 hV4
      have hW5 := World.putM hW4 (.cells (anL 0 0 0 0 [] nilS) 38 0) (.cells (anL 0 (S.length : Int) 2 420 [] V4') 38 0)
      have z0 : ((0 : Int) != 0) = false := rfl
      repeat (first | with_reducible (refine w_one H ?_; constructor) | simp only [rB, rP, rQ, boolA, intA, resultA, resA, reduceIte, reduceCtorEq, Nat.reduceAdd, Nat.reduceLT, Nat.reduceEqDiff, UInt8.reduceToNat, pe3, pf3, t6, t7, t9, t10, t11, t12, t13, t14, all_an, st_an hV4.cells1.2, stA_an, an_g0M, an_g1M, fa_an0M, fa_an1M, ldO_an0M, ldO_an1M, ld_3, len_str, b_nei, z0, bne_self_eq_false, b_plus, e2])
      refine ih m _ _ (Nat.lt_succ_self m) ?_
      refine ⟨j + 1, by omega, ?_, ?_, ?_, ?_, ?_, ?_, ?_, ?_, hW5.sub (fun q hq => List.mem_cons_of_mem _ hq)⟩
      · simp only [rB, rP, rQ, boolA, intA, resultA, resA, reduceIte, reduceCtorEq, Nat.reduceAdd, Nat.reduceLT, Nat.reduceEqDiff, UInt8.reduceToNat, t6]
      · simp only [rB, rP, rQ, boolA, intA, resultA, resA, reduceIte, reduceCtorEq, Nat.reduceAdd, Nat.reduceLT, Nat.reduceEqDiff, UInt8.reduceToNat, t7]
      · simp only [rB, rP, rQ, boolA, intA, resultA, resA, reduceIte, reduceCtorEq, Nat.reduceAdd, Nat.reduceLT, Nat.reduceEqDiff, UInt8.reduceToNat, t9]
      · simp only [rB, rP, rQ, boolA, intA, resultA, resA, reduceIte, reduceCtorEq, Nat.reduceAdd, Nat.reduceLT, Nat.reduceEqDiff, UInt8.reduceToNat, t10]
      · simp only [rB, rP, rQ, boolA, intA, resultA, resA, reduceIte, reduceCtorEq, Nat.reduceAdd, Nat.reduceLT, Nat.reduceEqDiff, UInt8.reduceToNat, t11]
      · simp only [rB, rP, rQ, boolA, intA, resultA, resA, reduceIte, reduceCtorEq, Nat.reduceAdd, Nat.reduceLT, Nat.reduceEqDiff, UInt8.reduceToNat, t12]
      · simp only [rB, rP, rQ, boolA, intA, resultA, resA, reduceIte, reduceCtorEq, Nat.reduceAdd, Nat.reduceLT, Nat.reduceEqDiff, UInt8.reduceToNat, t13]
      · simp only [rB, rP, rQ, boolA, intA, resultA, resA, reduceIte, reduceCtorEq, Nat.reduceAdd, Nat.reduceLT, Nat.reduceEqDiff, UInt8.reduceToNat]
  | succ m =>
    have g1 : decide ((i : Int) < (k : Int)) = true := by rw [decide_eq_true_eq]; omega
    have e1 : IntKind.i64.wrap (97 + (i : Int)) = ((97 + i : Nat) : Int) := by
      rw [show (97 : Int) + (i : Int) = ((97 + i : Nat) : Int) from by simp]
      exact wrap_nat (by omega)
    have e2 : IntKind.i64.wrap ((i : Int) + 1) = ((i + 1 : Nat) : Int) := by
      rw [show (i : Int) + 1 = ((i + 1 : Nat) : Int) from by simp]
      exact wrap_nat (by omega)
    have e3 := wrap_b (n := 97 + i) (by omega)
    have g3 : (s'.alloc (.cells [.raw (.int .u8 ((97 + i : Nat) : Int))] 5 0)).h.get s'.nx = some (.cells (cellsOfStr [97 + i]) 5 0) := al_same
    have tx3 := tx_b (b := [97 + i]) (n := 1) (fun x hx => by rw [List.mem_singleton.1 hx]; omega) rfl g3
    have B3 : Below0 (s'.alloc (.cells [.raw (.int .u8 ((97 + i : Nat) : Int))] 5 0)) := below_al B' _
    have V3 := hV.ext B' (Ext.alloc s' (.cells [.raw (.int .u8 ((97 + i : Nat) : Int))] 5 0))
    generalize hs2 : s'.alloc (.cells [.raw (.int .u8 ((97 + i : Nat) : Int))] 5 0) = s2 at *
    have hi3 : idsIn s2 [s'.nx] = true := by simp [idsIn, g3]
    have f1 : binFast .add (.str [97, 47, 102]) (.str [97 + i]) = some (.str [97, 47, 102, 97 + i]) := b_add (by simp)
    have bs := bs_agE (s := s2) (e := ([97, 47, 102, 97 + i], 2, 420, List.replicate n 0))
    have hq4 : (s2.alloc (.cells (celE ([97, 47, 102, 97 + i], 2, 420, List.replicate n 0)) 34 0)).h.get s2.nx = some (.cells (flatE [([97, 47, 102, 97 + i], 2, 420, List.replicate n 0)]) 34 0) := al_same
    have B4 : Below0 (s2.alloc (.cells (celE ([97, 47, 102, 97 + i], 2, 420, List.replicate n 0)) 34 0)) := below_al B3 _
    have V4 := V3.ext B3 (Ext.alloc s2 (.cells (celE ([97, 47, 102, 97 + i], 2, 420, List.replicate n 0)) 34 0))
    obtain ⟨V5, s5, b1, b2, b3, b4, b5, b6, b7⟩ := er_app (b := 0) (Nat.zero_le _) B4 V4 (by simp [files_len]; omega) hq4
    repeat (first | with_reducible (refine w_one H ?_; constructor) | simp only [rB, rP, rQ, boolA, intA, resultA, resA, reduceIte, reduceCtorEq, Nat.reduceAdd, Nat.reduceLT, Nat.reduceEqDiff, UInt8.reduceToNat, pe3, pf3, t5, t6, t7, t8, b_lt, g1, b_plus, e1, o_cvb, i64_int, toB_int, e3, bs_u8, hs2, o_txo, tx3, putT_some hi3, f1, bd_e4, bs, b1, e2])
    refine ih m _ _ (Nat.lt_succ_self m) ⟨i + 1, V5, by omega, by simp only [rB, rP, rQ, boolA, intA, resultA, resA, reduceIte, reduceCtorEq, Nat.reduceAdd, Nat.reduceLT, Nat.reduceEqDiff, UInt8.reduceToNat], by simp only [rB, rP, rQ, boolA, intA, resultA, resA, reduceIte, reduceCtorEq, Nat.reduceAdd, Nat.reduceLT, Nat.reduceEqDiff, UInt8.reduceToNat, t6], by simp only [rB, rP, rQ, boolA, intA, resultA, resA, reduceIte, reduceCtorEq, Nat.reduceAdd, Nat.reduceLT, Nat.reduceEqDiff, UInt8.reduceToNat, t7], by simp only [rB, rP, rQ, boolA, intA, resultA, resA, reduceIte, reduceCtorEq, Nat.reduceAdd, Nat.reduceLT, Nat.reduceEqDiff, UInt8.reduceToNat], b4, ?_⟩
    rw [filesM_snoc, ← List.append_assoc, Nat.zero_add]
    exact b2
end Go.AX
namespace Go.AX
open Go.Proofs Go.RowKit
set_option maxRecDepth 1000000
set_option linter.unusedSimpArgs false
set_option linter.unusedVariables false
theorem movesWalk (a0 a1 : Int) (w : Go.World) : Calls Tryz.prog 7 #[.int .i64 a0, .int .i64 a1] w fun e w' => e = .returned (.bool true) ∧ Below w.heap.size w w' := by
  refine sem_walk (args := [.raw (.int .i64 a0), .raw (.int .i64 a1)]) (Args := [.int .i64 a0, .int .i64 a1]) (VRels.cons (by simp [VRel]) (VRels.cons (by simp [VRel]) VRels.nil)) ?_ w
  obtain ⟨k, hk, ek⟩ := and_lt (x := a0) (m := 15) (by decide)
  obtain ⟨r, hr, er⟩ := rem_lt (z := a1) (m := 1000) (by decide)
  have er : (IntKind.u64.wrap a1).tmod 1000 = (r : Int) := er
  exact moves_c ok3 a0 a1 ek (by omega) er hr (fun _ => rfl)
end Go.AX
