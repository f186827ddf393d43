import Derived.Test.YthkkdhjekjoalaaGreatDoorE1
set_option linter.unusedVariables false
set_option linter.unusedSimpArgs false
set_option linter.defProp false
-- handed
namespace Go.AX
open Go.Proofs Go.RowKit
set_option maxRecDepth 1000000
set_option maxHeartbeats 400000000
set_option linter.unusedSimpArgs false
set_option linter.unusedVariables false

/-! ### Writes, plain -/
def wM (d : List Nat) : Md := ⟨[⟨1, 493, [], [([119], 1)], none, [], 0⟩, ⟨2, 420, d, [], some 0, [119], 0⟩], 0, 0, [none, none, none, none, none, none, none, none], 1⟩
theorem w_make : ask M0 (mkC 5 [119]) (st 0) (fun _ _ => true) = true := by kernel_rfl
theorem w_made {K : Md → Bool} : ask M0 (mkC 5 [119]) (st 0) (fun _ M => K M) = K (wM []) := by kernel_rfl
theorem w_to {d : List Nat} {op off num : Int} {s : List Nat} (h : op = 1 ∨ op = 2 ∨ op = 8) : prM (wM d) ⟨op, [119], [], 0, off, num, 0, s⟩ = doM (wM d) ⟨op, [47, 119], [], 0, off, num, 0, s⟩ := by
  rcases h with rfl | rfl | rfl <;> kernel_rfl
theorem w_find {d : List Nat} {b : Bool} : findT (wM d).T 0 0 ([47, 119]) b = some (.inl 1) := by cases b <;> kernel_rfl
theorem w_at {d : List Nat} : (wM d).T 1 = some ⟨2, 420, d, [], some 0, [119], 0⟩ := (rfl)
theorem w_write {d d' s : List Nat} {off : Int} (h1 : s.length ≤ 1000) (h2 : writeT d off s = .inl d') (h3 : d'.length ≤ 1024) : prM (wM d) (wrC [119] off s) = some (⟨0, (s.length : Int), 0, 0, [], []⟩, wM d') := by
  rw [show wrC [119] off s = ⟨8, [119], [], 0, off, 0, 0, s⟩ from rfl, w_to (by simp)]
  have : do8 (wM d) ⟨8, [47, 119], [], 0, off, 0, 0, s⟩ = some (.inr (⟨0, (s.length : Int), 0, 0, [], []⟩, wM d')) := by
    have hf : findT (wM d).T (wM d).root (wM d).cwd ([47, 119]) true = some (.inl 1) := w_find
    unfold do8
    simp only [Nat.ble_eq.mpr (by omega : s.length ≤ 1000000), cond_true, hf, w_at, h2, Nat.ble_eq.mpr (by omega : d'.length ≤ 40000)]
    rfl
  show (match do8 (wM d) ⟨8, [47, 119], [], 0, off, 0, 0, s⟩ with | none => none | some r => some (outM (wM d) r)) = _
  rw [this]
  rfl
theorem w_big {d s : List Nat} {off : Int} (h1 : s.length ≤ 1000) (h2 : writeT d off s = .inr 9) : prM (wM d) (wrC [119] off s) = some (⟨9, 0, 0, 0, [], []⟩, wM d) := by
  rw [show wrC [119] off s = ⟨8, [119], [], 0, off, 0, 0, s⟩ from rfl, w_to (by simp)]
  have : do8 (wM d) ⟨8, [47, 119], [], 0, off, 0, 0, s⟩ = some (.inl 9) := by
    have hf : findT (wM d).T (wM d).root (wM d).cwd ([47, 119]) true = some (.inl 1) := w_find
    unfold do8
    simp only [Nat.ble_eq.mpr (by omega : s.length ≤ 1000000), cond_true, hf, w_at, h2]
    rfl
  show (match do8 (wM d) ⟨8, [47, 119], [], 0, off, 0, 0, s⟩ with | none => none | some r => some (outM (wM d) r)) = _
  rw [this]
  rfl
theorem w_read {d x : List Nat} {off num : Int} (h : readT d off num = .inl x) : prM (wM d) ⟨2, [119], [], 0, off, num, 0, []⟩ = some (⟨0, (x.length : Int), 0, 0, x, []⟩, wM d) := by
  rw [w_to (by simp)]
  have : do2 (wM d) ⟨2, [47, 119], [], 0, off, num, 0, []⟩ = some (.inr (⟨0, (x.length : Int), 0, 0, x, []⟩, wM d)) := by
    have hf : findT (wM d).T (wM d).root (wM d).cwd ([47, 119]) true = some (.inl 1) := w_find
    unfold do2
    simp only [hf, w_at, h]
    rfl
  show (match do2 (wM d) ⟨2, [47, 119], [], 0, off, num, 0, []⟩ with | none => none | some r => some (outM (wM d) r)) = _
  rw [this]
  rfl
theorem w_stat {d : List Nat} : prM (wM d) (qC 1 [119]) = some (⟨0, (d.length : Int), 2, 420, [], []⟩, wM d) := by
  rw [show qC 1 [119] = ⟨1, [119], [], 0, 0, 0, 0, []⟩ from rfl, w_to (by simp)]
  have : do1 (wM d) ⟨1, [47, 119], [], 0, 0, 0, 0, []⟩ = some (.inr (⟨0, (d.length : Int), 2, 420, [], []⟩, wM d)) := by
    have hf : findT (wM d).T (wM d).root (wM d).cwd ([47, 119]) false = some (.inl 1) := w_find
    unfold do1
    simp only [hf, w_at, statT]
    rfl
  show (match do1 (wM d) ⟨1, [47, 119], [], 0, 0, 0, 0, []⟩ with | none => none | some r => some (outM (wM d) r)) = _
  rw [this]
  rfl

/-- What a file holds against what was wanted. -/
structure WInv (d W : List Nat) : Prop where
  lw : W.length = 1024
  ld : d.length ≤ 1024
  eq : ∀ i, i < d.length → d[i]? = W[i]?
  zr : ∀ i, d.length ≤ i → i < 1024 → W[i]? = some 0
theorem winv_0 : WInv [] (List.replicate 1024 0) := ⟨by simp, by simp, fun i h => by simp at h, fun i _ h => by rw [List.getElem?_replicate, if_pos h]⟩
theorem WInv.take {d W : List Nat} (h : WInv d W) : W.take d.length = d := by
  refine List.ext_getElem? fun i => ?_
  rw [List.getElem?_take]
  by_cases hi : i < d.length
  · rw [if_pos hi, h.eq i hi]
  · rw [if_neg hi, List.getElem?_eq_none (by omega)]
theorem repB_get {n i : Nat} (h : i < n) : (repB [0] n)[i]? = some 0 := by
  induction n generalizing i with
  | zero => omega
  | succ n ih =>
    show ([0] ++ repB [0] n)[i]? = some 0
    cases i with
    | zero => rfl
    | succ i => simpa using ih (by omega)
theorem sizedL_get {d : List Nat} {n i : Nat} (h : i < n) : (sizedL d n)[i]? = if i < d.length then d[i]? else some 0 := by
  unfold sizedL
  cases hb : Nat.ble n d.length with
  | true =>
    have := Nat.le_of_ble_eq_true hb
    rw [cond_true, List.getElem?_take, if_pos h, if_pos (by omega)]
  | false =>
    have : ¬ n ≤ d.length := fun hle => by rw [Nat.ble_eq.mpr hle] at hb; cases hb
    rw [cond_false]
    by_cases hi : i < d.length
    · rw [if_pos hi, List.getElem?_append_left hi]
    · rw [if_neg hi, List.getElem?_append_right (by omega), repB_get (by omega)]
def newD (d : List Nat) (a : Nat) (s : List Nat) : List Nat := sizedL d a ++ s ++ d.drop (min d.length (a + s.length))
def newW (W : List Nat) (a : Nat) (s : List Nat) : List Nat := W.take a ++ s ++ W.drop (a + s.length)
theorem newD_len {d s : List Nat} {a : Nat} : (newD d a s).length = max d.length (a + s.length) := by
  unfold newD
  rw [List.length_append, List.length_append, sizedL_len, List.length_drop]
  omega
theorem newW_get {W s : List Nat} {a i : Nat} (h : a + s.length ≤ W.length) : (newW W a s)[i]? = if i < a then W[i]? else if i < a + s.length then s[i - a]? else W[i]? := by
  unfold newW
  by_cases h1 : i < a
  · rw [if_pos h1, List.append_assoc, List.getElem?_append_left (by simp; omega), List.getElem?_take, if_pos h1]
  · rw [if_neg h1]
    by_cases h2 : i < a + s.length
    · rw [if_pos h2, List.getElem?_append_left (by simp; omega), List.getElem?_append_right (by simp; omega)]
      congr 1
      simp
      omega
    · rw [if_neg h2, List.getElem?_append_right (by simp; omega), List.getElem?_drop]
      congr 1
      simp
      omega
theorem newD_get {d s : List Nat} {a i : Nat} : (newD d a s)[i]? = if i < a then (if i < d.length then d[i]? else some 0) else if i < a + s.length then s[i - a]? else d[i]? := by
  unfold newD
  by_cases h1 : i < a
  · rw [if_pos h1, List.append_assoc, List.getElem?_append_left (by rw [sizedL_len]; exact h1), sizedL_get h1]
  · rw [if_neg h1]
    by_cases h2 : i < a + s.length
    · rw [if_pos h2, List.getElem?_append_left (by rw [List.length_append, sizedL_len]; exact h2), List.getElem?_append_right (by rw [sizedL_len]; omega), sizedL_len]
    · rw [if_neg h2, List.getElem?_append_right (by rw [List.length_append, sizedL_len]; omega), List.getElem?_drop, List.length_append, sizedL_len]
      by_cases h3 : a + s.length ≤ d.length
      · congr 1
        omega
      · rw [List.getElem?_eq_none (by omega), List.getElem?_eq_none (by omega)]
theorem winv_write {d W s : List Nat} {a : Nat} (h : WInv d W) (ha : a + s.length ≤ 1024) : WInv (newD d a s) (newW W a s) := by
  have hl : (newD d a s).length = max d.length (a + s.length) := newD_len
  have hW : a + s.length ≤ W.length := by rw [h.lw]; exact ha
  refine ⟨?_, ?_, ?_, ?_⟩
  · unfold newW
    simp only [List.length_append, List.length_take, List.length_drop, h.lw]
    omega
  · have := h.ld
    rw [hl]
    omega
  · intro i hi
    rw [newD_get, newW_get hW]
    by_cases h1 : i < a
    · rw [if_pos h1, if_pos h1]
      by_cases h2 : i < d.length
      · rw [if_pos h2]
        exact h.eq i h2
      · rw [if_neg h2, h.zr i (by omega) (by omega)]
    · rw [if_neg h1, if_neg h1]
      by_cases h2 : i < a + s.length
      · rw [if_pos h2, if_pos h2]
      · rw [if_neg h2, if_neg h2]
        rw [hl] at hi
        exact h.eq i (by omega)
  · intro i h1 h2
    rw [hl] at h1
    rw [newW_get hW, if_neg (by omega), if_neg (by omega)]
    exact h.zr i (by omega) h2
theorem write_ok {d s : List Nat} {a : Nat} (h0 : 0 < s.length) (h1 : s.length ≤ 100) (ha : a + s.length ≤ 1024) : writeT d (a : Int) s = .inl (newD d a s) := by
  unfold writeT
  have e1 : (decide ((a : Int) < 0) || Nat.blt 512 s.length) = false := by
    rw [Bool.or_eq_false_iff, decide_eq_false_iff_not]
    refine ⟨by omega, ?_⟩
    cases hb : Nat.blt 512 s.length with
    | false => rfl
    | true => have := Nat.blt_eq.mp hb; omega
  rw [e1, cond_false, decide_eq_false (by omega), cond_false, Nat.blt_eq.mpr h0, cond_true]
  rfl
theorem write_big {d s : List Nat} {a : Nat} (h1 : s.length ≤ 100) (ha : 1024 < a + s.length) : writeT d (a : Int) s = .inr 9 := by
  unfold writeT
  have e1 : (decide ((a : Int) < 0) || Nat.blt 512 s.length) = false := by
    rw [Bool.or_eq_false_iff, decide_eq_false_iff_not]
    refine ⟨by omega, ?_⟩
    cases hb : Nat.blt 512 s.length with
    | false => rfl
    | true => have := Nat.blt_eq.mp hb; omega
  rw [e1, cond_false, decide_eq_true (by omega), cond_true]
theorem read_lo {d : List Nat} : readT d 0 512 = .inl (d.take 512) := by
  unfold readT
  have : (decide ((0 : Int) < 0) || (decide ((512 : Int) < 0) || decide ((512 : Int) > 512))) = false := by decide
  rw [this, cond_false]
  congr 1
  simp only [Int.toNat_zero, Nat.zero_min, List.drop_zero, Nat.sub_zero]
  show d.take (min 512 d.length) = d.take 512
  rw [Nat.min_def]
  split
  · rfl
  · rw [List.take_of_length_le (Nat.le_refl _), List.take_of_length_le (by omega)]
theorem read_hi {d : List Nat} (h : d.length ≤ 1024) : readT d 512 512 = .inl (d.drop 512) := by
  unfold readT
  have : (decide ((512 : Int) < 0) || (decide ((512 : Int) < 0) || decide ((512 : Int) > 512))) = false := by decide
  rw [this, cond_false]
  congr 1
  show (d.drop (min 512 d.length)).take (min 512 (d.length - min 512 d.length)) = d.drop 512
  by_cases hd : 512 ≤ d.length
  · have e : min 512 d.length = 512 := Nat.min_eq_left hd
    rw [e, List.take_of_length_le (by simp; omega)]
  · have e : min 512 d.length = d.length := Nat.min_eq_right (by omega)
    rw [e, List.drop_of_length_le (Nat.le_refl _), List.drop_of_length_le (l := d) (i := 512) (by omega)]
    simp
theorem newW_step {W s : List Nat} {a k x : Nat} (hk : k < s.length) (hx : s[k]? = some x) (ha : a + s.length ≤ W.length) : (newW W a (s.take k)).take (a + k) ++ [x] ++ (newW W a (s.take k)).drop (a + k + 1) = newW W a (s.take (k + 1)) := by
  have l1 : (s.take k).length = k := by simp; omega
  have l2 : (s.take (k + 1)).length = k + 1 := by simp; omega
  have h1 : newW W a (s.take k) = (W.take a ++ s.take k) ++ W.drop (a + k) := by unfold newW; rw [l1]
  have h2 : newW W a (s.take (k + 1)) = (W.take a ++ s.take (k + 1)) ++ W.drop (a + (k + 1)) := by unfold newW; rw [l2]
  have l3 : (W.take a ++ s.take k).length = a + k := by simp; omega
  rw [h1, h2, List.take_append_of_le_length (by omega), List.take_of_length_le (by omega), List.drop_append, l3, List.drop_of_length_le (l := W.take a ++ s.take k) (by omega), List.nil_append, List.drop_drop]
  have e3 : a + k + (a + k + 1 - (a + k)) = a + (k + 1) := by omega
  rw [e3]
  have e4 : s.take (k + 1) = s.take k ++ [x] := by
    rw [List.take_add_one, hx]
    rfl
  rw [e4, List.append_assoc (W.take a)]
end Go.AX
-- handed
namespace Go.AX
open Go.Proofs Go.RowKit
set_option maxRecDepth 1000000
set_option maxHeartbeats 40000000
set_option linter.unusedSimpArgs false
set_option linter.unusedVariables false

theorem w_made0 : ∃ a, prM M0 (mkC 5 [119]) = some (a, wM []) ∧ a.status = 0 := ⟨an0, by kernel_rfl, rfl⟩
theorem mk_sl' {s : St} {n : Nat} (h : n ≤ 100000) : makeSliceA TE s 65 (.raw (.int .i64 (n : Int))) (.raw (.int .i64 (n : Int))) = some (.slice s.nx 0 n 0 n true, s.alloc (.cells (cellsOfStr (List.replicate n 0)) 5 0)) := by
  have e : makeSliceA TE s 65 (.raw (.int .i64 (n : Int))) (.raw (.int .i64 (n : Int))) = (bif (Nat.ble n n && Nat.ble (n * 1) 1048576 && Nat.ble n 1048576) && true then some (.slice s.nx 0 n 0 n true, s.alloc (.cells (repL [.raw (.int .u8 0)] n) 5 0)) else none) := by kernel_rfl
  rw [e, Nat.mul_one, Nat.ble_eq.mpr (Nat.le_refl n), Nat.ble_eq.mpr (by omega : n ≤ 1048576), repL_b]
  rfl
theorem mk_1024 {s : St} : makeSliceA TE s 65 (.raw (.int .i64 1024)) (.raw (.int .i64 1024)) = some (.slice s.nx 0 1024 0 1024 true, s.alloc (.cells (cellsOfStr (List.replicate 1024 0)) 5 0)) := mk_sl' (n := 1024) (by decide)
theorem ix_s {b : List Nat} {i x : Nat} (h : b[i]? = some x) : indexA TE 9 (.str b) (.raw (.int .i64 (i : Int))) = some (.raw (.int .u8 (x : Int))) := by
  rw [ix_str]
  show (match b[i]? with | some c => some (AV.raw (.int .u8 (.ofNat c))) | none => none) = _
  rw [h]
  rfl
theorem so_b {id off len ci cap : Nat} {ex : Bool} {lo hi : Option AV} : sliceOpA TE 65 (.slice id off len ci cap ex) lo hi none = match sliceBoundsA len cap lo hi with
    | some (l, h) => bif Nat.blt l cap || Nat.beq l 0 then some (.slice id (off + l * 1) (h - l) (ci + l) (cap - l) ex) else bif ex then some (.slice id off 0 ci 0 true) else some (.esl id off ci l 1)
    | none => none := by
  have h : sliceOpA TE 65 (.slice id off len ci cap ex) lo hi none = (match (some { desc := .int .u8, size := 1, bytes := 1, zero := some (.int .u8 0) } : Option TI), sliceBoundsA len cap lo hi with
      | some el, some (l, h) =>
        bif Nat.blt l cap || Nat.beq l 0 then some (.slice id (off + l * el.size) (h - l) (ci + l) (cap - l) ex)
        else bif ex then some (.slice id off 0 ci 0 true)
        else some (.esl id off ci l el.size)
      | _, _ => none) := by kernel_rfl
  rw [h]
  cases sliceBoundsA len cap lo hi with
  | none => rfl
  | some x => rfl
theorem sl_b {q n : Nat} (h : n ≤ 1024) : sliceOpA TE 65 (.slice q 0 1024 0 1024 true) none (some (.raw (.int .i64 (n : Int)))) none = some (.slice q 0 n 0 1024 true) := by
  rw [so_b, sb_hi (i := n) no_cast h]
  rfl
theorem tx_bt {s : St} {q t z n c : Nat} {b : List Nat} (hb : ∀ x ∈ b, x < 256) (hn : n ≤ b.length) (h : s.h.get q = some (.cells (cellsOfStr b) t z)) : textA TE s 65 9 (.slice q 0 n 0 c true) = some (.str (b.take n), [q]) := by
  have e : textA TE s 65 9 (.slice q 0 n 0 c true) = (match bytesOfA s q 0 n with | some b => some (.str b, [q]) | none => none) := by kernel_rfl
  rw [e]
  have : bytesOfA s q 0 n = some (b.take n) := by
    unfold bytesOfA getCells
    rw [h]
    simp only
    have hc : cutL 0 n (cellsOfStr b) = some (cellsOfStr (b.take n)) := by
      rw [cutL_eq (by rw [cells_len]; omega)]
      simp [cellsOfStr, List.map_take]
    rw [hc]
    exact bytesL_of (fun x hx => hb x (List.mem_of_mem_take hx))
  rw [this]
theorem newW_lt {W s : List Nat} {a : Nat} (hW : ∀ x ∈ W, x < 256) (hs : ∀ x ∈ s, x < 256) : ∀ x ∈ newW W a s, x < 256 := by
  intro x hx
  unfold newW at hx
  simp only [List.mem_append] at hx
  rcases hx with (hx | hx) | hx
  · exact hW x (List.mem_of_mem_take hx)
  · exact hs x hx
  · exact hW x (List.mem_of_mem_drop hx)
theorem newW_len {W s : List Nat} {a : Nat} (h : a + s.length ≤ W.length) : (newW W a s).length = W.length := by
  unfold newW
  simp only [List.length_append, List.length_take, List.length_drop]
  omega
def someT : List Nat := [115, 111, 109, 101, 32, 116, 101, 120, 116]
theorem writes_c {PV : AV} {zs : List Int} {L0 : List (Nat × AO)} (hP : Pks PV zs L0) {tx : List Nat} (hb : ∀ c ∈ tx, c < 256) {s : St} (hW : WL s M0 L0) :
    (sem Tryz.prog).call 33 [.fn 62 [.ptr 14 0], PV, .str tx] s (fun v _ => isTrue v) (fun _ _ => false) = true := by
  have H := ok4
  have pl := hP.len
  have pi := hP.ids
  have m3 : (1100 : Int) ≠ 0 := by decide
  refine w_call H 100 fn_33 rfl rfl ?_
  refine w_seq H ?_
  refine w_region H ?_
  simp only [rB, rP, rQ, boolA, intA, resultA, resA, reduceIte, reduceCtorEq, Nat.reduceAdd, Nat.reduceLT, Nat.reduceEqDiff, UInt8.reduceToNat, pe4, pf4, b_eqi, b_nei, b_lt, b_le, b_gt, b_ge, fn_an0, fn_an1, fn_an4, fn_an5, bc_01, bc_012, bc_015, bc_0145, bc_0147, bc_016, bc_0167, bc_017, bc_03, bc_035, bc_0347, beq_self_eq_true, bne_self_eq_false, Int.reduceBEq, Int.reduceBNe, Int.reduceLT, Int.reduceLE, Int.reduceGT, decide_true, decide_false, eqB_self, la_cons, la_nil, b_plus]
  refine w_seq H ?_
  refine w_via (fun ex a' s' => ∃ t x, ex = .normal ∧ a' = ⟨t, 100, []⟩ ∧ s' = s ∧ tg t 0 = .fn 62 [.ptr 14 0] ∧ tg t 1 = PV ∧ tg t 2 = .str x ∧ 0 < x.length ∧ x.length ≤ 100 ∧ ∀ c ∈ x, c < 256) ?_ ?_
  · intro k' hk'
    by_cases he : tx = []
    · subst he
      repeat (first | with_reducible (refine w_one H ?_; constructor) | simp only [rB, rP, rQ, boolA, intA, resultA, resA, reduceIte, reduceCtorEq, Nat.reduceAdd, Nat.reduceLT, Nat.reduceEqDiff, UInt8.reduceToNat, pe4, pf4, b_eqi, b_nei, b_lt, b_le, b_gt, b_ge, fn_an0, fn_an1, fn_an4, fn_an5, bc_01, bc_012, bc_015, bc_0145, bc_0147, bc_016, bc_0167, bc_017, bc_03, bc_035, bc_0347, beq_self_eq_true, bne_self_eq_false, Int.reduceBEq, Int.reduceBNe, Int.reduceLT, Int.reduceLE, Int.reduceGT, decide_true, decide_false, eqB_self, la_cons, la_nil, b_plus, len_str])
      exact hk' _ _ _ ⟨_, someT, rfl, rfl, rfl, by simp only [rB, rP, rQ, boolA, intA, resultA, resA, reduceIte, reduceCtorEq, Nat.reduceAdd, Nat.reduceLT, Nat.reduceEqDiff, UInt8.reduceToNat], by simp only [rB, rP, rQ, boolA, intA, resultA, resA, reduceIte, reduceCtorEq, Nat.reduceAdd, Nat.reduceLT, Nat.reduceEqDiff, UInt8.reduceToNat], by simp only [rB, rP, rQ, boolA, intA, resultA, resA, reduceIte, reduceCtorEq, Nat.reduceAdd, Nat.reduceLT, Nat.reduceEqDiff, UInt8.reduceToNat]; rfl, by decide, by decide, by decide⟩
    · have e0 := eqB_of he
      by_cases hl : tx.length > 100
      · have g0 : decide ((tx.length : Int) > 100) = true := by rw [decide_eq_true_eq]; omega
        repeat (first | with_reducible (refine w_one H ?_; constructor) | simp only [rB, rP, rQ, boolA, intA, resultA, resA, reduceIte, reduceCtorEq, Nat.reduceAdd, Nat.reduceLT, Nat.reduceEqDiff, UInt8.reduceToNat, pe4, pf4, b_eqi, b_nei, b_lt, b_le, b_gt, b_ge, fn_an0, fn_an1, fn_an4, fn_an5, bc_01, bc_012, bc_015, bc_0145, bc_0147, bc_016, bc_0167, bc_017, bc_03, bc_035, bc_0347, beq_self_eq_true, bne_self_eq_false, Int.reduceBEq, Int.reduceBNe, Int.reduceLT, Int.reduceLE, Int.reduceGT, decide_true, decide_false, eqB_self, la_cons, la_nil, b_plus, len_str, e0, g0])
        exact hk' _ _ _ ⟨_, someT, rfl, rfl, rfl, by simp only [rB, rP, rQ, boolA, intA, resultA, resA, reduceIte, reduceCtorEq, Nat.reduceAdd, Nat.reduceLT, Nat.reduceEqDiff, UInt8.reduceToNat], by simp only [rB, rP, rQ, boolA, intA, resultA, resA, reduceIte, reduceCtorEq, Nat.reduceAdd, Nat.reduceLT, Nat.reduceEqDiff, UInt8.reduceToNat], by simp only [rB, rP, rQ, boolA, intA, resultA, resA, reduceIte, reduceCtorEq, Nat.reduceAdd, Nat.reduceLT, Nat.reduceEqDiff, UInt8.reduceToNat]; rfl, by decide, by decide, by decide⟩
      · have g0 : decide ((tx.length : Int) > 100) = false := by rw [decide_eq_false_iff_not]; omega
        repeat (first | with_reducible (refine w_one H ?_; constructor) | simp only [rB, rP, rQ, boolA, intA, resultA, resA, reduceIte, reduceCtorEq, Nat.reduceAdd, Nat.reduceLT, Nat.reduceEqDiff, UInt8.reduceToNat, pe4, pf4, b_eqi, b_nei, b_lt, b_le, b_gt, b_ge, fn_an0, fn_an1, fn_an4, fn_an5, bc_01, bc_012, bc_015, bc_0145, bc_0147, bc_016, bc_0167, bc_017, bc_03, bc_035, bc_0347, beq_self_eq_true, bne_self_eq_false, Int.reduceBEq, Int.reduceBNe, Int.reduceLT, Int.reduceLE, Int.reduceGT, decide_true, decide_false, eqB_self, la_cons, la_nil, b_plus, len_str, e0, g0])
        exact hk' _ _ _ ⟨_, tx, rfl, rfl, rfl, by simp only [rB, rP, rQ, boolA, intA, resultA, resA, reduceIte, reduceCtorEq, Nat.reduceAdd, Nat.reduceLT, Nat.reduceEqDiff, UInt8.reduceToNat], by simp only [rB, rP, rQ, boolA, intA, resultA, resA, reduceIte, reduceCtorEq, Nat.reduceAdd, Nat.reduceLT, Nat.reduceEqDiff, UInt8.reduceToNat], by simp only [rB, rP, rQ, boolA, intA, resultA, resA, reduceIte, reduceCtorEq, Nat.reduceAdd, Nat.reduceLT, Nat.reduceEqDiff, UInt8.reduceToNat], List.length_pos_iff.mpr he, by omega, hb⟩
  rintro ex a' s' ⟨t, x, rfl, rfl, rfl, t0, t1, t2, hx0, hx1, hxb⟩
  clear hb tx
  obtain ⟨am, em, pm⟩ := w_made0
  repeat (first | with_reducible (refine w_one H ?_; constructor) | simp only [rB, rP, rQ, boolA, intA, resultA, resA, reduceIte, reduceCtorEq, Nat.reduceAdd, Nat.reduceLT, Nat.reduceEqDiff, UInt8.reduceToNat, pe4, pf4, b_eqi, b_nei, b_lt, b_le, b_gt, b_ge, fn_an0, fn_an1, fn_an4, fn_an5, bc_01, bc_012, bc_015, bc_0145, bc_0147, bc_016, bc_0167, bc_017, bc_03, bc_035, bc_0347, beq_self_eq_true, bne_self_eq_false, Int.reduceBEq, Int.reduceBNe, Int.reduceLT, Int.reduceLE, Int.reduceGT, decide_true, decide_false, eqB_self, la_cons, la_nil, b_plus, t0, t1, t2])
  refine lmake_c ok3 hW em pm ?_
  intro s1 hW hl1
  repeat (first | with_reducible (refine w_one H ?_; constructor) | simp only [rB, rP, rQ, boolA, intA, resultA, resA, reduceIte, reduceCtorEq, Nat.reduceAdd, Nat.reduceLT, Nat.reduceEqDiff, UInt8.reduceToNat, pe4, pf4, b_eqi, b_nei, b_lt, b_le, b_gt, b_ge, fn_an0, fn_an1, fn_an4, fn_an5, bc_01, bc_012, bc_015, bc_0145, bc_0147, bc_016, bc_0167, bc_017, bc_03, bc_035, bc_0347, beq_self_eq_true, bne_self_eq_false, Int.reduceBEq, Int.reduceBNe, Int.reduceLT, Int.reduceLE, Int.reduceGT, decide_true, decide_false, eqB_self, la_cons, la_nil, b_plus, t0, t1, t2, mk_1024])
  have hC := hW.base
  have hW1 := hW.alloc (.cells (cellsOfStr (List.replicate 1024 0)) 5 0)
  refine w_loop_ind H (fun n t s' => ∃ (i : Nat) (d W : List Nat), n + i = 9 ∧ i ≤ zs.length ∧ WInv d W ∧ (∀ c ∈ W, c < 256) ∧ tg t 0 = .fn 62 [.ptr 14 0] ∧ tg t 1 = PV ∧ tg t 2 = .str x ∧ tg t 7 = .raw (.bool true) ∧ tg t 8 = .slice s1.nx 0 1024 0 1024 true ∧ tg t 9 = .raw (.int .i64 (d.length : Int)) ∧ tg t 10 = .raw (.int .i64 (i : Int)) ∧ WL s' (wM d) ((s1.nx, .cells (cellsOfStr W) 5 0) :: L0)) (n := 9)
    ⟨0, [], List.replicate 1024 0, rfl, Nat.zero_le _, winv_0, fun c hc => by simp only [List.mem_replicate] at hc; omega, by simp only [rB, rP, rQ, boolA, intA, resultA, resA, reduceIte, reduceCtorEq, Nat.reduceAdd, Nat.reduceLT, Nat.reduceEqDiff, UInt8.reduceToNat, t0], by simp only [rB, rP, rQ, boolA, intA, resultA, resA, reduceIte, reduceCtorEq, Nat.reduceAdd, Nat.reduceLT, Nat.reduceEqDiff, UInt8.reduceToNat, t1], by simp only [rB, rP, rQ, boolA, intA, resultA, resA, reduceIte, reduceCtorEq, Nat.reduceAdd, Nat.reduceLT, Nat.reduceEqDiff, UInt8.reduceToNat, t2], by simp only [rB, rP, rQ, boolA, intA, resultA, resA, reduceIte, reduceCtorEq, Nat.reduceAdd, Nat.reduceLT, Nat.reduceEqDiff, UInt8.reduceToNat], by simp only [rB, rP, rQ, boolA, intA, resultA, resA, reduceIte, reduceCtorEq, Nat.reduceAdd, Nat.reduceLT, Nat.reduceEqDiff, UInt8.reduceToNat], by simp only [rB, rP, rQ, boolA, intA, resultA, resA, reduceIte, reduceCtorEq, Nat.reduceAdd, Nat.reduceLT, Nat.reduceEqDiff, UInt8.reduceToNat]; rfl, by simp only [rB, rP, rQ, boolA, intA, resultA, resA, reduceIte, reduceCtorEq, Nat.reduceAdd, Nat.reduceLT, Nat.reduceEqDiff, UInt8.reduceToNat]; rfl, hW1⟩ ?_
  rintro n t s' ih ⟨i, d, W, hn, hiz, hI, hWb, t0, t1, t2, t7, t8, t9, t10, hW⟩
  have ew : IntKind.i64.wrap ((i : Int) + 1) = ((i + 1 : Nat) : Int) := by
    rw [show (i : Int) + 1 = ((i + 1 : Nat) : Int) from by simp]
    exact wrap_nat (by omega)
  by_cases hgo : i < zs.length ∧ i < 9
  · obtain ⟨h1, h2⟩ := hgo
    have g0 : decide ((i : Int) < (zs.length : Int)) = true := by rw [decide_eq_true_eq]; omega
    have g9 : decide ((i : Int) < 9) = true := by rw [decide_eq_true_eq]; omega
    obtain ⟨ix, cs, hcs, hz⟩ := hP.at' i zs[i] (List.getElem?_eq_getElem h1)
    generalize zs[i] = z at ix hz
    obtain ⟨r, hr, er⟩ := rem_lt (z := z) (m := 1100) (by decide)
    have er : (IntKind.u64.wrap z).tmod 1100 = (r : Int) := er
    have wr : IntKind.i64.wrap (r : Int) = (r : Int) := wrap_nat (by omega)
    have wl : IntKind.i64.wrap ((r : Int) + (x.length : Int)) = ((r + x.length : Nat) : Int) := by
      rw [show (r : Int) + (x.length : Int) = ((r + x.length : Nat) : Int) from by simp]
      exact wrap_nat (by omega)
    have go : s'.h.get 0 = some (.old cs) := hW.get (q := (0, AO.old cs)) (List.mem_cons_of_mem _ hcs)
    by_cases hbig : 1024 < r + x.length
    · have e1 := w_big (d := d) (s := x) (off := (r : Int)) (by omega) (write_big hx1 hbig)
      have g1 : decide (((r + x.length : Nat) : Int) > 1024) = true := by rw [decide_eq_true_eq]; omega
      repeat (first | with_reducible (refine w_one H ?_; constructor) | simp only [rB, rP, rQ, boolA, intA, resultA, resA, reduceIte, reduceCtorEq, Nat.reduceAdd, Nat.reduceLT, Nat.reduceEqDiff, UInt8.reduceToNat, pe4, pf4, b_eqi, b_nei, b_lt, b_le, b_gt, b_ge, fn_an0, fn_an1, fn_an4, fn_an5, bc_01, bc_012, bc_015, bc_0145, bc_0147, bc_016, bc_0167, bc_017, bc_03, bc_035, bc_0347, beq_self_eq_true, bne_self_eq_false, Int.reduceBEq, Int.reduceBNe, Int.reduceLT, Int.reduceLE, Int.reduceGT, decide_true, decide_false, eqB_self, la_cons, la_nil, b_plus, t0, t1, t2, t7, t8, t9, t10, pl, pi, g0, g9, ix, go, hz, ld_3, o_cvt, toU_int, b_rem, eqS_rem, rm_eq m3, u64_int, remA_int, er, i64_int, o_cvi, toI_int, wr])
      refine lwrite_c ok3 hW e1 (st := 9) rfl ?_
      intro s2 hW hl2
      repeat (first | with_reducible (refine w_one H ?_; constructor) | simp only [rB, rP, rQ, boolA, intA, resultA, resA, reduceIte, reduceCtorEq, Nat.reduceAdd, Nat.reduceLT, Nat.reduceEqDiff, UInt8.reduceToNat, pe4, pf4, b_eqi, b_nei, b_lt, b_le, b_gt, b_ge, fn_an0, fn_an1, fn_an4, fn_an5, bc_01, bc_012, bc_015, bc_0145, bc_0147, bc_016, bc_0167, bc_017, bc_03, bc_035, bc_0347, beq_self_eq_true, bne_self_eq_false, Int.reduceBEq, Int.reduceBNe, Int.reduceLT, Int.reduceLE, Int.reduceGT, decide_true, decide_false, eqB_self, la_cons, la_nil, b_plus, t0, t1, t2, t7, t8, t9, t10, len_str, wl, g1, ew])
      exact ih (n - 1) _ _ (by omega) ⟨i + 1, d, W, by omega, by omega, hI, hWb, by simp only [rB, rP, rQ, boolA, intA, resultA, resA, reduceIte, reduceCtorEq, Nat.reduceAdd, Nat.reduceLT, Nat.reduceEqDiff, UInt8.reduceToNat, t0], by simp only [rB, rP, rQ, boolA, intA, resultA, resA, reduceIte, reduceCtorEq, Nat.reduceAdd, Nat.reduceLT, Nat.reduceEqDiff, UInt8.reduceToNat, t1], by simp only [rB, rP, rQ, boolA, intA, resultA, resA, reduceIte, reduceCtorEq, Nat.reduceAdd, Nat.reduceLT, Nat.reduceEqDiff, UInt8.reduceToNat, t2], by simp only [rB, rP, rQ, boolA, intA, resultA, resA, reduceIte, reduceCtorEq, Nat.reduceAdd, Nat.reduceLT, Nat.reduceEqDiff, UInt8.reduceToNat, t7], by simp only [rB, rP, rQ, boolA, intA, resultA, resA, reduceIte, reduceCtorEq, Nat.reduceAdd, Nat.reduceLT, Nat.reduceEqDiff, UInt8.reduceToNat, t8], by simp only [rB, rP, rQ, boolA, intA, resultA, resA, reduceIte, reduceCtorEq, Nat.reduceAdd, Nat.reduceLT, Nat.reduceEqDiff, UInt8.reduceToNat, t9], by simp only [rB, rP, rQ, boolA, intA, resultA, resA, reduceIte, reduceCtorEq, Nat.reduceAdd, Nat.reduceLT, Nat.reduceEqDiff, UInt8.reduceToNat], hW⟩
    · have hle : r + x.length ≤ 1024 := by omega
      have hI' := winv_write (s := x) hI hle
      have e1 := w_write (d := d) (s := x) (off := (r : Int)) (by omega) (write_ok hx0 hx1 hle) hI'.ld
      have g1 : decide (((r + x.length : Nat) : Int) > 1024) = false := by rw [decide_eq_false_iff_not]; omega
      repeat (first | with_reducible (refine w_one H ?_; constructor) | simp only [rB, rP, rQ, boolA, intA, resultA, resA, reduceIte, reduceCtorEq, Nat.reduceAdd, Nat.reduceLT, Nat.reduceEqDiff, UInt8.reduceToNat, pe4, pf4, b_eqi, b_nei, b_lt, b_le, b_gt, b_ge, fn_an0, fn_an1, fn_an4, fn_an5, bc_01, bc_012, bc_015, bc_0145, bc_0147, bc_016, bc_0167, bc_017, bc_03, bc_035, bc_0347, beq_self_eq_true, bne_self_eq_false, Int.reduceBEq, Int.reduceBNe, Int.reduceLT, Int.reduceLE, Int.reduceGT, decide_true, decide_false, eqB_self, la_cons, la_nil, b_plus, t0, t1, t2, t7, t8, t9, t10, pl, pi, g0, g9, ix, go, hz, ld_3, o_cvt, toU_int, b_rem, eqS_rem, rm_eq m3, u64_int, remA_int, er, i64_int, o_cvi, toI_int, wr])
      refine lwrite_c ok3 hW e1 (st := 0) rfl ?_
      intro s2 hW hl2
      repeat (first | with_reducible (refine w_one H ?_; constructor) | simp only [rB, rP, rQ, boolA, intA, resultA, resA, reduceIte, reduceCtorEq, Nat.reduceAdd, Nat.reduceLT, Nat.reduceEqDiff, UInt8.reduceToNat, pe4, pf4, b_eqi, b_nei, b_lt, b_le, b_gt, b_ge, fn_an0, fn_an1, fn_an4, fn_an5, bc_01, bc_012, bc_015, bc_0145, bc_0147, bc_016, bc_0167, bc_017, bc_03, bc_035, bc_0347, beq_self_eq_true, bne_self_eq_false, Int.reduceBEq, Int.reduceBNe, Int.reduceLT, Int.reduceLE, Int.reduceGT, decide_true, decide_false, eqB_self, la_cons, la_nil, b_plus, t0, t1, t2, t7, t8, t9, t10, len_str, wl, g1])
      have lW := hI.lw
      refine w_loop_ind H (fun m t s' => ∃ k : Nat, m + k = x.length ∧ tg t 0 = .fn 62 [.ptr 14 0] ∧ tg t 1 = PV ∧ tg t 2 = .str x ∧ tg t 7 = .raw (.bool true) ∧ tg t 8 = .slice s1.nx 0 1024 0 1024 true ∧ tg t 9 = .raw (.int .i64 (d.length : Int)) ∧ tg t 10 = .raw (.int .i64 (i : Int)) ∧ tg t 11 = .raw (.int .i64 (r : Int)) ∧ tg t 12 = .raw (.int .i64 0) ∧ tg t 13 = .raw (.int .i64 (k : Int)) ∧ WL s' (wM (newD d r x)) ((s1.nx, .cells (cellsOfStr (newW W r (x.take k))) 5 0) :: L0)) (n := x.length)
        ⟨0, rfl, by simp only [rB, rP, rQ, boolA, intA, resultA, resA, reduceIte, reduceCtorEq, Nat.reduceAdd, Nat.reduceLT, Nat.reduceEqDiff, UInt8.reduceToNat, t0], by simp only [rB, rP, rQ, boolA, intA, resultA, resA, reduceIte, reduceCtorEq, Nat.reduceAdd, Nat.reduceLT, Nat.reduceEqDiff, UInt8.reduceToNat, t1], by simp only [rB, rP, rQ, boolA, intA, resultA, resA, reduceIte, reduceCtorEq, Nat.reduceAdd, Nat.reduceLT, Nat.reduceEqDiff, UInt8.reduceToNat, t2], by simp only [rB, rP, rQ, boolA, intA, resultA, resA, reduceIte, reduceCtorEq, Nat.reduceAdd, Nat.reduceLT, Nat.reduceEqDiff, UInt8.reduceToNat, t7], by simp only [rB, rP, rQ, boolA, intA, resultA, resA, reduceIte, reduceCtorEq, Nat.reduceAdd, Nat.reduceLT, Nat.reduceEqDiff, UInt8.reduceToNat, t8], by simp only [rB, rP, rQ, boolA, intA, resultA, resA, reduceIte, reduceCtorEq, Nat.reduceAdd, Nat.reduceLT, Nat.reduceEqDiff, UInt8.reduceToNat, t9], by simp only [rB, rP, rQ, boolA, intA, resultA, resA, reduceIte, reduceCtorEq, Nat.reduceAdd, Nat.reduceLT, Nat.reduceEqDiff, UInt8.reduceToNat, t10], by simp only [rB, rP, rQ, boolA, intA, resultA, resA, reduceIte, reduceCtorEq, Nat.reduceAdd, Nat.reduceLT, Nat.reduceEqDiff, UInt8.reduceToNat], by simp only [rB, rP, rQ, boolA, intA, resultA, resA, reduceIte, reduceCtorEq, Nat.reduceAdd, Nat.reduceLT, Nat.reduceEqDiff, UInt8.reduceToNat], by simp only [rB, rP, rQ, boolA, intA, resultA, resA, reduceIte, reduceCtorEq, Nat.reduceAdd, Nat.reduceLT, Nat.reduceEqDiff, UInt8.reduceToNat]; rfl, by rw [show newW W r (x.take 0) = W from by simp [newW]]; exact hW⟩ ?_
      rintro m t s' ih2 ⟨k, hm, t0, t1, t2, t7, t8, t9, t10, t11, t12, t13, hW⟩
      cases m with
      | succ m =>
        have hk : k < x.length := by omega
        have gk : decide ((k : Int) < (x.length : Int)) = true := by rw [decide_eq_true_eq]; omega
        have ek : IntKind.i64.wrap ((k : Int) + 1) = ((k + 1 : Nat) : Int) := by
          rw [show (k : Int) + 1 = ((k + 1 : Nat) : Int) from by simp]
          exact wrap_nat (by omega)
        have erk : IntKind.i64.wrap ((r : Int) + (k : Int)) = ((r + k : Nat) : Int) := by
          rw [show (r : Int) + (k : Int) = ((r + k : Nat) : Int) from by simp]
          exact wrap_nat (by omega)
        have hxk : x[k]? = some x[k] := List.getElem?_eq_getElem hk
        generalize x[k] = c at hxk
        have hc := hxb c (List.mem_of_getElem? hxk)
        have ixs := ix_s hxk
        have ixb := ix_b (q := s1.nx) (i := r + k) (n := 1024) (by omega)
        have gw := hW.get0
        have hlen : (newW W r (x.take k)).length = 1024 := by rw [newW_len (by rw [lW]; simp; omega), lW]
        have pb := put_b (b := newW W r (x.take k)) (i := r + k) (x := c) (by omega) (newW_step hk hxk (by omega))
        repeat (first | with_reducible (refine w_one H ?_; constructor) | simp only [rB, rP, rQ, boolA, intA, resultA, resA, reduceIte, reduceCtorEq, Nat.reduceAdd, Nat.reduceLT, Nat.reduceEqDiff, UInt8.reduceToNat, pe4, pf4, b_eqi, b_nei, b_lt, b_le, b_gt, b_ge, fn_an0, fn_an1, fn_an4, fn_an5, bc_01, bc_012, bc_015, bc_0145, bc_0147, bc_016, bc_0167, bc_017, bc_03, bc_035, bc_0347, beq_self_eq_true, bne_self_eq_false, Int.reduceBEq, Int.reduceBNe, Int.reduceLT, Int.reduceLE, Int.reduceGT, decide_true, decide_false, eqB_self, la_cons, la_nil, b_plus, t0, t1, t2, t7, t8, t9, t10, t11, t12, t13, len_str, gk, ek, erk, ixs, ixb, gw, pb, st_5])
        refine ih2 m _ _ (by omega) ⟨k + 1, by omega, by simp only [rB, rP, rQ, boolA, intA, resultA, resA, reduceIte, reduceCtorEq, Nat.reduceAdd, Nat.reduceLT, Nat.reduceEqDiff, UInt8.reduceToNat, t0], by simp only [rB, rP, rQ, boolA, intA, resultA, resA, reduceIte, reduceCtorEq, Nat.reduceAdd, Nat.reduceLT, Nat.reduceEqDiff, UInt8.reduceToNat, t1], by simp only [rB, rP, rQ, boolA, intA, resultA, resA, reduceIte, reduceCtorEq, Nat.reduceAdd, Nat.reduceLT, Nat.reduceEqDiff, UInt8.reduceToNat, t2], by simp only [rB, rP, rQ, boolA, intA, resultA, resA, reduceIte, reduceCtorEq, Nat.reduceAdd, Nat.reduceLT, Nat.reduceEqDiff, UInt8.reduceToNat, t7], by simp only [rB, rP, rQ, boolA, intA, resultA, resA, reduceIte, reduceCtorEq, Nat.reduceAdd, Nat.reduceLT, Nat.reduceEqDiff, UInt8.reduceToNat, t8], by simp only [rB, rP, rQ, boolA, intA, resultA, resA, reduceIte, reduceCtorEq, Nat.reduceAdd, Nat.reduceLT, Nat.reduceEqDiff, UInt8.reduceToNat, t9], by simp only [rB, rP, rQ, boolA, intA, resultA, resA, reduceIte, reduceCtorEq, Nat.reduceAdd, Nat.reduceLT, Nat.reduceEqDiff, UInt8.reduceToNat, t10], by simp only [rB, rP, rQ, boolA, intA, resultA, resA, reduceIte, reduceCtorEq, Nat.reduceAdd, Nat.reduceLT, Nat.reduceEqDiff, UInt8.reduceToNat, t11], by simp only [rB, rP, rQ, boolA, intA, resultA, resA, reduceIte, reduceCtorEq, Nat.reduceAdd, Nat.reduceLT, Nat.reduceEqDiff, UInt8.reduceToNat, t12], by simp only [rB, rP, rQ, boolA, intA, resultA, resA, reduceIte, reduceCtorEq, Nat.reduceAdd, Nat.reduceLT, Nat.reduceEqDiff, UInt8.reduceToNat], hW.set (fun q hq => ?_) ?_ _⟩
        · rw [hP.lt q hq]
          omega
        · have := hl1
          omega
      | zero =>
        have hk : k = x.length := by omega
        subst hk
        have gk : decide ((x.length : Int) < (x.length : Int)) = false := by rw [decide_eq_false_iff_not]; omega
        have emx : (if ((r + x.length : Nat) : Int) > (d.length : Int) then ((r + x.length : Nat) : Int) else (d.length : Int)) = ((newD d r x).length : Int) := by
          rw [newD_len]
          split <;> omega
        rw [List.take_of_length_le (Nat.le_refl _)] at hW
        repeat (first | with_reducible (refine w_one H ?_; constructor) | simp only [rB, rP, rQ, boolA, intA, resultA, resA, reduceIte, reduceCtorEq, Nat.reduceAdd, Nat.reduceLT, Nat.reduceEqDiff, UInt8.reduceToNat, pe4, pf4, b_eqi, b_nei, b_lt, b_le, b_gt, b_ge, fn_an0, fn_an1, fn_an4, fn_an5, bc_01, bc_012, bc_015, bc_0145, bc_0147, bc_016, bc_0167, bc_017, bc_03, bc_035, bc_0347, beq_self_eq_true, bne_self_eq_false, Int.reduceBEq, Int.reduceBNe, Int.reduceLT, Int.reduceLE, Int.reduceGT, decide_true, decide_false, eqB_self, la_cons, la_nil, b_plus, t0, t1, t2, t7, t8, t9, t10, t11, t12, t13, len_str, gk, wl, emx, ew])
        exact ih (n - 1) _ _ (by omega) ⟨i + 1, newD d r x, newW W r x, by omega, by omega, hI', newW_lt hWb hxb, by simp only [rB, rP, rQ, boolA, intA, resultA, resA, reduceIte, reduceCtorEq, Nat.reduceAdd, Nat.reduceLT, Nat.reduceEqDiff, UInt8.reduceToNat, t0], by simp only [rB, rP, rQ, boolA, intA, resultA, resA, reduceIte, reduceCtorEq, Nat.reduceAdd, Nat.reduceLT, Nat.reduceEqDiff, UInt8.reduceToNat, t1], by simp only [rB, rP, rQ, boolA, intA, resultA, resA, reduceIte, reduceCtorEq, Nat.reduceAdd, Nat.reduceLT, Nat.reduceEqDiff, UInt8.reduceToNat, t2], by simp only [rB, rP, rQ, boolA, intA, resultA, resA, reduceIte, reduceCtorEq, Nat.reduceAdd, Nat.reduceLT, Nat.reduceEqDiff, UInt8.reduceToNat, t7], by simp only [rB, rP, rQ, boolA, intA, resultA, resA, reduceIte, reduceCtorEq, Nat.reduceAdd, Nat.reduceLT, Nat.reduceEqDiff, UInt8.reduceToNat, t8], by simp only [rB, rP, rQ, boolA, intA, resultA, resA, reduceIte, reduceCtorEq, Nat.reduceAdd, Nat.reduceLT, Nat.reduceEqDiff, UInt8.reduceToNat], by simp only [rB, rP, rQ, boolA, intA, resultA, resA, reduceIte, reduceCtorEq, Nat.reduceAdd, Nat.reduceLT, Nat.reduceEqDiff, UInt8.reduceToNat], hW⟩
  · have e1 := w_read (read_hi hI.ld)
    have e2 := w_read (read_lo (d := d))
    have e3 := w_stat (d := d)
    have gd : (d.length ≤ 1024) := hI.ld
    have slb := sl_b (q := s1.nx) gd
    have hcat : d.take 512 ++ d.drop 512 = d := List.take_append_drop 512 d
    have fcat : binFast .add (.str (d.take 512)) (.str (d.drop 512)) = some (.str d) := by rw [b_add (by simp; omega), hcat]
    have htk := hI.take
    by_cases h1 : i < zs.length
    · have g0 : decide ((i : Int) < (zs.length : Int)) = true := by rw [decide_eq_true_eq]; omega
      have g9 : decide ((i : Int) < 9) = false := by rw [decide_eq_false_iff_not]; omega
      repeat (first | with_reducible (refine w_one H ?_; constructor) | simp only [rB, rP, rQ, boolA, intA, resultA, resA, reduceIte, reduceCtorEq, Nat.reduceAdd, Nat.reduceLT, Nat.reduceEqDiff, UInt8.reduceToNat, pe4, pf4, b_eqi, b_nei, b_lt, b_le, b_gt, b_ge, fn_an0, fn_an1, fn_an4, fn_an5, bc_01, bc_012, bc_015, bc_0145, bc_0147, bc_016, bc_0167, bc_017, bc_03, bc_035, bc_0347, beq_self_eq_true, bne_self_eq_false, Int.reduceBEq, Int.reduceBNe, Int.reduceLT, Int.reduceLE, Int.reduceGT, decide_true, decide_false, eqB_self, la_cons, la_nil, b_plus, t0, t1, t2, t7, t8, t9, t10, pl, pi, g0, g9])
      refine lface_c hW e1 ?_
      intro s2 V2 hW hl2 hV
      have bq := beq_an (a := 0) (b := ((d.drop 512).length : Int)) (c := 0) (d := 0) (e := d.drop 512) hV.beq
      have hWp := hW.put (.cells (anL 0 0 0 0 [] nilS) 43 0) (.cells (anL 0 ((d.drop 512).length : Int) 0 0 (d.drop 512) V2) 43 0)
      have gw := hW.get0
      have nw := hW.ne0
      have tx := fun (s' : St) (h : s'.h.get s1.nx = some (.cells (cellsOfStr W) 5 0)) => tx_bt (n := d.length) (c := 1024) hWb (by rw [hI.lw]; exact gd) h
      repeat (first | with_reducible (refine w_one H ?_; constructor) | simp only [rB, rP, rQ, boolA, intA, resultA, resA, reduceIte, reduceCtorEq, Nat.reduceAdd, Nat.reduceLT, Nat.reduceEqDiff, UInt8.reduceToNat, pe4, pf4, b_eqi, b_nei, b_lt, b_le, b_gt, b_ge, fn_an0, fn_an1, fn_an4, fn_an5, bc_01, bc_012, bc_015, bc_0145, bc_0147, bc_016, bc_0167, bc_017, bc_03, bc_035, bc_0347, beq_self_eq_true, bne_self_eq_false, Int.reduceBEq, Int.reduceBNe, Int.reduceLT, Int.reduceLE, Int.reduceGT, decide_true, decide_false, eqB_self, la_cons, la_nil, b_plus, an_g0, an_g1, an_g2, an_g3, an_g4, an_g5, fa_an0, fa_an1, fa_an2, fa_an3, fa_an4, fa_an5, ldO_an0, ldO_an1, ldO_an2, ldO_an3, ldO_an4, ldO_an5, ld_3, ld_9, ld_41, all_an, st_an hV.cells1.2, stA_an, t0, t1, t2, t7, t8, t9, t10, gw, nw, slb, tx, txO_some, sp_txo, htk, fcat] | (with_reducible refine w_plan H (i := 22) (.take 0 (.take 1 (.take 2 (.take 4 (.take 5 (.take 7 (.take 8 (.take 9 (.take 10 (.alt 3 [0, 1, 2] (.take 6 (.take 11 (.take 12 (.take 13 (.take 14 (.take 15 (.take 18 (.alt 16 [0, 1, 2, 3, 4, 5, 6, 7, 8, 9, 10, 11, 12, 13, 14, 15] (.take 17 (.take 19 (.take 20 (.take 21 (.done))))) (.yes))))))))) (.yes))))))))))) rfl (by kernel_rfl) ?_))
      refine lread_c ok3 hWp e2 (d := d.take 512) rfl ?_
      intro s3 hW hl3
      have q0 := hW.get0
      have q1 := hW.get1
      repeat (first | with_reducible (refine w_one H ?_; constructor) | simp only [rB, rP, rQ, boolA, intA, resultA, resA, reduceIte, reduceCtorEq, Nat.reduceAdd, Nat.reduceLT, Nat.reduceEqDiff, UInt8.reduceToNat, pe4, pf4, b_eqi, b_nei, b_lt, b_le, b_gt, b_ge, fn_an0, fn_an1, fn_an4, fn_an5, bc_01, bc_012, bc_015, bc_0145, bc_0147, bc_016, bc_0167, bc_017, bc_03, bc_035, bc_0347, beq_self_eq_true, bne_self_eq_false, Int.reduceBEq, Int.reduceBNe, Int.reduceLT, Int.reduceLE, Int.reduceGT, decide_true, decide_false, eqB_self, la_cons, la_nil, b_plus, an_g0, an_g1, an_g2, an_g3, an_g4, an_g5, fa_an0, fa_an1, fa_an2, fa_an3, fa_an4, fa_an5, ldO_an0, ldO_an1, ldO_an2, ldO_an3, ldO_an4, ldO_an5, ld_3, ld_9, ld_41, t0, t1, t2, t7, t8, t9, t10, gw, nw, q0, q1, bq, beqAs_b, slb, tx, txO_some, sp_txo, htk, fcat])
      refine lface_c hW e3 ?_
      intro s4 V4 hW hl4 hV4
      repeat (first | with_reducible (refine w_one H ?_; constructor) | simp only [rB, rP, rQ, boolA, intA, resultA, resA, reduceIte, reduceCtorEq, Nat.reduceAdd, Nat.reduceLT, Nat.reduceEqDiff, UInt8.reduceToNat, pe4, pf4, b_eqi, b_nei, b_lt, b_le, b_gt, b_ge, fn_an0, fn_an1, fn_an4, fn_an5, bc_01, bc_012, bc_015, bc_0145, bc_0147, bc_016, bc_0167, bc_017, bc_03, bc_035, bc_0347, beq_self_eq_true, bne_self_eq_false, Int.reduceBEq, Int.reduceBNe, Int.reduceLT, Int.reduceLE, Int.reduceGT, decide_true, decide_false, eqB_self, la_cons, la_nil, b_plus, an_g0, an_g1, an_g2, an_g3, an_g4, an_g5, fa_an0, fa_an1, fa_an2, fa_an3, fa_an4, fa_an5, ldO_an0, ldO_an1, ldO_an2, ldO_an3, ldO_an4, ldO_an5, ld_3, ld_9, ld_41, t0, t1, t2, t7, t8, t9, t10, Tryz.results33])
      rfl
    · have g0 : decide ((i : Int) < (zs.length : Int)) = false := by rw [decide_eq_false_iff_not]; omega
      repeat (first | with_reducible (refine w_one H ?_; constructor) | simp only [rB, rP, rQ, boolA, intA, resultA, resA, reduceIte, reduceCtorEq, Nat.reduceAdd, Nat.reduceLT, Nat.reduceEqDiff, UInt8.reduceToNat, pe4, pf4, b_eqi, b_nei, b_lt, b_le, b_gt, b_ge, fn_an0, fn_an1, fn_an4, fn_an5, bc_01, bc_012, bc_015, bc_0145, bc_0147, bc_016, bc_0167, bc_017, bc_03, bc_035, bc_0347, beq_self_eq_true, bne_self_eq_false, Int.reduceBEq, Int.reduceBNe, Int.reduceLT, Int.reduceLE, Int.reduceGT, decide_true, decide_false, eqB_self, la_cons, la_nil, b_plus, t0, t1, t2, t7, t8, t9, t10, pl, pi, g0])
      refine lface_c hW e1 ?_
      intro s2 V2 hW hl2 hV
      have bq := beq_an (a := 0) (b := ((d.drop 512).length : Int)) (c := 0) (d := 0) (e := d.drop 512) hV.beq
      have hWp := hW.put (.cells (anL 0 0 0 0 [] nilS) 43 0) (.cells (anL 0 ((d.drop 512).length : Int) 0 0 (d.drop 512) V2) 43 0)
      have gw := hW.get0
      have nw := hW.ne0
      have tx := fun (s' : St) (h : s'.h.get s1.nx = some (.cells (cellsOfStr W) 5 0)) => tx_bt (n := d.length) (c := 1024) hWb (by rw [hI.lw]; exact gd) h
      repeat (first | with_reducible (refine w_one H ?_; constructor) | simp only [rB, rP, rQ, boolA, intA, resultA, resA, reduceIte, reduceCtorEq, Nat.reduceAdd, Nat.reduceLT, Nat.reduceEqDiff, UInt8.reduceToNat, pe4, pf4, b_eqi, b_nei, b_lt, b_le, b_gt, b_ge, fn_an0, fn_an1, fn_an4, fn_an5, bc_01, bc_012, bc_015, bc_0145, bc_0147, bc_016, bc_0167, bc_017, bc_03, bc_035, bc_0347, beq_self_eq_true, bne_self_eq_false, Int.reduceBEq, Int.reduceBNe, Int.reduceLT, Int.reduceLE, Int.reduceGT, decide_true, decide_false, eqB_self, la_cons, la_nil, b_plus, an_g0, an_g1, an_g2, an_g3, an_g4, an_g5, fa_an0, fa_an1, fa_an2, fa_an3, fa_an4, fa_an5, ldO_an0, ldO_an1, ldO_an2, ldO_an3, ldO_an4, ldO_an5, ld_3, ld_9, ld_41, all_an, st_an hV.cells1.2, stA_an, t0, t1, t2, t7, t8, t9, t10, gw, nw, slb, tx, txO_some, sp_txo, htk, fcat] | (with_reducible refine w_plan H (i := 22) (.take 0 (.take 1 (.take 2 (.take 4 (.take 5 (.take 7 (.take 8 (.take 9 (.take 10 (.alt 3 [0, 1, 2] (.take 6 (.take 11 (.take 12 (.take 13 (.take 14 (.take 15 (.take 18 (.alt 16 [0, 1, 2, 3, 4, 5, 6, 7, 8, 9, 10, 11, 12, 13, 14, 15] (.take 17 (.take 19 (.take 20 (.take 21 (.done))))) (.yes))))))))) (.yes))))))))))) rfl (by kernel_rfl) ?_))
      refine lread_c ok3 hWp e2 (d := d.take 512) rfl ?_
      intro s3 hW hl3
      have q0 := hW.get0
      have q1 := hW.get1
      repeat (first | with_reducible (refine w_one H ?_; constructor) | simp only [rB, rP, rQ, boolA, intA, resultA, resA, reduceIte, reduceCtorEq, Nat.reduceAdd, Nat.reduceLT, Nat.reduceEqDiff, UInt8.reduceToNat, pe4, pf4, b_eqi, b_nei, b_lt, b_le, b_gt, b_ge, fn_an0, fn_an1, fn_an4, fn_an5, bc_01, bc_012, bc_015, bc_0145, bc_0147, bc_016, bc_0167, bc_017, bc_03, bc_035, bc_0347, beq_self_eq_true, bne_self_eq_false, Int.reduceBEq, Int.reduceBNe, Int.reduceLT, Int.reduceLE, Int.reduceGT, decide_true, decide_false, eqB_self, la_cons, la_nil, b_plus, an_g0, an_g1, an_g2, an_g3, an_g4, an_g5, fa_an0, fa_an1, fa_an2, fa_an3, fa_an4, fa_an5, ldO_an0, ldO_an1, ldO_an2, ldO_an3, ldO_an4, ldO_an5, ld_3, ld_9, ld_41, t0, t1, t2, t7, t8, t9, t10, gw, nw, q0, q1, bq, beqAs_b, slb, tx, txO_some, sp_txo, htk, fcat])
      refine lface_c hW e3 ?_
      intro s4 V4 hW hl4 hV4
      repeat (first | with_reducible (refine w_one H ?_; constructor) | simp only [rB, rP, rQ, boolA, intA, resultA, resA, reduceIte, reduceCtorEq, Nat.reduceAdd, Nat.reduceLT, Nat.reduceEqDiff, UInt8.reduceToNat, pe4, pf4, b_eqi, b_nei, b_lt, b_le, b_gt, b_ge, fn_an0, fn_an1, fn_an4, fn_an5, bc_01, bc_012, bc_015, bc_0145, bc_0147, bc_016, bc_0167, bc_017, bc_03, bc_035, bc_0347, beq_self_eq_true, bne_self_eq_false, Int.reduceBEq, Int.reduceBNe, Int.reduceLT, Int.reduceLE, Int.reduceGT, decide_true, decide_false, eqB_self, la_cons, la_nil, b_plus, an_g0, an_g1, an_g2, an_g3, an_g4, an_g5, fa_an0, fa_an1, fa_an2, fa_an3, fa_an4, fa_an5, ldO_an0, ldO_an1, ldO_an2, ldO_an3, ldO_an4, ldO_an5, ld_3, ld_9, ld_41, t0, t1, t2, t7, t8, t9, t10, Tryz.results33])
      rfl
end Go.AX
-- handed
namespace Go.AX
open Go.Proofs Go.RowKit
set_option maxRecDepth 1000000
set_option linter.unusedSimpArgs false
set_option linter.unusedVariables false
theorem writes_from {tx : List Nat} (hb : ∀ c ∈ tx, c < 256) {h0 : Tr AO} {PV : AV} {zs : List Int} {L0 : List (Nat × AO)} (hP : Pks PV zs L0) (hd : Hd h0 L0) :
    (sem Tryz.prog).call 5 [PV, .str tx] (stI h0) (fun v _ => isTrue v) (fun _ _ => false) = true := by
  have H := ok3
  refine w_call H 12 fn_5 rfl rfl ?_
  repeat (first | with_reducible (refine w_one H ?_; constructor) | simp only [rB, rP, rQ, boolA, intA, resultA, resA, reduceIte, reduceCtorEq, Nat.reduceAdd, Nat.reduceLT, Nat.reduceEqDiff, UInt8.reduceToNat, pe3, pf3, c_awake, Tryz.results5] | (with_reducible refine faceIW_c hd ?_; intro s hW) | (with_reducible refine call_true (writes_c hP hb hW) (fun s' => ?_)))
  rfl
theorem strV_of (s : ByteArray) : strV (s.data.toList.map UInt8.toNat) = .string s := by
  obtain ⟨⟨l⟩⟩ := s
  have h : UInt8.ofNat ∘ UInt8.toNat = id := funext fun x => UInt8.ofNat_toNat
  unfold strV
  rw [List.map_map, h, List.map_id]
theorem str_lt {s : ByteArray} : ∀ c ∈ s.data.toList.map UInt8.toNat, c < 256 := by
  intro c hc
  obtain ⟨b, _, rfl⟩ := List.mem_map.mp hc
  exact b.toNat_lt
theorem str_vrel {E : Em} (s : ByteArray) : VRel E (.str (s.data.toList.map UInt8.toNat)) (.string s) := by
  simp only [VRel]
  exact ⟨str_lt, (strV_of s).symm⟩
theorem writesWalk0 (tx : ByteArray) (w : Go.World) : Calls Tryz.prog 5 #[.slice none 0 0, .string tx] w fun e w' => e = .returned (.bool true) ∧ Below w.heap.size w w' :=
  sem_from (args := [.raw (.slice none 0 0), .str (tx.data.toList.map UInt8.toNat)]) (Args := [.slice none 0 0, .string tx]) (s := stI .e) (simN w) (VRels.cons (by simp [VRel]) (VRels.cons (str_vrel tx) VRels.nil)) (writes_from str_lt pks_nil (Or.inl ⟨rfl, rfl⟩))
theorem writesWalkE (tx : ByteArray) {a : Go.Addr} {cap : Nat} (w : Go.World) : Calls Tryz.prog 5 #[.slice (some a) 0 cap, .string tx] w fun e w' => e = .returned (.bool true) ∧ Below w.heap.size w w' :=
  sem_from (args := [.raw (.slice (some a) 0 cap), .str (tx.data.toList.map UInt8.toNat)]) (Args := [.slice (some a) 0 cap, .string tx]) (s := stI .e) (simN w) (VRels.cons (by simp [VRel]) (VRels.cons (str_vrel tx) VRels.nil)) (writes_from str_lt pks_empty (Or.inl ⟨rfl, rfl⟩))
theorem writesWalk (tx : ByteArray) {w : Go.World} {b off len cap : Nat} {C : Array Value} {el : TypeId} {fz : Nat × Nat} {zs : List Int} (hO : w.heap[b]? = some (.cells C el fz)) (hc : ∀ i z, zs[i]? = some z → C[off + i]? = some (.int .i64 z)) (hl : zs.length = len) (hcap : len ≤ cap) :
    Calls Tryz.prog 5 #[.slice (some ⟨b, off, none⟩) len cap, .string tx] w fun e w' => e = .returned (.bool true) ∧ Below w.heap.size w w' := by
  subst hl
  refine sem_from (args := [.slice 0 0 zs.length 0 cap true, .str (tx.data.toList.map UInt8.toNat)]) (Args := [.slice (some ⟨b, off, none⟩) zs.length cap, .string tx]) (s := stI (Tr.e.set 0 (.old ((zs.map (Value.int .i64)).map .raw)))) (simI (K := 0) (off := off) (vs := zs.map (Value.int .i64)) hO (fun i v hv => ?_)) (VRels.cons ?_ (VRels.cons (str_vrel tx) VRels.nil)) (writes_from str_lt pks_row (Or.inr ⟨_, rfl, ?_⟩))
  · rw [List.getElem?_map, Option.map_eq_some_iff] at hv
    obtain ⟨z, hz, rfl⟩ := hv
    exact hc i z hz
  · simp only [VRel]
    exact ⟨(b, off, 0), by simp, rfl, hcap, fun h => (by cases h)⟩
  · rw [List.map_map]
    rfl
end Go.AX
