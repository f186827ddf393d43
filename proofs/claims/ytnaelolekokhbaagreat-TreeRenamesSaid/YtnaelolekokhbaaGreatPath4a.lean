import Derived.Test.YtnaelolekokhbaaGreatPath3
namespace Go.AX
open Go.Proofs Go.RowKit
set_option maxRecDepth 100000
set_option linter.unusedSimpArgs false

/-! ### Contracts of Parts and clean, as functions that are not run -/
def partsP (args : List AV) (s : St) : Option (AV × St) := match args with
  | [.str b] => bif Nat.ble b.length 1000 then some (mkSl 9 (partsL b) s) else none
  | _ => none
def cleanPr (args : List AV) (s : St) : Option (AV × St) := match args with
  | [.str b] => bif Nat.ble b.length 1000 && asciiB b then some (boolA (cleanB b), s) else none
  | _ => none
def pr1 : Prims := ((primsOf pn).add 107 partsP).add 111 cleanPr
theorem partsP_ok (H : Ok TE Tryz.prog (primsOf pn)) {args : List AV} {s s' : St} {v : AV} {w0 w : World} {E : Em} {Args : List Value} (h : partsP args s = some (v, s')) (hv : VRels E args Args) (hs : Sim w0 E s w) :
    Enters Tryz.prog 107 ∧ CallsIn (FW none) 0 Tryz.prog 107 Args.toArray w fun en w' => ∃ V E', en = .returned V ∧ E.le E' ∧ VRel E' v V ∧ Sim w0 E' s' w' := by
  unfold partsP at h
  split at h
  · rename_i b
    cases hb : Nat.ble b.length 1000 with
    | false => rw [hb] at h; cases h
    | true =>
      rw [hb] at h
      simp only [cond_true, Option.some.injEq] at h
      have hb := Nat.le_of_ble_eq_true hb
      by_cases h0 : b = []
      · subst h0
        cases h
        exact lift_flat rfl rfl (fun kr kp hk => parts_nil H hk) hv hs
      · have hne : partsL b ≠ [] := by rw [partsL_ne h0]; exact pieces_ne b
        have hl := pieces_len b
        have := lift_slice (ty := 9) (s := s) hne rfl (fun kr kp hk => parts_c H hb (by omega) hk) hv hs
        rw [h] at this
        exact this
  · cases h
theorem cleanPr_ok (H : Ok TE Tryz.prog (primsOf pn)) {args : List AV} {s s' : St} {v : AV} {w0 w : World} {E : Em} {Args : List Value} (h : cleanPr args s = some (v, s')) (hv : VRels E args Args) (hs : Sim w0 E s w) :
    Enters Tryz.prog 111 ∧ CallsIn (FW none) 0 Tryz.prog 111 Args.toArray w fun en w' => ∃ V E', en = .returned V ∧ E.le E' ∧ VRel E' v V ∧ Sim w0 E' s' w' := by
  unfold cleanPr at h
  split at h
  · rename_i b
    cases hb : (Nat.ble b.length 1000 && asciiB b) with
    | false => rw [hb] at h; cases h
    | true =>
      rw [hb] at h
      simp only [cond_true, Option.some.injEq, Prod.mk.injEq] at h
      obtain ⟨rfl, rfl⟩ := h
      rw [Bool.and_eq_true] at hb
      exact lift_flat rfl rfl (fun kr kp hk => clean_c H (Nat.le_of_ble_eq_true hb.1) hb.2 hk) hv hs
  · cases h
theorem ok1 (H : Ok TE Tryz.prog (primsOf pn)) : Ok TE Tryz.prog pr1 := ⟨H.prog, prims_add (prims_add H.prims (fun h hv hs => partsP_ok H h hv hs)) (fun h hv hs => cleanPr_ok H h hv hs)⟩

theorem pe1 {g : Nat} {args : List AV} {s : St} (h : g ≠ 173) : pr1.ext g args s = none := pe_ne h
theorem pf1 {g : Nat} {args : List AV} {s : St} (h1 : g ≠ 114) (h2 : g ≠ 122) (h3 : g ≠ 120) (h4 : g ≠ 126) (h5 : g ≠ 107) (h6 : g ≠ 111) : pr1.fn g args s = none := by
  unfold pr1
  rw [add_ne h6, add_ne h5]
  exact pf_ne h1 h2 h3 h4
section
variable {r : Tasks} {a : Ac} {dst : Option Tmp} {s : St} {k : Ac → St → Bool} {kp : AV → St → Bool}
theorem c1_clean {b : List Nat} (hb : b.length ≤ 1000) (ha : asciiB b = true) : callV pr1 r (.fn 111 []) [.str b] a dst s k kp = putK a dst (.raw (.bool (cleanB b))) s k := by
  refine c_prim (pe1 (by decide)) ?_
  unfold pr1
  rw [add_same]
  simp only [List.append_nil, cleanPr, Nat.ble_eq.mpr hb, ha, Bool.and_self, cond_true]
  rfl
theorem c1_parts {b : List Nat} (hb : b.length ≤ 1000) : callV pr1 r (.fn 107 []) [.str b] a dst s k kp = putK a dst (mkSl 9 (partsL b) s).1 (mkSl 9 (partsL b) s).2 k := by
  refine c_prim (pe1 (by decide)) ?_
  unfold pr1
  rw [add_ne (by decide), add_same]
  simp only [List.append_nil, partsP, Nat.ble_eq.mpr hb, cond_true]
theorem strsL_map : ∀ (l : List (List Nat)), strsL (l.map .str) = some l
  | [] => (rfl)
  | x :: l => by simp only [List.map_cons, strsL, strsL_map l]
theorem strs_of {F : Nat → Prop} {V : AV} {names : List (List Nat)} (h : SlRep F s V names) : strsOf s V = some names := by
  rcases h with ⟨rfl, rfl⟩ | ⟨id, cap, cs, rfl, h2, h3, h4, h5, h6, h7⟩
  · rfl
  · simp only [strsOf, gc_of h4, cutL_zero (l := cs) (n := names.length) (by omega), h7, strsL_map]
theorem joinL_len : ∀ {l : List (List Nat)}, (∀ p ∈ l, p.length ≤ 1000) → (joinL [47] l).length ≤ l.length * 1001
  | [], _ => by simp [joinL]
  | [x], h => by have := h x (by simp); simp [joinL]; omega
  | x :: y :: l, h => by
    have h1 := h x (by simp)
    have h2 := joinL_len (l := y :: l) (fun p hp => h p (List.mem_cons_of_mem _ hp))
    simp only [joinL, List.length_append, List.length_cons, List.length_nil] at h2 ⊢
    omega
theorem c1_join {F : Nat → Prop} {V : AV} {names : List (List Nat)} (h : SlRep F s V names) (h1 : names.length ≤ 600) (h2 : ∀ p ∈ names, p.length ≤ 1000) :
    callV pr1 r (.fn 114 []) [V, .str [47]] a dst s k kp = putK a dst (.str (joinL [47] names)) s k := by
  have hl := joinL_len h2
  have e1 : Nat.ble (joinL [47] names).length 1000000 = true := Nat.ble_eq.mpr (by omega)
  have e2 : Nat.ble names.length 1000000 = true := Nat.ble_eq.mpr (by omega)
  refine c_prim (pe1 (by decide)) ?_
  unfold pr1
  rw [add_ne (by decide), add_ne (by decide)]
  show (match strsOf s V with
      | some l => bif Nat.ble (joinL [47] l).length 1000000 && Nat.ble l.length 1000000 then some (AV.str (joinL [47] l), s) else none
      | none => none) = _
  rw [strs_of h]
  simp only [e1, e2, Bool.and_self, cond_true]
end

theorem len_sl {F : Nat → Prop} {s : St} {V : AV} {names : List (List Nat)} (h : SlRep F s V names) : lenOpA TE s [51] [V] = some (intA names.length) := by
  rcases h with ⟨rfl, rfl⟩ | ⟨id, cap, cs, rfl, _⟩ <;> kernel_rfl
theorem ids_sl {F : Nat → Prop} {s : St} {V : AV} {names : List (List Nat)} (h : SlRep F s V names) : idsOf V = [] := by
  rcases h with ⟨rfl, rfl⟩ | ⟨id, cap, cs, rfl, _⟩ <;> rfl
theorem so_sl {id off len ci cap : Nat} {ex : Bool} {lo hi : Option AV} : sliceOpA TE 51 (.slice id off len ci cap ex) lo hi none = match sliceBoundsA len cap lo hi with
    | some (l, h) => bif Nat.blt l cap || Nat.beq l 0 then some (.slice id (off + l * 1) (h - l) (ci + l) (cap - l) ex) else bif ex then some (.slice id off 0 ci 0 true) else some (.esl id off ci l 1)
    | none => none := by
  have h : sliceOpA TE 51 (.slice id off len ci cap ex) lo hi none = (match (some { desc := .string, size := 1, bytes := 16, zero := some (.string ⟨#[]⟩) } : Option TI), sliceBoundsA len cap lo hi with
      | some el, some (l, h) =>
        bif Nat.blt l cap || Nat.beq l 0 then some (.slice id (off + l * el.size) (h - l) (ci + l) (cap - l) ex)
        else bif ex then some (.slice id off 0 ci 0 true)
        else some (.esl id off ci l el.size)
      | _, _ => none) := by kernel_rfl
  rw [h]
  cases sliceBoundsA len cap lo hi with
  | none => rfl
  | some x => rfl
theorem sl_take {F : Nat → Prop} {s : St} {V : AV} {names : List (List Nat)} {j : Nat} (h : SlRep F s V names) (hj : j ≤ names.length) :
    ∃ V', sliceOpA TE 51 V none (some (.raw (.int .i64 (j : Int)))) none = some V' ∧ SlRep F s V' (names.take j) := by
  rcases h with ⟨rfl, rfl⟩ | ⟨id, cap, cs, rfl, h2, h3, h4, h5, h6, h7⟩
  · simp only [List.length_nil, Nat.le_zero_eq] at hj
    subst hj
    exact ⟨.raw (.slice none 0 0), by kernel_rfl, Or.inl ⟨rfl, rfl⟩⟩
  · refine ⟨.slice id 0 j 0 cap false, ?_, Or.inr ⟨id, cap, cs, ?_, h2, h3, h4, h5, ?_, ?_⟩⟩
    · rw [so_sl, sb_hi (i := j) no_cast (by omega)]
      simp
    · rw [List.length_take, Nat.min_eq_left hj]
    · rw [List.length_take]; omega
    · rw [List.length_take, Nat.min_eq_left hj, List.map_take, ← h7, List.take_take, Nat.min_eq_left hj]
theorem mkSl_ne {ty : Nat} {names : List (List Nat)} {s : St} (h : names ≠ []) : mkSl ty names s = (.slice s.nx 0 names.length 0 names.length false, s.alloc (.cells (names.map .str) ty 2)) := by
  cases names with
  | nil => exact absurd rfl h
  | cons _ _ => rfl

theorem pieces_le : ∀ {b p : List Nat}, p ∈ pieces b → p.length ≤ b.length
  | [], p, h => by simp [pieces] at h; subst h; simp
  | x :: l, p, h => by
    simp only [pieces] at h
    cases hx : Nat.beq x 47 with
    | true =>
      rw [hx] at h
      rcases List.mem_cons.1 h with rfl | h
      · simp
      · have := pieces_le h; simp; omega
    | false =>
      rw [hx] at h
      simp only [cond_false] at h
      split at h
      · rename_i q qs hq
        rcases List.mem_cons.1 h with rfl | h
        · have := pieces_le (b := l) (p := q) (by rw [hq]; simp); simp; omega
        · have := pieces_le (b := l) (p := p) (by rw [hq]; simp [h]); simp; omega
      · rw [List.mem_singleton] at h; subst h; simp

/-! ### Clean -/
/-- The way that pieces lead. -/
def walkP : List (List Nat) → List (List Nat) → Option (List (List Nat))
  | way, [] => some way
  | way, p :: ps => bif eqB p [] then walkP way ps else bif eqB p [46] then walkP way ps else bif eqB p [46, 46] then walkP (way.take (way.length - 1)) ps
    else bif badB p then none else walkP (way ++ [p]) ps
def relB : List Nat → Bool
  | [] => false
  | c :: _ => !(Nat.beq c 47)
/-- path.Clean. -/
def cleanL (cwd b : List Nat) : List Nat × Nat := bif cleanB cwd then (bif eqB b [] then ([], 400) else bif Nat.blt 560 b.length then ([], 403) else
    match walkP (bif relB b then partsL cwd else []) (pieces b) with
    | none => ([], 401)
    | some way => bif Nat.blt 8 way.length then ([], 402) else bif Nat.blt 140 (joinL [47] way).length then ([], 403) else (joinL [47] way, 0)) else ([], 401)
def outC (x : List Nat × Nat) : AV := .tuple [.str x.1, .raw (.int .i64 (x.2 : Int))]
abbrev FC (c i : Nat) : Prop := i ≠ 0 ∧ i ≠ 1 ∧ i ≠ 2 ∧ i ≠ c ∧ i ≠ c + 1 ∧ i ≠ c + 2

end Go.AX
