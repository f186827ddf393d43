import Derived.Test.YthkkdhjekjoalaaGreatDoorD2
set_option linter.unusedVariables false
set_option linter.unusedSimpArgs false
set_option linter.defProp false
namespace Go.AX
open Go.Proofs Go.RowKit
set_option maxRecDepth 1000000
set_option maxHeartbeats 400000000
set_option linter.unusedSimpArgs false
set_option linter.unusedVariables false

/-! ### Names, plain -/
def zz9 : List Nat := [122, 122, 57]
def N1 : Md := ⟨[⟨1, 493, [], [(zz9, 1)], none, [], 0⟩, ⟨2, 420, [], [], some 0, zz9, 0⟩], 0, 0, [none, none, none, none, none, none, none, none], 1⟩
def N2 (b : List Nat) : Md := ⟨[⟨1, 493, [], [(zz9, 1), (b, 2)], none, [], 0⟩, ⟨2, 420, [], [], some 0, zz9, 0⟩, ⟨2, 420, [], [], some 0, b, 0⟩], 0, 0, [none, none, none, none, none, none, none, none], 2⟩
theorem nm_make : prM M0 (mkC 5 [122, 122, 57]) = some (an0, N1) := by kernel_rfl
def noSl (b : List Nat) : Prop := ∀ c ∈ b, c ≠ 47
theorem find_none {c : Nat} : ∀ {b : List Nat} {k : Nat}, (∀ x ∈ b, x ≠ c) → findByte b c k = none
  | [], _, _ => rfl
  | x :: l, k, h => by
    simp only [findByte]
    have hx : Nat.beq x c = false := by
      cases hb : Nat.beq x c with
      | false => rfl
      | true => exact absurd (Nat.eq_of_beq_eq_true hb) (h x (List.mem_cons_self ..))
    rw [hx, cond_false]
    exact find_none (fun y hy => h y (List.mem_cons_of_mem _ hy))
theorem pieces_sl {b : List Nat} (h : noSl b) : pieces (47 :: b) = [[], b] := by
  have : pieces (47 :: b) = [] :: pieces b := rfl
  rw [this, pieces_none (find_none h)]
/-- Is a text no name? -/
def noName (b : List Nat) : Bool := eqB b [] || badB b
theorem clean_bad {b : List Nat} (h : noSl b) (hl : b.length ≤ 500) (hn : noName b = true) : cleanL [] (47 :: b) = ([], 0) ∨ cleanL [] (47 :: b) = ([], 401) := by
  have e0 : Nat.blt 560 (47 :: b).length = false := by
    cases hb : Nat.blt 560 (47 :: b).length with
    | false => rfl
    | true => have := Nat.blt_eq.mp hb; simp at this; omega
  have e1 : cleanL [] (47 :: b) = (match walkP [] [[], b] with
    | none => ([], 401)
    | some way => bif Nat.blt 8 way.length then ([], 402) else bif Nat.blt 140 (joinL [47] way).length then ([], 403) else (joinL [47] way, 0)) := by
    unfold cleanL
    rw [pieces_sl h, e0]
    rfl
  have e2 : walkP [] [[], b] = (bif eqB b [] then some [] else bif eqB b [46] then some [] else bif eqB b [46, 46] then some [] else bif badB b then none else some [b]) := by
    simp only [walkP, eqB_self, cond_true, List.nil_append, List.length_nil, List.take_nil]
  rw [e1, e2]
  cases h1 : eqB b [] with
  | true => exact Or.inl rfl
  | false =>
    cases h2 : eqB b [46] with
    | true => exact Or.inl rfl
    | false =>
      cases h3 : eqB b [46, 46] with
      | true => exact Or.inl rfl
      | false =>
        have : badB b = true := by
          unfold noName at hn
          rw [h1] at hn
          exact hn
        rw [this]
        exact Or.inr rfl
theorem clean_good {b : List Nat} (h : noSl b) (hn : noName b = false) : cleanL [] (47 :: b) = (b, 0) ∧ b.length ≤ 16 ∧ b ≠ [] := by
  unfold noName at hn
  rw [Bool.or_eq_false_iff] at hn
  obtain ⟨h1, h2⟩ := hn
  have h2' := h2
  unfold badB at h2'
  simp only [Bool.or_eq_false_iff] at h2'
  obtain ⟨h3, h4, h5, _⟩ := h2'
  have hl : b.length ≤ 16 := by
    rcases Nat.lt_or_ge 16 b.length with hlt | hge
    · rw [Nat.blt_eq.mpr hlt] at h3
      cases h3
    · exact hge
  have e0 : Nat.blt 560 (47 :: b).length = false := by
    cases hb : Nat.blt 560 (47 :: b).length with
    | false => rfl
    | true => have := Nat.blt_eq.mp hb; simp at this; omega
  have e3 : Nat.blt 140 b.length = false := by
    cases hb : Nat.blt 140 b.length with
    | false => rfl
    | true => have := Nat.blt_eq.mp hb; omega
  refine ⟨?_, hl, fun e => ?_⟩
  · unfold cleanL
    rw [pieces_sl h, e0]
    have e2 : walkP [] [[], b] = some [b] := by
      simp only [walkP, eqB_self, cond_true, List.nil_append, h1, h2, h4, h5, cond_false]
    show (match walkP [] [[], b] with
      | none => ([], 401)
      | some way => bif Nat.blt 8 way.length then ([], 402) else bif Nat.blt 140 (joinL [47] way).length then ([], 403) else (joinL [47] way, 0)) = _
    rw [e2]
    show (bif Nat.blt 140 b.length then _ else (b, 0)) = _
    rw [e3]
    rfl
  · rw [e] at h1
    cases h1
theorem names_bad {T : Nodes} {b : List Nat} (hp : pathT T 20 0 = some []) (hc : cleanL [] b = ([], 0) ∨ cleanL [] b = ([], 401)) (ha : asciiB b = true) : namesT T 0 b = some (.inl []) ∨ namesT T 0 b = some (.inr 5) := by
  unfold namesT
  rw [hp]
  simp only [ha]
  unfold tcleanL
  rcases hc with hc | hc
  · rw [hc]
    exact Or.inl rfl
  · rw [hc]
    exact Or.inr rfl
theorem names_good {T : Nodes} {b : List Nat} (hp : pathT T 20 0 = some []) (h : noSl b) (hn : noName b = false) (ha : asciiB (47 :: b) = true) : namesT T 0 (47 :: b) = some (.inl [b]) := by
  obtain ⟨h1, h2, h3⟩ := clean_good h hn
  unfold namesT
  rw [hp]
  simp only [ha]
  unfold tcleanL
  rw [h1]
  show (bif Nat.ble (partsL b).length 50000 then some (Sum.inl (partsL b)) else none) = _
  rw [partsL_ne h3, pieces_none (find_none h)]
  rfl
theorem place_bad {T : Nodes} {b : List Nat} (h : namesT T 0 b = some (.inl []) ∨ namesT T 0 b = some (.inr 5)) : placeT T 0 0 b = some (.inr 5) := by
  unfold placeT
  rcases h with h | h
  · rw [h]
    rfl
  · rw [h]
theorem place_good {T : Nodes} {b p : List Nat} {rd : Nd} (hT : T 0 = some rd) (hk : rd.kind = 1) (h : namesT T 0 p = some (.inl [b])) : placeT T 0 0 p = some (.inl (0, b)) := by
  unfold placeT
  rw [h]
  show (match T 0 with | none => none | some ud => bif decide (ud.kind ≠ 1) then some (Sum.inr 3) else some (Sum.inl (0, b))) = _
  rw [hT]
  simp [hk]
theorem m1_bad {b : List Nat} (h : noSl b) (hl : b.length ≤ 500) (hn : noName b = true) (ha : asciiB (47 :: b) = true) : ∃ a M', doM N1 (mkC 5 (47 :: b)) = some (a, N1) ∧ a.status = 5 ∧ doM N1 (rnC zz9 (47 :: b)) = some (⟨5, 0, 0, 0, [], []⟩, M') ∧ M' = N1 := by
  have hp : placeT N1.T N1.root N1.cwd (47 :: b) = some (.inr 5) := place_bad (names_bad (T := N1.T) (by kernel_rfl) (clean_bad h hl hn) ha)
  have h9 : placeT N1.T N1.root N1.cwd zz9 = some (.inl (0, zz9)) := by kernel_rfl
  refine ⟨⟨5, 0, 0, 0, [], []⟩, N1, ?_, rfl, ?_, rfl⟩
  · show (match do5 N1 (mkC 5 (47 :: b)) with | none => none | some r => some (outM N1 r)) = _
    have : do5 N1 (mkC 5 (47 :: b)) = some (.inl 5) := by
      unfold do5
      simp only [hp]
    rw [this]
    rfl
  · show (match do13 N1 (rnC zz9 (47 :: b)) with | none => none | some r => some (outM N1 r)) = _
    have : do13 N1 (rnC zz9 (47 :: b)) = some (.inl 5) := by
      have hr : renT N1.T N1.root N1.cwd zz9 (47 :: b) = some (.inl 5) := by
        unfold renT
        simp only [h9, hp]
      unfold do13
      show (match renT N1.T N1.root N1.cwd zz9 (47 :: b) with | none => none | some (Sum.inl n) => some (Sum.inl n) | some (Sum.inr none) => some (Sum.inr (an0, N1)) | some (Sum.inr (some m)) => _) = _
      rw [hr]
    rw [this]
    rfl
theorem m1_good {b : List Nat} (h : noSl b) (hn : noName b = false) (hz : eqB b zz9 = false) (ha : asciiB (47 :: b) = true) : doM N1 (mkC 5 (47 :: b)) = some (an0, N2 b) := by
  obtain ⟨_, hl, _⟩ := clean_good h hn
  have hp : placeT N1.T N1.root N1.cwd (47 :: b) = some (.inl (0, b)) := place_good (T := N1.T) (rd := ⟨1, 493, [], [(zz9, 1)], none, [], 0⟩) rfl rfl (names_good (by kernel_rfl) h hn ha)
  have hd : deepT N1.T 20 0 = some 0 := by kernel_rfl
  have hpt : pathT N1.T 20 0 = some [] := by kernel_rfl
  have hT : N1.T 0 = some ⟨1, 493, [], [(zz9, 1)], none, [], 0⟩ := rfl
  have hlk : lookK b [(zz9, 1)] = none := by
    simp only [lookK, hz, cond_false]
  have hb1 : (Nat.ble (([] : List Nat).length + b.length) 1000000 && Nat.ble 0 1000000) = true := by
    rw [Nat.ble_eq.mpr (by simp; omega)]
    rfl
  have hf : fitsB (0 + 1) (joinP [] b).length = true := by
    show (Nat.ble 1 8 && Nat.ble b.length 140) = true
    rw [Nat.ble_eq.mpr (by omega : b.length ≤ 140)]
    rfl
  show (match do5 N1 (mkC 5 (47 :: b)) with | none => none | some r => some (outM N1 r)) = _
  have : do5 N1 (mkC 5 (47 :: b)) = some (.inr (an0, N2 b)) := by
    unfold do5
    simp only [hp, hT, hd, hpt, hb1, cond_true, hlk, hf]
    have hset : setK b N1.nodes.length [(zz9, 1)] = [(zz9, 1), (b, 2)] := by
      simp only [setK, hz, cond_false]
      rfl
    have : addN N1 0 ⟨1, 493, [], [(zz9, 1)], none, [], 0⟩ b ⟨2, 420, [], [], some 0, b, 0⟩ = N2 b := by
      unfold addN
      rw [hset]
      rfl
    rw [this]
    rfl
  rw [this]
  rfl
theorem eqB_comm {a b : List Nat} (h : eqB a b = false) : eqB b a = false := by
  rw [eqB_iff, decide_eq_false_iff_not] at h ⊢
  exact fun e => h e.symm
theorem m2_rn {b p : List Nat} (h9p : namesT (N2 b).T 0 p = some (.inl [zz9])) (h : noSl b) (hn : noName b = false) (hz : eqB b zz9 = false) (ha : asciiB (47 :: b) = true) : ∃ M', doM (N2 b) (rnC p (47 :: b)) = some (an0, M') := by
  obtain ⟨_, hl, _⟩ := clean_good h hn
  have hT : (N2 b).T 0 = some ⟨1, 493, [], [(zz9, 1), (b, 2)], none, [], 0⟩ := rfl
  have hT1 : (N2 b).T 1 = some ⟨2, 420, [], [], some 0, zz9, 0⟩ := rfl
  have hT2 : (N2 b).T 2 = some ⟨2, 420, [], [], some 0, b, 0⟩ := rfl
  have hpt : pathT (N2 b).T 20 0 = some [] := by kernel_rfl
  have hd : deepT (N2 b).T 20 0 = some 0 := by kernel_rfl
  have hp : placeT (N2 b).T (N2 b).root (N2 b).cwd (47 :: b) = some (.inl (0, b)) := place_good (T := (N2 b).T) hT rfl (names_good hpt h hn ha)
  have h9 : placeT (N2 b).T (N2 b).root (N2 b).cwd p = some (.inl (0, zz9)) := place_good (T := (N2 b).T) hT rfl h9p
  have k1 : lookK zz9 [(zz9, 1), (b, 2)] = some 1 := by
    simp only [lookK, eqB_self, cond_true]
  have k2 : lookK b [(zz9, 1), (b, 2)] = some 2 := by
    simp only [lookK, hz, eqB_self, cond_false, cond_true]
  have hf : fitT (N2 b).T 0 b 1 = some true := by
    unfold fitT
    simp only [hd, hpt]
    have h1 : (Nat.ble 0 900 && (Nat.ble (([] : List Nat).length + b.length) 1000000 && Nat.ble (joinP [] b).length 100000)) = true := by
      show (true && (Nat.ble (([] : List Nat).length + b.length) 1000000 && Nat.ble b.length 100000)) = true
      rw [Nat.ble_eq.mpr (by simp; omega), Nat.ble_eq.mpr (by omega : b.length ≤ 100000)]
      rfl
    have h2 : fitsB (0 + 1) (joinP [] b).length = true := by
      show (Nat.ble 1 8 && Nat.ble b.length 140) = true
      rw [Nat.ble_eq.mpr (by omega : b.length ≤ 140)]
      rfl
    rw [h1, h2]
    simp only [cond_true]
    unfold eachT
    rw [hT1]
    rfl
  have hy : yT (N2 b).T (N2 b).cwd false 2 = some none := by
    unfold yT
    rw [hT2]
    rfl
  have hr : renT (N2 b).T (N2 b).root (N2 b).cwd p (47 :: b) = some (.inr (some ⟨0, zz9, 1, 0, b, some 2⟩)) := by
    unfold renT
    simp only [h9, hp, hT, k1, k2, hT1, hT2]
    show renE (N2 b).T (N2 b).cwd 0 zz9 1 ⟨2, 420, [], [], some 0, zz9, 0⟩ 0 b (some 2) = _
    unfold renE
    have hdk : decide ((2 : Int) = 1) = false := rfl
    simp only [hdk, cond_false, hy, hf]
    rfl
  refine ⟨{ N2 b with nodes := renN (N2 b).nodes ⟨0, zz9, 1, 0, b, some 2⟩ ⟨1, 493, [], [(zz9, 1), (b, 2)], none, [], 0⟩ ⟨1, 493, [], [(zz9, 1), (b, 2)], none, [], 0⟩ ⟨2, 420, [], [], some 0, zz9, 0⟩, many := (N2 b).many - 1 }, ?_⟩
  show (match do13 (N2 b) (rnC p (47 :: b)) with | none => none | some r => some (outM (N2 b) r)) = _
  have : do13 (N2 b) (rnC p (47 :: b)) = some (.inr (an0, { N2 b with nodes := renN (N2 b).nodes ⟨0, zz9, 1, 0, b, some 2⟩ ⟨1, 493, [], [(zz9, 1), (b, 2)], none, [], 0⟩ ⟨1, 493, [], [(zz9, 1), (b, 2)], none, [], 0⟩ ⟨2, 420, [], [], some 0, zz9, 0⟩, many := (N2 b).many - 1 })) := by
    unfold do13
    show (match renT (N2 b).T (N2 b).root (N2 b).cwd p (47 :: b) with | none => none | some (Sum.inl n) => some (Sum.inl n) | some (Sum.inr none) => some (Sum.inr (an0, N2 b)) | some (Sum.inr (some m)) => _) = _
    rw [hr]
    simp only [hT, hT1]
    rfl
  rw [this]
  rfl
theorem lead_root {M : Md} (hp : pathT M.T 20 M.cwd = some []) {p : List Nat} : leadM M p = (match cleanL [] p with | (at', e) => bif Nat.beq e 0 then some (.inl (47 :: at')) else bif Nat.beq e 402 || Nat.beq e 403 then some (.inr 8) else some (.inr 5)) := by
  unfold leadM
  rw [hp]
  rfl
theorem pr1_l {M : Md} {c : Cl} {p : List Nat} (h1 : decide (c.op = 13) = false) (h2 : (decide (1 ≤ c.op) && decide (c.op ≤ 14) || decide (c.op = 18)) = true) (hl : leadM M c.path = some (.inl p)) : prM M c = doM M { c with path := p } := by
  unfold prM
  rw [h1, h2, hl]
  rfl
theorem pr1_r {M : Md} {c : Cl} {n : Int} (h1 : decide (c.op = 13) = false) (h2 : (decide (1 ≤ c.op) && decide (c.op ≤ 14) || decide (c.op = 18)) = true) (hl : leadM M c.path = some (.inr n)) : prM M c = some (anS n, M) := by
  unfold prM
  rw [h1, h2, hl]
  rfl
theorem pr2_l {M : Md} {c : Cl} {p q : List Nat} (h1 : decide (c.op = 13) = true) (hl : leadM M c.path = some (.inl p)) (hm : leadM M c.path2 = some (.inl q)) : prM M c = doM M { c with path := p, path2 := q } := by
  unfold prM
  rw [h1, hl, hm]
  rfl
theorem pr2_r {M : Md} {c : Cl} {p : List Nat} {n : Int} (h1 : decide (c.op = 13) = true) (hl : leadM M c.path = some (.inl p)) (hm : leadM M c.path2 = some (.inr n)) : prM M c = some (anS n, M) := by
  unfold prM
  rw [h1, hl, hm]
  rfl
theorem lead_z1 : leadM N1 zz9 = some (.inl (47 :: zz9)) := by kernel_rfl
theorem n5_make : doM N1 (mkC 5 [47]) = some (anS 5, N1) := by kernel_rfl
theorem n5_ren : doM N1 (rnC (47 :: zz9) [47]) = some (⟨5, 0, 0, 0, [], []⟩, N1) := by kernel_rfl
theorem n1_bad {b : List Nat} (h : noSl b) (hl : b.length ≤ 500) (hn : noName b = true) (ha : asciiB (47 :: b) = true) : ∃ a M', prM N1 (mkC 5 (47 :: b)) = some (a, N1) ∧ a.status = 5 ∧ prM N1 (rnC zz9 (47 :: b)) = some (⟨5, 0, 0, 0, [], []⟩, M') ∧ M' = N1 := by
  have hp : pathT N1.T 20 N1.cwd = some [] := by kernel_rfl
  refine ⟨anS 5, N1, ?_, rfl, ?_, rfl⟩
  · rcases clean_bad h hl hn with e | e
    · have l : leadM N1 (mkC 5 (47 :: b)).path = some (.inl [47]) := by
        show leadM N1 (47 :: b) = _
        rw [lead_root hp, e]
        rfl
      exact (pr1_l rfl rfl l).trans n5_make
    · have l : leadM N1 (mkC 5 (47 :: b)).path = some (.inr 5) := by
        show leadM N1 (47 :: b) = _
        rw [lead_root hp, e]
        rfl
      exact pr1_r rfl rfl l
  · rcases clean_bad h hl hn with e | e
    · have l : leadM N1 (rnC zz9 (47 :: b)).path2 = some (.inl [47]) := by
        show leadM N1 (47 :: b) = _
        rw [lead_root hp, e]
        rfl
      exact (pr2_l rfl lead_z1 l).trans n5_ren
    · have l : leadM N1 (rnC zz9 (47 :: b)).path2 = some (.inr 5) := by
        show leadM N1 (47 :: b) = _
        rw [lead_root hp, e]
        rfl
      exact pr2_r rfl lead_z1 l
theorem n1_good {b : List Nat} (h : noSl b) (hn : noName b = false) (hz : eqB b zz9 = false) (ha : asciiB (47 :: b) = true) : prM N1 (mkC 5 (47 :: b)) = some (an0, N2 b) := by
  have hp : pathT N1.T 20 N1.cwd = some [] := by kernel_rfl
  have l : leadM N1 (mkC 5 (47 :: b)).path = some (.inl (47 :: b)) := by
    show leadM N1 (47 :: b) = _
    rw [lead_root hp, (clean_good h hn).1]
    rfl
  rw [pr1_l rfl rfl l]
  exact m1_good h hn hz ha
theorem n2_rn {b : List Nat} (h : noSl b) (hn : noName b = false) (hz : eqB b zz9 = false) (ha : asciiB (47 :: b) = true) : ∃ M', prM (N2 b) (rnC zz9 (47 :: b)) = some (an0, M') := by
  have hp : pathT (N2 b).T 20 (N2 b).cwd = some [] := by kernel_rfl
  have l1 : leadM (N2 b) (rnC zz9 (47 :: b)).path = some (.inl (47 :: zz9)) := by
    show leadM (N2 b) zz9 = _
    rw [lead_root hp]
    kernel_rfl
  have l2 : leadM (N2 b) (rnC zz9 (47 :: b)).path2 = some (.inl (47 :: b)) := by
    show leadM (N2 b) (47 :: b) = _
    rw [lead_root hp, (clean_good h hn).1]
    rfl
  rw [pr2_l rfl l1 l2]
  exact m2_rn (p := 47 :: zz9) (by kernel_rfl) h hn hz ha
end Go.AX
namespace Go.AX
open Go.Proofs Go.RowKit
set_option maxRecDepth 1000000
set_option maxHeartbeats 40000000
set_option linter.unusedSimpArgs false
set_option linter.unusedVariables false

theorem ix_s {b : List Nat} {i c : Nat} (h : b[i]? = some c) : indexA TE 9 (.str b) (.raw (.int .i64 (i : Int))) = some (.raw (.int .u8 (c : Int))) := by
  have e : indexA TE 9 (.str b) (.raw (.int .i64 (i : Int))) = (match b[i]? with | some c => some (.raw (.int .u8 (.ofNat c))) | none => none) := by kernel_rfl
  rw [e, h]
  rfl
def zeroB : List Nat → Bool
  | [] => false
  | c :: l => Nat.beq c 0 || zeroB l
theorem zero_app : ∀ {l : List Nat} {c : Nat}, zeroB (l ++ [c]) = (zeroB l || Nat.beq c 0)
  | [], c => by simp [zeroB]
  | x :: l, c => by simp only [List.cons_append, zeroB, zero_app (l := l), Bool.or_assoc]
theorem any_zero : ∀ {l : List Nat}, noSl l → anyB [47, 0] l = zeroB l
  | [], _ => rfl
  | c :: l, h => by
    have hc : Nat.beq c 47 = false := by
      cases hb : Nat.beq c 47 with
      | false => rfl
      | true => exact absurd (Nat.eq_of_beq_eq_true hb) (h c (List.mem_cons_self ..))
    have ih := any_zero (l := l) (fun x hx => h x (List.mem_cons_of_mem _ hx))
    unfold anyB zeroB
    simp only [memB, hc, cond_false]
    rw [ih]
    cases Nat.beq c 0 <;> rfl
/-- What is known of a text before its bytes are looked at. -/
def earlyB (b : List Nat) : Bool := decide ((b.length : Int) > 16) || (eqB b [] || (eqB b [46] || eqB b [46, 46]))
theorem early_no {b : List Nat} (h : noSl b) : noName b = (earlyB b || zeroB b) := by
  unfold noName badB earlyB
  rw [any_zero h]
  have e : Nat.blt 16 b.length = decide ((b.length : Int) > 16) := by
    cases hb : Nat.blt 16 b.length with
    | true => rw [decide_eq_true (by have := Nat.blt_eq.mp hb; omega)]
    | false =>
      rw [decide_eq_false]
      intro hgt
      rw [Nat.blt_eq.mpr (by omega)] at hb
      cases hb
  rw [e]
  cases eqB b [] <;> cases decide ((b.length : Int) > 16) <;> cases eqB b [46] <;> cases eqB b [46, 46] <;> cases zeroB b <;> rfl
theorem nm_upR : ask N1 (qC 1 [47, 46, 46, 47, 46, 46, 47, 122, 122, 57]) (st 0) (fun _ M' => ask M' (qC 1 []) (st 5) (fun _ _ => true)) = true := by kernel_rfl
theorem nm_up : ∃ a M', prM N1 (qC 1 [47, 46, 46, 47, 46, 46, 47, 122, 122, 57]) = some (a, M') ∧ a.status = 0 ∧ ∃ a2 M2, prM M' (qC 1 []) = some (a2, M2) ∧ a2.status = 5 := by
  obtain ⟨a, M1, e1, p1, h⟩ := ask_inv nm_upR
  obtain ⟨a2, M2, e2, p2, _⟩ := ask_inv h
  exact ⟨a, M1, e1, st_of p1, a2, M2, e2, st_of p2⟩
theorem nm_sameR : ask N1 (mkC 5 [47, 122, 122, 57]) (st 2) (fun _ M' => ask M' (rnC zz9 [47, 122, 122, 57]) (fun _ => true) (fun _ _ => true)) = true := by kernel_rfl
theorem nm_same : ∃ a M', prM N1 (mkC 5 [47, 122, 122, 57]) = some (a, M') ∧ a.status = 2 ∧ ∃ a2 M2, prM M' (rnC zz9 [47, 122, 122, 57]) = some (a2, M2) := by
  obtain ⟨a, M1, e1, p1, h⟩ := ask_inv nm_sameR
  obtain ⟨a2, M2, e2, p2, _⟩ := ask_inv h
  exact ⟨a, M1, e1, st_of p1, a2, M2, e2⟩
theorem lawNm_c {b : List Nat} {s : St} (hW : WL s M0 []) : (sem Tryz.prog).call 43 [.fn 62 [.ptr 13 0], .str b] s (fun v _ => isTrue v) (fun _ _ => false) = true := by
  have H := ok4
  refine w_call H 100 fn_43 rfl rfl ?_
  by_cases hl : b.length > 500
  · have g0 : decide ((b.length : Int) > 500) = true := by rw [decide_eq_true_eq]; omega
    repeat (first | with_reducible (refine w_one H ?_; constructor) | simp only [rB, rP, rQ, boolA, intA, resultA, resA, reduceIte, reduceCtorEq, Nat.reduceAdd, Nat.reduceLT, Nat.reduceEqDiff, UInt8.reduceToNat, pe4, pf4, b_eqi, b_nei, b_lt, b_le, b_gt, b_ge, fn_an0, fn_an1, fn_an4, fn_an5, bc_01, bc_012, bc_015, bc_0145, bc_0147, bc_016, bc_0167, bc_017, bc_03, bc_035, bc_0347, beq_self_eq_true, bne_self_eq_false, Int.reduceBEq, Int.reduceBNe, Int.reduceLT, Int.reduceLE, Int.reduceGT, decide_true, decide_false, eqB_self, la_cons, la_nil, b_plus, len_str, g0, Tryz.results43])
    rfl
  have g0 : decide ((b.length : Int) > 500) = false := by rw [decide_eq_false_iff_not]; omega
  refine w_seq H ?_
  refine w_region H ?_
  simp only [rB, rP, rQ, boolA, intA, resultA, resA, reduceIte, reduceCtorEq, Nat.reduceAdd, Nat.reduceLT, Nat.reduceEqDiff, UInt8.reduceToNat, pe4, pf4, b_eqi, b_nei, b_lt, b_le, b_gt, b_ge, fn_an0, fn_an1, fn_an4, fn_an5, bc_01, bc_012, bc_015, bc_0145, bc_0147, bc_016, bc_0167, bc_017, bc_03, bc_035, bc_0347, beq_self_eq_true, bne_self_eq_false, Int.reduceBEq, Int.reduceBNe, Int.reduceLT, Int.reduceLE, Int.reduceGT, decide_true, decide_false, eqB_self, la_cons, la_nil, b_plus]
  refine w_seq H ?_
  refine w_seq H ?_
  refine w_region H ?_
  simp only [rB, rP, rQ, boolA, intA, resultA, resA, reduceIte, reduceCtorEq, Nat.reduceAdd, Nat.reduceLT, Nat.reduceEqDiff, UInt8.reduceToNat, pe4, pf4, b_eqi, b_nei, b_lt, b_le, b_gt, b_ge, fn_an0, fn_an1, fn_an4, fn_an5, bc_01, bc_012, bc_015, bc_0145, bc_0147, bc_016, bc_0167, bc_017, bc_03, bc_035, bc_0347, beq_self_eq_true, bne_self_eq_false, Int.reduceBEq, Int.reduceBNe, Int.reduceLT, Int.reduceLE, Int.reduceGT, decide_true, decide_false, eqB_self, la_cons, la_nil, b_plus, len_str, g0]
  (with_reducible refine w_cond H _ (by simp only [rB, rP, rQ, boolA, intA, resultA, resA, reduceIte, reduceCtorEq, Nat.reduceAdd, Nat.reduceLT, Nat.reduceEqDiff, UInt8.reduceToNat, pe4, pf4, b_eqi, b_nei, b_lt, b_le, b_gt, b_ge, fn_an0, fn_an1, fn_an4, fn_an5, bc_01, bc_012, bc_015, bc_0145, bc_0147, bc_016, bc_0167, bc_017, bc_03, bc_035, bc_0347, beq_self_eq_true, bne_self_eq_false, Int.reduceBEq, Int.reduceBNe, Int.reduceLT, Int.reduceLE, Int.reduceGT, decide_true, decide_false, eqB_self, la_cons, la_nil, b_plus]; rfl) ?_; simp only [cond_true, cond_false])
  refine w_skip H ?_
  refine w_seq H ?_
  refine w_via (fun ex a' s' => ∃ t, ex = .normal ∧ a' = ⟨t, 100, []⟩ ∧ s' = s ∧ tg t 0 = .fn 62 [.ptr 13 0] ∧ tg t 1 = .str b ∧ tg t 5 = .raw (.bool (earlyB b))) ?_ ?_
  · intro k' hk'
    unfold earlyB at hk'
    cases h1 : decide ((b.length : Int) > 16) with
    | true =>
      rw [h1] at hk'
      repeat (first | with_reducible (refine w_one H ?_; constructor) | simp only [rB, rP, rQ, boolA, intA, resultA, resA, reduceIte, reduceCtorEq, Nat.reduceAdd, Nat.reduceLT, Nat.reduceEqDiff, UInt8.reduceToNat, pe4, pf4, b_eqi, b_nei, b_lt, b_le, b_gt, b_ge, fn_an0, fn_an1, fn_an4, fn_an5, bc_01, bc_012, bc_015, bc_0145, bc_0147, bc_016, bc_0167, bc_017, bc_03, bc_035, bc_0347, beq_self_eq_true, bne_self_eq_false, Int.reduceBEq, Int.reduceBNe, Int.reduceLT, Int.reduceLE, Int.reduceGT, decide_true, decide_false, eqB_self, la_cons, la_nil, b_plus, len_str, h1])
      exact hk' _ _ _ ⟨_, rfl, rfl, rfl, by simp only [rB, rP, rQ, boolA, intA, resultA, resA, reduceIte, reduceCtorEq, Nat.reduceAdd, Nat.reduceLT, Nat.reduceEqDiff, UInt8.reduceToNat], by simp only [rB, rP, rQ, boolA, intA, resultA, resA, reduceIte, reduceCtorEq, Nat.reduceAdd, Nat.reduceLT, Nat.reduceEqDiff, UInt8.reduceToNat], by simp only [rB, rP, rQ, boolA, intA, resultA, resA, reduceIte, reduceCtorEq, Nat.reduceAdd, Nat.reduceLT, Nat.reduceEqDiff, UInt8.reduceToNat]⟩
    | false =>
      rw [h1] at hk'
      cases h2 : eqB b [] with
      | true =>
        rw [h2] at hk'
        repeat (first | with_reducible (refine w_one H ?_; constructor) | simp only [rB, rP, rQ, boolA, intA, resultA, resA, reduceIte, reduceCtorEq, Nat.reduceAdd, Nat.reduceLT, Nat.reduceEqDiff, UInt8.reduceToNat, pe4, pf4, b_eqi, b_nei, b_lt, b_le, b_gt, b_ge, fn_an0, fn_an1, fn_an4, fn_an5, bc_01, bc_012, bc_015, bc_0145, bc_0147, bc_016, bc_0167, bc_017, bc_03, bc_035, bc_0347, beq_self_eq_true, bne_self_eq_false, Int.reduceBEq, Int.reduceBNe, Int.reduceLT, Int.reduceLE, Int.reduceGT, decide_true, decide_false, eqB_self, la_cons, la_nil, b_plus, len_str, b_eqs, h1, h2])
        exact hk' _ _ _ ⟨_, rfl, rfl, rfl, by simp only [rB, rP, rQ, boolA, intA, resultA, resA, reduceIte, reduceCtorEq, Nat.reduceAdd, Nat.reduceLT, Nat.reduceEqDiff, UInt8.reduceToNat], by simp only [rB, rP, rQ, boolA, intA, resultA, resA, reduceIte, reduceCtorEq, Nat.reduceAdd, Nat.reduceLT, Nat.reduceEqDiff, UInt8.reduceToNat], by simp only [rB, rP, rQ, boolA, intA, resultA, resA, reduceIte, reduceCtorEq, Nat.reduceAdd, Nat.reduceLT, Nat.reduceEqDiff, UInt8.reduceToNat]⟩
      | false =>
        rw [h2] at hk'
        cases h3 : eqB b [46] with
        | true =>
          rw [h3] at hk'
          repeat (first | with_reducible (refine w_one H ?_; constructor) | simp only [rB, rP, rQ, boolA, intA, resultA, resA, reduceIte, reduceCtorEq, Nat.reduceAdd, Nat.reduceLT, Nat.reduceEqDiff, UInt8.reduceToNat, pe4, pf4, b_eqi, b_nei, b_lt, b_le, b_gt, b_ge, fn_an0, fn_an1, fn_an4, fn_an5, bc_01, bc_012, bc_015, bc_0145, bc_0147, bc_016, bc_0167, bc_017, bc_03, bc_035, bc_0347, beq_self_eq_true, bne_self_eq_false, Int.reduceBEq, Int.reduceBNe, Int.reduceLT, Int.reduceLE, Int.reduceGT, decide_true, decide_false, eqB_self, la_cons, la_nil, b_plus, len_str, b_eqs, h1, h2, h3])
          exact hk' _ _ _ ⟨_, rfl, rfl, rfl, by simp only [rB, rP, rQ, boolA, intA, resultA, resA, reduceIte, reduceCtorEq, Nat.reduceAdd, Nat.reduceLT, Nat.reduceEqDiff, UInt8.reduceToNat], by simp only [rB, rP, rQ, boolA, intA, resultA, resA, reduceIte, reduceCtorEq, Nat.reduceAdd, Nat.reduceLT, Nat.reduceEqDiff, UInt8.reduceToNat], by simp only [rB, rP, rQ, boolA, intA, resultA, resA, reduceIte, reduceCtorEq, Nat.reduceAdd, Nat.reduceLT, Nat.reduceEqDiff, UInt8.reduceToNat]⟩
        | false =>
          rw [h3] at hk'
          cases h4 : eqB b [46, 46] with
          | true =>
            rw [h4] at hk'
            repeat (first | with_reducible (refine w_one H ?_; constructor) | simp only [rB, rP, rQ, boolA, intA, resultA, resA, reduceIte, reduceCtorEq, Nat.reduceAdd, Nat.reduceLT, Nat.reduceEqDiff, UInt8.reduceToNat, pe4, pf4, b_eqi, b_nei, b_lt, b_le, b_gt, b_ge, fn_an0, fn_an1, fn_an4, fn_an5, bc_01, bc_012, bc_015, bc_0145, bc_0147, bc_016, bc_0167, bc_017, bc_03, bc_035, bc_0347, beq_self_eq_true, bne_self_eq_false, Int.reduceBEq, Int.reduceBNe, Int.reduceLT, Int.reduceLE, Int.reduceGT, decide_true, decide_false, eqB_self, la_cons, la_nil, b_plus, len_str, b_eqs, h1, h2, h3, h4])
            exact hk' _ _ _ ⟨_, rfl, rfl, rfl, by simp only [rB, rP, rQ, boolA, intA, resultA, resA, reduceIte, reduceCtorEq, Nat.reduceAdd, Nat.reduceLT, Nat.reduceEqDiff, UInt8.reduceToNat], by simp only [rB, rP, rQ, boolA, intA, resultA, resA, reduceIte, reduceCtorEq, Nat.reduceAdd, Nat.reduceLT, Nat.reduceEqDiff, UInt8.reduceToNat], by simp only [rB, rP, rQ, boolA, intA, resultA, resA, reduceIte, reduceCtorEq, Nat.reduceAdd, Nat.reduceLT, Nat.reduceEqDiff, UInt8.reduceToNat]⟩
          | false =>
            rw [h4] at hk'
            repeat (first | with_reducible (refine w_one H ?_; constructor) | simp only [rB, rP, rQ, boolA, intA, resultA, resA, reduceIte, reduceCtorEq, Nat.reduceAdd, Nat.reduceLT, Nat.reduceEqDiff, UInt8.reduceToNat, pe4, pf4, b_eqi, b_nei, b_lt, b_le, b_gt, b_ge, fn_an0, fn_an1, fn_an4, fn_an5, bc_01, bc_012, bc_015, bc_0145, bc_0147, bc_016, bc_0167, bc_017, bc_03, bc_035, bc_0347, beq_self_eq_true, bne_self_eq_false, Int.reduceBEq, Int.reduceBNe, Int.reduceLT, Int.reduceLE, Int.reduceGT, decide_true, decide_false, eqB_self, la_cons, la_nil, b_plus, len_str, b_eqs, h1, h2, h3, h4])
            exact hk' _ _ _ ⟨_, rfl, rfl, rfl, by simp only [rB, rP, rQ, boolA, intA, resultA, resA, reduceIte, reduceCtorEq, Nat.reduceAdd, Nat.reduceLT, Nat.reduceEqDiff, UInt8.reduceToNat], by simp only [rB, rP, rQ, boolA, intA, resultA, resA, reduceIte, reduceCtorEq, Nat.reduceAdd, Nat.reduceLT, Nat.reduceEqDiff, UInt8.reduceToNat], by simp only [rB, rP, rQ, boolA, intA, resultA, resA, reduceIte, reduceCtorEq, Nat.reduceAdd, Nat.reduceLT, Nat.reduceEqDiff, UInt8.reduceToNat]⟩
  rintro ex a' s' ⟨tt, rfl, rfl, rfl, u0, u1, u5⟩
  repeat (first | with_reducible (refine w_one H ?_; constructor) | simp only [rB, rP, rQ, boolA, intA, resultA, resA, reduceIte, reduceCtorEq, Nat.reduceAdd, Nat.reduceLT, Nat.reduceEqDiff, UInt8.reduceToNat, pe4, pf4, b_eqi, b_nei, b_lt, b_le, b_gt, b_ge, fn_an0, fn_an1, fn_an4, fn_an5, bc_01, bc_012, bc_015, bc_0145, bc_0147, bc_016, bc_0167, bc_017, bc_03, bc_035, bc_0347, beq_self_eq_true, bne_self_eq_false, Int.reduceBEq, Int.reduceBNe, Int.reduceLT, Int.reduceLE, Int.reduceGT, decide_true, decide_false, eqB_self, la_cons, la_nil, b_plus, u0, u1, u5])
  refine w_loop_ind H (fun n t s2 => ∃ (i : Nat), n + i = b.length ∧ tg t 0 = .fn 62 [.ptr 13 0] ∧ tg t 1 = .str b ∧ tg t 5 = .raw (.bool (earlyB b || zeroB (b.take i))) ∧ tg t 6 = .raw (.int .i64 (i : Int)) ∧ noSl (b.take i) ∧ s2 = s') (n := b.length)
    ⟨0, rfl, by simp only [rB, rP, rQ, boolA, intA, resultA, resA, reduceIte, reduceCtorEq, Nat.reduceAdd, Nat.reduceLT, Nat.reduceEqDiff, UInt8.reduceToNat, u0], by simp only [rB, rP, rQ, boolA, intA, resultA, resA, reduceIte, reduceCtorEq, Nat.reduceAdd, Nat.reduceLT, Nat.reduceEqDiff, UInt8.reduceToNat, u1], by simp only [rB, rP, rQ, boolA, intA, resultA, resA, reduceIte, reduceCtorEq, Nat.reduceAdd, Nat.reduceLT, Nat.reduceEqDiff, UInt8.reduceToNat, u5]; simp [zeroB], by simp only [rB, rP, rQ, boolA, intA, resultA, resA, reduceIte, reduceCtorEq, Nat.reduceAdd, Nat.reduceLT, Nat.reduceEqDiff, UInt8.reduceToNat]; rfl, fun c hc => by simp at hc, rfl⟩ ?_
  rintro n t s2 ih ⟨i, hn, t0, t1, t5, t6, hno, hs⟩
  subst hs
  clear u0 u1 u5
  cases n with
  | succ n =>
    have hi : i < b.length := by omega
    have hbi : b[i]? = some b[i] := List.getElem?_eq_getElem hi
    generalize b[i] = c at hbi
    have ix := ix_s hbi
    have htk : b.take (i + 1) = b.take i ++ [c] := by rw [List.take_add_one, hbi]; rfl
    have g1 : decide ((i : Int) < (b.length : Int)) = true := by rw [decide_eq_true_eq]; omega
    have ew : IntKind.i64.wrap ((i : Int) + 1) = ((i + 1 : Nat) : Int) := by
      rw [show (i : Int) + 1 = ((i + 1 : Nat) : Int) from by simp]
      exact wrap_nat (by omega)
    by_cases hc : c = 47
    · subst hc
      have hc1 : (((47 : Nat) : Int) == 47) = true := rfl
      repeat (first | with_reducible (refine w_one H ?_; constructor) | simp only [rB, rP, rQ, boolA, intA, resultA, resA, reduceIte, reduceCtorEq, Nat.reduceAdd, Nat.reduceLT, Nat.reduceEqDiff, UInt8.reduceToNat, pe4, pf4, b_eqi, b_nei, b_lt, b_le, b_gt, b_ge, fn_an0, fn_an1, fn_an4, fn_an5, bc_01, bc_012, bc_015, bc_0145, bc_0147, bc_016, bc_0167, bc_017, bc_03, bc_035, bc_0347, beq_self_eq_true, bne_self_eq_false, Int.reduceBEq, Int.reduceBNe, Int.reduceLT, Int.reduceLE, Int.reduceGT, decide_true, decide_false, eqB_self, la_cons, la_nil, b_plus, len_str, t0, t1, t5, t6, g1, ix, hc1, Tryz.results43])
      rfl
    · have hc1 : ((c : Int) == 47) = false := by rw [beq_eq_false_iff_ne]; omega
      have hno' : noSl (b.take (i + 1)) := by
        rw [htk]
        intro x hx
        rcases List.mem_append.mp hx with hx | hx
        · exact hno x hx
        · simp only [List.mem_singleton] at hx
          rw [hx]
          exact hc
      have hz : zeroB (b.take (i + 1)) = (zeroB (b.take i) || Nat.beq c 0) := by rw [htk, zero_app]
      cases hB : (earlyB b || zeroB (b.take i)) with
      | true =>
        rw [hB] at t5
        repeat (first | with_reducible (refine w_one H ?_; constructor) | simp only [rB, rP, rQ, boolA, intA, resultA, resA, reduceIte, reduceCtorEq, Nat.reduceAdd, Nat.reduceLT, Nat.reduceEqDiff, UInt8.reduceToNat, pe4, pf4, b_eqi, b_nei, b_lt, b_le, b_gt, b_ge, fn_an0, fn_an1, fn_an4, fn_an5, bc_01, bc_012, bc_015, bc_0145, bc_0147, bc_016, bc_0167, bc_017, bc_03, bc_035, bc_0347, beq_self_eq_true, bne_self_eq_false, Int.reduceBEq, Int.reduceBNe, Int.reduceLT, Int.reduceLE, Int.reduceGT, decide_true, decide_false, eqB_self, la_cons, la_nil, b_plus, len_str, t0, t1, t5, t6, g1, ix, hc1, ew])
        exact ih n _ _ (by omega) ⟨i + 1, by omega, by simp only [rB, rP, rQ, boolA, intA, resultA, resA, reduceIte, reduceCtorEq, Nat.reduceAdd, Nat.reduceLT, Nat.reduceEqDiff, UInt8.reduceToNat, t0], by simp only [rB, rP, rQ, boolA, intA, resultA, resA, reduceIte, reduceCtorEq, Nat.reduceAdd, Nat.reduceLT, Nat.reduceEqDiff, UInt8.reduceToNat, t1], by rw [hz, ← Bool.or_assoc, hB]; simp only [rB, rP, rQ, boolA, intA, resultA, resA, reduceIte, reduceCtorEq, Nat.reduceAdd, Nat.reduceLT, Nat.reduceEqDiff, UInt8.reduceToNat], by simp only [rB, rP, rQ, boolA, intA, resultA, resA, reduceIte, reduceCtorEq, Nat.reduceAdd, Nat.reduceLT, Nat.reduceEqDiff, UInt8.reduceToNat], hno', rfl⟩
      | false =>
        rw [hB] at t5
        cases h0 : Nat.beq c 0 with
        | true =>
          have hc0 : ((c : Int) == 0) = true := by have := Nat.eq_of_beq_eq_true h0; subst this; rfl
          repeat (first | with_reducible (refine w_one H ?_; constructor) | simp only [rB, rP, rQ, boolA, intA, resultA, resA, reduceIte, reduceCtorEq, Nat.reduceAdd, Nat.reduceLT, Nat.reduceEqDiff, UInt8.reduceToNat, pe4, pf4, b_eqi, b_nei, b_lt, b_le, b_gt, b_ge, fn_an0, fn_an1, fn_an4, fn_an5, bc_01, bc_012, bc_015, bc_0145, bc_0147, bc_016, bc_0167, bc_017, bc_03, bc_035, bc_0347, beq_self_eq_true, bne_self_eq_false, Int.reduceBEq, Int.reduceBNe, Int.reduceLT, Int.reduceLE, Int.reduceGT, decide_true, decide_false, eqB_self, la_cons, la_nil, b_plus, len_str, t0, t1, t5, t6, g1, ix, hc1, hc0, ew])
          exact ih n _ _ (by omega) ⟨i + 1, by omega, by simp only [rB, rP, rQ, boolA, intA, resultA, resA, reduceIte, reduceCtorEq, Nat.reduceAdd, Nat.reduceLT, Nat.reduceEqDiff, UInt8.reduceToNat, t0], by simp only [rB, rP, rQ, boolA, intA, resultA, resA, reduceIte, reduceCtorEq, Nat.reduceAdd, Nat.reduceLT, Nat.reduceEqDiff, UInt8.reduceToNat, t1], by rw [hz, ← Bool.or_assoc, hB, h0]; simp only [rB, rP, rQ, boolA, intA, resultA, resA, reduceIte, reduceCtorEq, Nat.reduceAdd, Nat.reduceLT, Nat.reduceEqDiff, UInt8.reduceToNat], by simp only [rB, rP, rQ, boolA, intA, resultA, resA, reduceIte, reduceCtorEq, Nat.reduceAdd, Nat.reduceLT, Nat.reduceEqDiff, UInt8.reduceToNat], hno', rfl⟩
        | false =>
          have hc0 : ((c : Int) == 0) = false := by
            rw [beq_eq_false_iff_ne]
            intro e
            have : c = 0 := by omega
            subst this
            cases h0
          repeat (first | with_reducible (refine w_one H ?_; constructor) | simp only [rB, rP, rQ, boolA, intA, resultA, resA, reduceIte, reduceCtorEq, Nat.reduceAdd, Nat.reduceLT, Nat.reduceEqDiff, UInt8.reduceToNat, pe4, pf4, b_eqi, b_nei, b_lt, b_le, b_gt, b_ge, fn_an0, fn_an1, fn_an4, fn_an5, bc_01, bc_012, bc_015, bc_0145, bc_0147, bc_016, bc_0167, bc_017, bc_03, bc_035, bc_0347, beq_self_eq_true, bne_self_eq_false, Int.reduceBEq, Int.reduceBNe, Int.reduceLT, Int.reduceLE, Int.reduceGT, decide_true, decide_false, eqB_self, la_cons, la_nil, b_plus, len_str, t0, t1, t5, t6, g1, ix, hc1, hc0, ew])
          exact ih n _ _ (by omega) ⟨i + 1, by omega, by simp only [rB, rP, rQ, boolA, intA, resultA, resA, reduceIte, reduceCtorEq, Nat.reduceAdd, Nat.reduceLT, Nat.reduceEqDiff, UInt8.reduceToNat, t0], by simp only [rB, rP, rQ, boolA, intA, resultA, resA, reduceIte, reduceCtorEq, Nat.reduceAdd, Nat.reduceLT, Nat.reduceEqDiff, UInt8.reduceToNat, t1], by rw [hz, ← Bool.or_assoc, hB, h0]; simp only [rB, rP, rQ, boolA, intA, resultA, resA, reduceIte, reduceCtorEq, Nat.reduceAdd, Nat.reduceLT, Nat.reduceEqDiff, UInt8.reduceToNat], by simp only [rB, rP, rQ, boolA, intA, resultA, resA, reduceIte, reduceCtorEq, Nat.reduceAdd, Nat.reduceLT, Nat.reduceEqDiff, UInt8.reduceToNat], hno', rfl⟩
  | zero =>
    obtain rfl : i = b.length := by omega
    rw [List.take_length] at t5 hno
    rw [← early_no hno] at t5
    have g1 : decide ((b.length : Int) < (b.length : Int)) = false := by rw [decide_eq_false_iff_not]; omega
    have f1 : binFast .add (.str [47]) (.str b) = some (.str (47 :: b)) := b_add (by simp; omega)
    have e1 := nm_make
    cases hB : noName b with
    | true =>
      rw [hB] at t5
      obtain ⟨a2, M', e2, p2, e3, rfl⟩ := n1_bad hno (by omega) hB rfl
      obtain ⟨a4, M4, e4, p4, a5, M5, e5, p5⟩ := nm_up
      repeat (first | with_reducible (refine w_one H ?_; constructor) | simp only [rB, rP, rQ, boolA, intA, resultA, resA, reduceIte, reduceCtorEq, Nat.reduceAdd, Nat.reduceLT, Nat.reduceEqDiff, UInt8.reduceToNat, pe4, pf4, b_eqi, b_nei, b_lt, b_le, b_gt, b_ge, fn_an0, fn_an1, fn_an4, fn_an5, bc_01, bc_012, bc_015, bc_0145, bc_0147, bc_016, bc_0167, bc_017, bc_03, bc_035, bc_0347, beq_self_eq_true, bne_self_eq_false, Int.reduceBEq, Int.reduceBNe, Int.reduceLT, Int.reduceLE, Int.reduceGT, decide_true, decide_false, eqB_self, la_cons, la_nil, b_plus, len_str, t0, t1, t5, t6, g1, f1])
      refine lmake_c ok3 hW e1 (st := 0) rfl ?_
      intro s1 hW hl1
      repeat (first | with_reducible (refine w_one H ?_; constructor) | simp only [rB, rP, rQ, boolA, intA, resultA, resA, reduceIte, reduceCtorEq, Nat.reduceAdd, Nat.reduceLT, Nat.reduceEqDiff, UInt8.reduceToNat, pe4, pf4, b_eqi, b_nei, b_lt, b_le, b_gt, b_ge, fn_an0, fn_an1, fn_an4, fn_an5, bc_01, bc_012, bc_015, bc_0145, bc_0147, bc_016, bc_0167, bc_017, bc_03, bc_035, bc_0347, beq_self_eq_true, bne_self_eq_false, Int.reduceBEq, Int.reduceBNe, Int.reduceLT, Int.reduceLE, Int.reduceGT, decide_true, decide_false, eqB_self, la_cons, la_nil, b_plus, t0, t1, t5, t6, f1])
      refine lmake_c ok3 hW e2 p2 ?_
      intro s2 hW hl2
      repeat (first | with_reducible (refine w_one H ?_; constructor) | simp only [rB, rP, rQ, boolA, intA, resultA, resA, reduceIte, reduceCtorEq, Nat.reduceAdd, Nat.reduceLT, Nat.reduceEqDiff, UInt8.reduceToNat, pe4, pf4, b_eqi, b_nei, b_lt, b_le, b_gt, b_ge, fn_an0, fn_an1, fn_an4, fn_an5, bc_01, bc_012, bc_015, bc_0145, bc_0147, bc_016, bc_0167, bc_017, bc_03, bc_035, bc_0347, beq_self_eq_true, bne_self_eq_false, Int.reduceBEq, Int.reduceBNe, Int.reduceLT, Int.reduceLE, Int.reduceGT, decide_true, decide_false, eqB_self, la_cons, la_nil, b_plus, t0, t1, t5, t6, f1])
      refine lface_c hW e3 ?_
      intro s3 V hW hl3 hV
      repeat (first | with_reducible (refine w_one H ?_; constructor) | simp only [rB, rP, rQ, boolA, intA, resultA, resA, reduceIte, reduceCtorEq, Nat.reduceAdd, Nat.reduceLT, Nat.reduceEqDiff, UInt8.reduceToNat, pe4, pf4, b_eqi, b_nei, b_lt, b_le, b_gt, b_ge, fn_an0, fn_an1, fn_an4, fn_an5, bc_01, bc_012, bc_015, bc_0145, bc_0147, bc_016, bc_0167, bc_017, bc_03, bc_035, bc_0347, beq_self_eq_true, bne_self_eq_false, Int.reduceBEq, Int.reduceBNe, Int.reduceLT, Int.reduceLE, Int.reduceGT, decide_true, decide_false, eqB_self, la_cons, la_nil, b_plus, t0, t1, t5, t6, f1])
      refine lstatus_c ok3 hW e4 p4 ?_
      intro s4 hW hl4
      repeat (first | with_reducible (refine w_one H ?_; constructor) | simp only [rB, rP, rQ, boolA, intA, resultA, resA, reduceIte, reduceCtorEq, Nat.reduceAdd, Nat.reduceLT, Nat.reduceEqDiff, UInt8.reduceToNat, pe4, pf4, b_eqi, b_nei, b_lt, b_le, b_gt, b_ge, fn_an0, fn_an1, fn_an4, fn_an5, bc_01, bc_012, bc_015, bc_0145, bc_0147, bc_016, bc_0167, bc_017, bc_03, bc_035, bc_0347, beq_self_eq_true, bne_self_eq_false, Int.reduceBEq, Int.reduceBNe, Int.reduceLT, Int.reduceLE, Int.reduceGT, decide_true, decide_false, eqB_self, la_cons, la_nil, b_plus, t0, t1, t5, t6, f1])
      refine lstatus_c ok3 hW e5 p5 ?_
      intro s5 hW hl5
      repeat (first | with_reducible (refine w_one H ?_; constructor) | simp only [rB, rP, rQ, boolA, intA, resultA, resA, reduceIte, reduceCtorEq, Nat.reduceAdd, Nat.reduceLT, Nat.reduceEqDiff, UInt8.reduceToNat, pe4, pf4, b_eqi, b_nei, b_lt, b_le, b_gt, b_ge, fn_an0, fn_an1, fn_an4, fn_an5, bc_01, bc_012, bc_015, bc_0145, bc_0147, bc_016, bc_0167, bc_017, bc_03, bc_035, bc_0347, beq_self_eq_true, bne_self_eq_false, Int.reduceBEq, Int.reduceBNe, Int.reduceLT, Int.reduceLE, Int.reduceGT, decide_true, decide_false, eqB_self, la_cons, la_nil, b_plus, t0, t1, t5, t6, f1, Tryz.results43])
      rfl
    | false =>
      rw [hB] at t5
      cases hz : eqB b zz9 with
      | true =>
        rw [eqB_dec] at hz
        have hz := of_decide_eq_true hz
        subst hz
        obtain ⟨a2, M2, e2, p2, a3, M3, e3⟩ := nm_same
        repeat (first | with_reducible (refine w_one H ?_; constructor) | simp only [rB, rP, rQ, boolA, intA, resultA, resA, reduceIte, reduceCtorEq, Nat.reduceAdd, Nat.reduceLT, Nat.reduceEqDiff, UInt8.reduceToNat, pe4, pf4, b_eqi, b_nei, b_lt, b_le, b_gt, b_ge, fn_an0, fn_an1, fn_an4, fn_an5, bc_01, bc_012, bc_015, bc_0145, bc_0147, bc_016, bc_0167, bc_017, bc_03, bc_035, bc_0347, beq_self_eq_true, bne_self_eq_false, Int.reduceBEq, Int.reduceBNe, Int.reduceLT, Int.reduceLE, Int.reduceGT, decide_true, decide_false, eqB_self, la_cons, la_nil, b_plus, len_str, t0, t1, t5, t6, g1, f1])
        refine lmake_c ok3 hW e1 (st := 0) rfl ?_
        intro s1 hW hl1
        repeat (first | with_reducible (refine w_one H ?_; constructor) | simp only [rB, rP, rQ, boolA, intA, resultA, resA, reduceIte, reduceCtorEq, Nat.reduceAdd, Nat.reduceLT, Nat.reduceEqDiff, UInt8.reduceToNat, pe4, pf4, b_eqi, b_nei, b_lt, b_le, b_gt, b_ge, fn_an0, fn_an1, fn_an4, fn_an5, bc_01, bc_012, bc_015, bc_0145, bc_0147, bc_016, bc_0167, bc_017, bc_03, bc_035, bc_0347, beq_self_eq_true, bne_self_eq_false, Int.reduceBEq, Int.reduceBNe, Int.reduceLT, Int.reduceLE, Int.reduceGT, decide_true, decide_false, eqB_self, la_cons, la_nil, b_plus, t0, t1, t5, t6, f1])
        refine lmake_c ok3 hW e2 p2 ?_
        intro s2 hW hl2
        repeat (first | with_reducible (refine w_one H ?_; constructor) | simp only [rB, rP, rQ, boolA, intA, resultA, resA, reduceIte, reduceCtorEq, Nat.reduceAdd, Nat.reduceLT, Nat.reduceEqDiff, UInt8.reduceToNat, pe4, pf4, b_eqi, b_nei, b_lt, b_le, b_gt, b_ge, fn_an0, fn_an1, fn_an4, fn_an5, bc_01, bc_012, bc_015, bc_0145, bc_0147, bc_016, bc_0167, bc_017, bc_03, bc_035, bc_0347, beq_self_eq_true, bne_self_eq_false, Int.reduceBEq, Int.reduceBNe, Int.reduceLT, Int.reduceLE, Int.reduceGT, decide_true, decide_false, eqB_self, la_cons, la_nil, b_plus, t0, t1, t5, t6, f1])
        refine lface_c hW e3 ?_
        intro s3 V hW hl3 hV
        have q1 : eqB zz9 [122, 122, 57] = true := rfl
        repeat (first | with_reducible (refine w_one H ?_; constructor) | simp only [rB, rP, rQ, boolA, intA, resultA, resA, reduceIte, reduceCtorEq, Nat.reduceAdd, Nat.reduceLT, Nat.reduceEqDiff, UInt8.reduceToNat, pe4, pf4, b_eqi, b_nei, b_lt, b_le, b_gt, b_ge, fn_an0, fn_an1, fn_an4, fn_an5, bc_01, bc_012, bc_015, bc_0145, bc_0147, bc_016, bc_0167, bc_017, bc_03, bc_035, bc_0347, beq_self_eq_true, bne_self_eq_false, Int.reduceBEq, Int.reduceBNe, Int.reduceLT, Int.reduceLE, Int.reduceGT, decide_true, decide_false, eqB_self, la_cons, la_nil, b_plus, b_eqs, b_nes, q1, t0, t1, t5, t6, f1, Tryz.results43])
        rfl
      | false =>
        have e2 := n1_good hno hB hz rfl
        obtain ⟨M3, e3⟩ := n2_rn hno hB hz rfl
        have q1 : eqB b [122, 122, 57] = false := hz
        have ea : an0.status = 0 := rfl
        repeat (first | with_reducible (refine w_one H ?_; constructor) | simp only [rB, rP, rQ, boolA, intA, resultA, resA, reduceIte, reduceCtorEq, Nat.reduceAdd, Nat.reduceLT, Nat.reduceEqDiff, UInt8.reduceToNat, pe4, pf4, b_eqi, b_nei, b_lt, b_le, b_gt, b_ge, fn_an0, fn_an1, fn_an4, fn_an5, bc_01, bc_012, bc_015, bc_0145, bc_0147, bc_016, bc_0167, bc_017, bc_03, bc_035, bc_0347, beq_self_eq_true, bne_self_eq_false, Int.reduceBEq, Int.reduceBNe, Int.reduceLT, Int.reduceLE, Int.reduceGT, decide_true, decide_false, eqB_self, la_cons, la_nil, b_plus, len_str, t0, t1, t5, t6, g1, f1])
        refine lmake_c ok3 hW e1 (st := 0) rfl ?_
        intro s1 hW hl1
        repeat (first | with_reducible (refine w_one H ?_; constructor) | simp only [rB, rP, rQ, boolA, intA, resultA, resA, reduceIte, reduceCtorEq, Nat.reduceAdd, Nat.reduceLT, Nat.reduceEqDiff, UInt8.reduceToNat, pe4, pf4, b_eqi, b_nei, b_lt, b_le, b_gt, b_ge, fn_an0, fn_an1, fn_an4, fn_an5, bc_01, bc_012, bc_015, bc_0145, bc_0147, bc_016, bc_0167, bc_017, bc_03, bc_035, bc_0347, beq_self_eq_true, bne_self_eq_false, Int.reduceBEq, Int.reduceBNe, Int.reduceLT, Int.reduceLE, Int.reduceGT, decide_true, decide_false, eqB_self, la_cons, la_nil, b_plus, t0, t1, t5, t6, f1])
        refine lmake_c ok3 hW e2 (st := 0) rfl ?_
        intro s2 hW hl2
        repeat (first | with_reducible (refine w_one H ?_; constructor) | simp only [rB, rP, rQ, boolA, intA, resultA, resA, reduceIte, reduceCtorEq, Nat.reduceAdd, Nat.reduceLT, Nat.reduceEqDiff, UInt8.reduceToNat, pe4, pf4, b_eqi, b_nei, b_lt, b_le, b_gt, b_ge, fn_an0, fn_an1, fn_an4, fn_an5, bc_01, bc_012, bc_015, bc_0145, bc_0147, bc_016, bc_0167, bc_017, bc_03, bc_035, bc_0347, beq_self_eq_true, bne_self_eq_false, Int.reduceBEq, Int.reduceBNe, Int.reduceLT, Int.reduceLE, Int.reduceGT, decide_true, decide_false, eqB_self, la_cons, la_nil, b_plus, t0, t1, t5, t6, f1])
        refine lface_c hW e3 ?_
        intro s3 V hW hl3 hV
        repeat (first | with_reducible (refine w_one H ?_; constructor) | simp only [rB, rP, rQ, boolA, intA, resultA, resA, reduceIte, reduceCtorEq, Nat.reduceAdd, Nat.reduceLT, Nat.reduceEqDiff, UInt8.reduceToNat, pe4, pf4, b_eqi, b_nei, b_lt, b_le, b_gt, b_ge, fn_an0, fn_an1, fn_an4, fn_an5, bc_01, bc_012, bc_015, bc_0145, bc_0147, bc_016, bc_0167, bc_017, bc_03, bc_035, bc_0347, beq_self_eq_true, bne_self_eq_false, Int.reduceBEq, Int.reduceBNe, Int.reduceLT, Int.reduceLE, Int.reduceGT, decide_true, decide_false, eqB_self, la_cons, la_nil, b_plus, b_eqs, b_nes, q1, ea, t0, t1, t5, t6, f1, Tryz.results43])
        rfl
end Go.AX
namespace Go.AX
open Go.Proofs Go.RowKit
set_option maxRecDepth 1000000
set_option linter.unusedSimpArgs false
set_option linter.unusedVariables false
theorem names_from {tx : List Nat} : (sem Tryz.prog).call 15 [.str tx] st0 (fun v _ => isTrue v) (fun _ _ => false) = true := by
  have H := ok3
  refine w_call H 9 fn_15 rfl rfl ?_
  repeat (first | with_reducible (refine w_one H ?_; constructor) | simp only [rB, rP, rQ, boolA, intA, resultA, resA, reduceIte, reduceCtorEq, Nat.reduceAdd, Nat.reduceLT, Nat.reduceEqDiff, UInt8.reduceToNat, pe3, pf3, c_awake, Tryz.results15] | (with_reducible refine faceW_c ?_; intro s hW) | (with_reducible refine call_true (lawNm_c hW) (fun s' => ?_)))
  rfl
theorem strV_of (s : ByteArray) : strV (s.data.toList.map UInt8.toNat) = .string s := by
  obtain ⟨⟨l⟩⟩ := s
  have h : UInt8.ofNat ∘ UInt8.toNat = id := funext fun x => UInt8.ofNat_toNat
  unfold strV
  rw [List.map_map, h, List.map_id]
theorem str_vrel {E : Em} (s : ByteArray) : VRel E (.str (s.data.toList.map UInt8.toNat)) (.string s) := by
  simp only [VRel]
  refine ⟨?_, (strV_of s).symm⟩
  intro c hc
  obtain ⟨b, _, rfl⟩ := List.mem_map.mp hc
  exact b.toNat_lt
theorem namesWalk (tx : ByteArray) (w : Go.World) : Calls Tryz.prog 15 #[.string tx] w fun e w' => e = .returned (.bool true) ∧ Below w.heap.size w w' :=
  sem_walk (args := [.str (tx.data.toList.map UInt8.toNat)]) (Args := [.string tx]) (VRels.cons (str_vrel tx) VRels.nil) names_from w
end Go.AX
