import Derived.Test.YtnkhohbgihfapaaGreatDoorOn2H5
set_option linter.unusedVariables false
set_option linter.unusedSimpArgs false
set_option linter.defProp false
namespace Go.AX
open Go.Proofs Go.RowKit
set_option maxRecDepth 1000000
set_option maxHeartbeats 400000000
set_option linter.unusedSimpArgs false
set_option linter.unusedVariables false
theorem pieces_mid : ∀ {p r : List Nat}, pieces (p ++ 47 :: r) = pieces p ++ pieces r
  | [], r => by simp [pieces]
  | c :: p, r => by
    have ih := pieces_mid (p := p) (r := r)
    simp only [List.cons_append, pieces, ih]
    cases hc : Nat.beq c 47 with
    | true => simp
    | false =>
      simp only [cond_false]
      cases hp : pieces p with
      | nil => exact absurd hp (unP_pieces (b := p)).2
      | cons q qs => rfl
theorem up_before {k : List Nat} (h : upE k ≠ []) : cmpP (upE k) k < 0 := by
  obtain ⟨r, hr⟩ := belK_iff.1 (upE_bel rfl h)
  show LtP (partsL (upE k)) (partsL k)
  have hk : k ≠ [] := fun e => h (by rw [e]; rfl)
  rw [partsL_ne h, partsL_ne hk]
  conv => rhs; rw [hr]
  rw [pieces_mid]
  cases hp : pieces r with
  | nil => exact absurd hp (unP_pieces (b := r)).2
  | cons a x => exact ltP_pre
theorem lookK_setF {p q : List Nat} {v : Nat} : ∀ {l : List (List Nat × Nat)}, lookK q (setK p v l) = if q = p then some v else lookK q l
  | [] => by
    simp only [setK, lookK]
    cases he : eqB q p with
    | true => rw [eqB_dec] at he; simp [of_decide_eq_true he]
    | false => rw [eqB_dec] at he; simp [of_decide_eq_false he]
  | (r, x) :: l => by
    have ih := lookK_setF (p := p) (q := q) (v := v) (l := l)
    simp only [setK]
    cases he : eqB p r with
    | true =>
      rw [eqB_dec] at he
      have := of_decide_eq_true he
      subst this
      simp only [cond_true, lookK]
      cases h2 : eqB q p with
      | true => rw [eqB_dec] at h2; simp [of_decide_eq_true h2]
      | false => rw [eqB_dec] at h2; simp [of_decide_eq_false h2]
    | false =>
      rw [eqB_dec] at he
      have hpr := of_decide_eq_false he
      simp only [cond_false, lookK, ih]
      cases h2 : eqB q r with
      | true =>
        rw [eqB_dec] at h2
        have := of_decide_eq_true h2
        subst this
        have : ¬ q = p := fun h => hpr h.symm
        simp [this]
      | false => rfl
structure OI (pre : List En) (M : Md) (K : List (List Nat × Nat)) : Prop where
  at_ : ∀ q u, lookK q K = some u → ∃ ud, M.T u = some ud ∧ ((q = [] ∧ ud.kind = 1) ∨ ∃ f ∈ pre, f.1 = q ∧ f.2.1 = ud.kind)
  is : ∀ q, q = [] ∨ q ∈ pre.map (·.1) → ∃ u, lookK q K = some u
theorem OI.zero : OI [] MZ [([], 0)] := by
  refine ⟨fun q u h => ?_, fun q h => ?_⟩
  · simp only [lookK] at h
    cases he : eqB q [] with
    | false => rw [he] at h; cases h
    | true =>
      rw [he] at h
      cases h
      rw [eqB_dec] at he
      exact ⟨_, rfl, Or.inl ⟨of_decide_eq_true he, rfl⟩⟩
  · rcases h with rfl | h
    · exact ⟨0, rfl⟩
    · cases h
theorem OI.step {pre : List En} {M : Md} {K : List (List Nat × Nat)} (O : OI pre M K) {e : En} {u : Nat} {ud : Nd} (hu : M.T u = some ud) (hne : e.1 ≠ []) {nw : Nd} (hk : nw.kind = e.2.1) {nm : List Nat} :
    OI (pre ++ [e]) (addO M u ud nm nw) (setK e.1 M.nodes.length K) := by
  have hul : u < M.nodes.length := T_lt hu
  have hT : ∀ j x, M.T j = some x → ∃ y, (addO M u ud nm nw).T j = some y ∧ y.kind = x.kind := by
    intro j x hj
    have hjl : j < M.nodes.length := T_lt hj
    show ∃ y, (M.nodes.set u { ud with kids := setK nm M.nodes.length ud.kids } ++ [nw])[j]? = some y ∧ y.kind = x.kind
    rw [List.getElem?_append_left (by simpa using hjl), List.getElem?_set]
    by_cases h : u = j
    · subst h
      rw [hu] at hj
      cases hj
      exact ⟨{ ud with kids := setK nm M.nodes.length ud.kids }, by rw [if_pos rfl, if_pos hul], rfl⟩
    · exact ⟨x, by rw [if_neg h]; exact hj, rfl⟩
  have hN : (addO M u ud nm nw).T M.nodes.length = some nw := by
    show (M.nodes.set u { ud with kids := setK nm M.nodes.length ud.kids } ++ [nw])[M.nodes.length]? = some nw
    rw [List.getElem?_append_right (by simp)]
    simp
  refine ⟨fun q v h => ?_, fun q h => ?_⟩
  · rw [lookK_setF] at h
    by_cases hq : q = e.1
    · rw [if_pos hq] at h
      cases h
      exact ⟨nw, hN, Or.inr ⟨e, by simp, hq.symm, hk.symm⟩⟩
    · rw [if_neg hq] at h
      obtain ⟨x, h1, h2⟩ := O.at_ q v h
      obtain ⟨y, y1, y2⟩ := hT v x h1
      refine ⟨y, y1, ?_⟩
      rw [y2]
      rcases h2 with h2 | ⟨f, f1, f2⟩
      · exact Or.inl h2
      · exact Or.inr ⟨f, List.mem_append_left _ f1, f2⟩
  · rw [lookK_setF]
    by_cases hq : q = e.1
    · exact ⟨_, if_pos hq⟩
    · rw [if_neg hq]
      refine O.is q ?_
      rcases h with h | h
      · exact Or.inl h
      · simp only [List.map_append, List.map_cons, List.map_nil, List.mem_append, List.mem_singleton] at h
        rcases h with h | h
        · exact Or.inr h
        · exact absurd h hq
def DirUp (es : List En) (e : En) : Prop := upE e.1 = [] ∨ ∃ f ∈ es, f.1 = upE e.1 ∧ f.2.1 = 1
theorem ofRun_dirs : ∀ {l pre : List En} {M M' : Md} {K : List (List Nat × Nat)} {pv : Option (List Nat)}, OI pre M K → ofRun l M K pv = some M' → ∀ e ∈ l, DirUp (pre ++ l) e
  | [], _, _, _, _, _, _, _, _, h => by cases h
  | e :: l, pre, M, M', K, pv, O, h, x, hx => by
    have hg := (ofRun_good h).1 e List.mem_cons_self
    simp only [ofRun, hg, cond_true] at h
    have h : (match lookK (e.1.take (cutE e.1)) K with
      | none => none
      | some u => match M.T u with
        | none => none
        | some ud => bif ud.kind != 1 then none else ofRun l (addO M u ud (nameE e.1) ⟨e.2.1, e.2.2.1, e.2.2.2, [], some u, nameE e.1, 0⟩) (setK e.1 M.nodes.length K) (some e.1)) = some M' := by
      cases pv with
      | none => exact h
      | some p =>
        cases hd : decide (cmpP p e.1 < 0) with
        | true => simp only [hd, cond_true] at h; exact h
        | false => simp [hd] at h
    cases hk : lookK (e.1.take (cutE e.1)) K with
    | none => rw [hk] at h; cases h
    | some u =>
    rw [hk] at h
    simp only at h
    cases hu : M.T u with
    | none => rw [hu] at h; cases h
    | some ud =>
    rw [hu] at h
    simp only at h
    cases hd : ud.kind != 1 with
    | true => rw [hd] at h; cases h
    | false =>
    rw [hd, cond_false] at h
    have hk1 : ud.kind = 1 := by simpa using hd
    have O' := O.step (e := e) hu (may_ne hg) (nw := ⟨e.2.1, e.2.2.1, e.2.2.2, [], some u, nameE e.1, 0⟩) rfl (nm := nameE e.1)
    rcases List.mem_cons.1 hx with rfl | hx
    · obtain ⟨ud', h1, h2⟩ := O.at_ _ _ hk
      rw [hu] at h1
      cases h1
      rcases h2 with ⟨h2, _⟩ | ⟨f, f1, f2, f3⟩
      · exact Or.inl h2
      · exact Or.inr ⟨f, List.mem_append_left _ f1, f2, f3.trans hk1⟩
    · have := ofRun_dirs O' h x hx
      simpa using this
theorem of_dirs {es : List En} {M : Md} (h : ofT es = some M) : ∀ e ∈ es, DirUp es e := by
  unfold ofT at h
  cases hl : decide ((es.length : Int) > 128) with
  | true => rw [hl] at h; cases h
  | false =>
    rw [hl, cond_false] at h
    cases hr : ofRun es MZ [([], 0)] none with
    | none => rw [hr] at h; cases h
    | some M' => simpa using ofRun_dirs OI.zero hr
end Go.AX
namespace Go.AX
open Go.Proofs Go.RowKit
set_option maxRecDepth 1000000
set_option maxHeartbeats 400000000
set_option linter.unusedSimpArgs false
set_option linter.unusedVariables false
theorem fault_may {e : En} {pre : List En} (h : faultL e pre = 0) (h4 : e.2.1 ≠ 4) : pathE e.1 = true ∧ mayE (kd5 e) = true ∧ (e.2.1 = 1 → e.2.2.1 ≥ 0 ∧ e.2.2.1 ≤ 511) := by
  unfold faultL at h
  cases h1 : knownB e.2.1 with
  | false => rw [h1] at h; cases h
  | true =>
  rw [h1, cond_true] at h
  cases h2 : pathedL e pre != 0 with
  | true =>
    rw [h2, cond_true] at h
    rw [h] at h2
    cases h2
  | false =>
  rw [h2, cond_false] at h
  have h20 : pathedL e pre = 0 := by simpa using h2
  have hpath : pathE e.1 = true := by
    unfold pathedL at h20
    unfold pathE
    generalize cleanL [] (47 :: e.1) = x at h20
    obtain ⟨q, c⟩ := x
    simp only at h20 ⊢
    cases hc : Nat.beq c 0 with
    | false => rw [hc] at h20; cases h20
    | true =>
      rw [hc, cond_true] at h20
      cases a1 : eqB e.1 [] with
      | true => rw [a1] at h20; cases h20
      | false =>
        rw [a1, cond_false] at h20
        cases a2 : eqB q e.1 with
        | false => rw [a2] at h20; cases h20
        | true => rfl
  cases h3 : modedB e with
  | false => rw [h3] at h; cases h
  | true =>
  rw [h3, cond_true] at h
  cases h5 : sizedB e.2.1 (e.2.2.2.length : Int) with
  | false => rw [h5] at h; cases h
  | true =>
  rw [h5, cond_true] at h
  unfold modedB at h3
  unfold sizedB at h5
  unfold knownB at h1
  have hm : mayE (kd5 e) = restE (kd5 e) := by
    unfold mayE
    show (bif pathE e.1 then _ else _) = _
    rw [hpath]
    rfl
  have n4 : (e.2.1 == 4) = false := by rw [beq_eq_false_iff_ne]; exact h4
  refine ⟨hpath, ?_, fun hk => ?_⟩
  · rw [hm]
    unfold restE kd5
    simp only
    cases k5 : e.2.1 == 5 with
    | true =>
      have e5 : e.2.1 = 5 := by simpa using k5
      rw [e5] at h3 h5
      simp only [cond_true]
      have a1 : ((5 : Int) == 3) = false := rfl
      have a2 : ((5 : Int) == 4) = false := rfl
      have a3 : ((5 : Int) == 2) = false := rfl
      have a4 : ((1 : Int) == 1) = true := rfl
      rw [a1, a2, cond_false, cond_false] at h3
      rw [a1, a3, cond_false, cond_false] at h5
      rw [a4, cond_true]
      have hlen : e.2.2.2 = [] := by
        have : (e.2.2.2.length : Int) = 0 := by simpa using h5
        exact List.length_eq_zero_iff.1 (by omega)
      cases b1 : decide (e.2.2.1 ≥ 0) with
      | false => rw [b1] at h3; cases h3
      | true =>
        rw [b1, cond_true] at h3
        rw [h3, cond_true, cond_true, hlen]
        rfl
    | false =>
      simp only [cond_false]
      cases k1 : e.2.1 == 1 with
      | true =>
        have e1 : e.2.1 = 1 := by simpa using k1
        rw [e1] at h3 h5
        have a1 : ((1 : Int) == 3) = false := rfl
        have a2 : ((1 : Int) == 4) = false := rfl
        have a3 : ((1 : Int) == 2) = false := rfl
        rw [a1, a2, cond_false, cond_false] at h3
        rw [a1, a3, cond_false, cond_false] at h5
        simp only [cond_true]
        have hlen : e.2.2.2 = [] := by
          have : (e.2.2.2.length : Int) = 0 := by simpa using h5
          exact List.length_eq_zero_iff.1 (by omega)
        cases b1 : decide (e.2.2.1 ≥ 0) with
        | false => rw [b1] at h3; cases h3
        | true =>
          rw [b1, cond_true] at h3
          rw [h3, cond_true, cond_true, hlen]
          rfl
      | false =>
        simp only [cond_false]
        cases k2 : e.2.1 == 2 with
        | true =>
          have e2 : e.2.1 = 2 := by simpa using k2
          rw [e2] at h3 h5
          have a1 : ((2 : Int) == 3) = false := rfl
          have a2 : ((2 : Int) == 4) = false := rfl
          have a3 : ((2 : Int) == 2) = true := rfl
          rw [a1, a2, cond_false, cond_false] at h3
          rw [a3, cond_true] at h5
          simp only [cond_true]
          cases b1 : decide (e.2.2.1 ≥ 0) with
          | false => rw [b1] at h3; cases h3
          | true =>
            rw [b1, cond_true] at h3
            rw [h3, cond_true, cond_true]
            exact h5
        | false =>
          simp only [cond_false]
          cases k3 : e.2.1 == 3 with
          | true =>
            have e3 : e.2.1 = 3 := by simpa using k3
            rw [k3] at h h3 h5
            rw [k2] at h5
            rw [cond_true] at h h3
            rw [cond_false, cond_true] at h5
            rw [h3, cond_true, cond_true]
            unfold targetB
            cases c1 : hasB e.2.2.2 0 with
            | true => rw [c1] at h; cases h
            | false =>
              cases c2 : decide ((e.2.2.2.length : Int) ≥ 1) with
              | false => rw [c2] at h5; cases h5
              | true =>
                rw [c2, cond_true] at h5
                have c2 := of_decide_eq_true c2
                have c3 := of_decide_eq_true h5
                rw [Nat.ble_eq.mpr (by omega : 1 ≤ e.2.2.2.length), Nat.ble_eq.mpr (by omega : e.2.2.2.length ≤ 64)]
                rfl
          | false =>
            exfalso
            have x1 : e.2.1 ≠ 1 := by simpa using k1
            have x2 : e.2.1 ≠ 2 := by simpa using k2
            have x3 : e.2.1 ≠ 3 := by simpa using k3
            have x5 : e.2.1 ≠ 5 := by simpa using k5
            cases y1 : decide (e.2.1 ≥ 1) with
            | false => rw [y1] at h1; cases h1
            | true =>
              rw [y1, cond_true] at h1
              have := of_decide_eq_true y1
              have := of_decide_eq_true h1
              omega
  · rw [hk] at h3
    have a1 : ((1 : Int) == 3) = false := rfl
    have a2 : ((1 : Int) == 4) = false := rfl
    rw [a1, a2, cond_false, cond_false] at h3
    cases b1 : decide (e.2.2.1 ≥ 0) with
    | false => rw [b1] at h3; cases h3
    | true =>
      rw [b1, cond_true] at h3
      exact ⟨of_decide_eq_true b1, of_decide_eq_true h3⟩
structure GN (N : List (List Nat × En)) : Prop where
  may : ∀ x ∈ N, mayE x.2 = true
  dir : ∀ x ∈ N, upE x.1 = [] ∨ ∃ y, lookG (upE x.1) N = some y ∧ y.2.1 = 1
theorem lookG_app {q : List Nat} {y : En} {r : List (List Nat × En)} : ∀ {l : List (List Nat × En)}, lookG q l = some y → lookG q (l ++ r) = some y
  | [], h => by cases h
  | (p, x) :: l, h => by
    simp only [lookG, List.cons_append] at h ⊢
    cases hb : eqB q p with
    | true => rw [hb] at h; exact h
    | false =>
      rw [hb] at h
      exact lookG_app h
theorem lookG_filter {p q : List Nat} (hq : belK p q = false) : ∀ {l : List (List Nat × En)}, lookG q (l.filter fun x => !belK p x.1) = lookG q l
  | [] => rfl
  | (k, x) :: l => by
    have ih := lookG_filter hq (l := l)
    simp only [List.filter_cons]
    cases hb : belK p k with
    | false => simp only [Bool.not_false, if_true, lookG, ih]
    | true =>
      simp only [Bool.not_true, Bool.false_eq_true, if_false, ih, lookG]
      cases he : eqB q k with
      | false => rfl
      | true =>
        rw [eqB_dec] at he
        rw [← of_decide_eq_true he, hq] at hb
        cases hb
theorem look_cut {p q : List Nat} {N : List (List Nat × En)} (hn : (keysF N).Nodup) (h1 : belK p q = false) (h2 : q ≠ p) : lookG q (cutN p N) = lookG q N := by
  unfold cutN
  rw [lookG_delG (by show (keysF _).Nodup; rw [keys_filter]; exact hn.sublist List.filter_sublist), if_neg h2, lookG_filter h1]
theorem GN.cut {N : List (List Nat × En)} (G : GN N) (hn : (keysF N).Nodup) {p : List Nat} (hp : p ≠ []) : GN (cutN p N) := by
  have hsub : ∀ x ∈ cutN p N, x ∈ N := fun x hx => (delG_sub.trans List.filter_sublist).mem hx
  refine ⟨fun x hx => G.may x (hsub x hx), fun x hx => ?_⟩
  obtain ⟨h1, h2, h3⟩ := (mem_cut hn).1 (List.mem_map.2 ⟨x, hx, rfl⟩)
  by_cases hu : upE x.1 = []
  · exact Or.inl hu
  · rcases G.dir x (hsub x hx) with h | ⟨y, y1, y2⟩
    · exact Or.inl h
    · refine Or.inr ⟨y, ?_, y2⟩
      rw [look_cut hn ?_ ?_]
      · exact y1
      · rw [← Bool.not_eq_true]
        intro hb
        rw [bel_trans hb (upE_bel rfl hu)] at h2
        cases h2
      · intro e
        rw [upE_bel e hp] at h2
        cases h2
theorem GN.app {N : List (List Nat × En)} (G : GN N) {p : List Nat} {v : En} (hm : mayE v = true) (hd : upE p = [] ∨ ∃ y, lookG (upE p) N = some y ∧ y.2.1 = 1) : GN (N ++ [(p, v)]) := by
  refine ⟨fun x hx => ?_, fun x hx => ?_⟩
  · rcases List.mem_append.1 hx with h | h
    · exact G.may x h
    · rw [List.mem_singleton.1 h]; exact hm
  · have key : (upE x.1 = [] ∨ ∃ y, lookG (upE x.1) N = some y ∧ y.2.1 = 1) := by
      rcases List.mem_append.1 hx with h | h
      · exact G.dir x h
      · rw [List.mem_singleton.1 h]; exact hd
    rcases key with h | ⟨y, y1, y2⟩
    · exact Or.inl h
    · exact Or.inr ⟨y, lookG_app y1, y2⟩
theorem mem_setG {p : List Nat} {v : En} {x : List Nat × En} : ∀ {l : List (List Nat × En)}, x ∈ setG p v l → x ∈ l ∨ x = (p, v)
  | [], h => by simp [setG] at h; exact Or.inr h
  | (q, w) :: l, h => by
    simp only [setG] at h
    cases hb : eqB p q with
    | true =>
      rw [hb, cond_true] at h
      rcases List.mem_cons.1 h with h | h
      · exact Or.inr h
      · exact Or.inl (List.mem_cons_of_mem _ h)
    | false =>
      rw [hb, cond_false] at h
      rcases List.mem_cons.1 h with h | h
      · exact Or.inl (h ▸ List.mem_cons_self)
      · rcases mem_setG h with h | h
        · exact Or.inl (List.mem_cons_of_mem _ h)
        · exact Or.inr h
theorem ok_dir {N : List (List Nat × En)} {e : En} (h : okUpN N e = true) : upE e.1 = [] ∨ ∃ y, lookG (upE e.1) N = some y ∧ y.2.1 = 1 := by
  unfold okUpN at h
  cases h1 : eqB (upE e.1) [] with
  | true => rw [eqB_dec] at h1; exact Or.inl (of_decide_eq_true h1)
  | false =>
    rw [h1, cond_false] at h
    cases hl : lookG (upE e.1) N with
    | none => rw [hl] at h; cases h
    | some y =>
      rw [hl] at h
      refine Or.inr ⟨y, rfl, ?_⟩
      simpa using h
theorem GN.apply {N N' : List (List Nat × En)} (G : GN N) (hn : (keysF N).Nodup) {e : En} {pre : List En} (hf : faultL e pre = 0) (h : applyN N e = some N') : GN N' := by
  have hne := fault_ne hf
  unfold applyN at h
  cases hu : okUpN N e with
  | false => rw [hu] at h; cases h
  | true =>
  rw [hu, cond_true] at h
  have hdir := ok_dir hu
  cases hl : lookG e.1 N with
  | none =>
    rw [hl] at h
    simp only at h
    cases h4 : e.2.1 == 4 with
    | true => rw [h4] at h; cases h
    | false =>
      rw [h4] at h
      cases h
      exact G.app (fault_may hf (by simpa using h4)).2.1 hdir
  | some old =>
    rw [hl] at h
    simp only at h
    cases h1 : e.2.1 == 1 && old.2.1 == 1 with
    | true =>
      rw [h1] at h
      cases h
      obtain ⟨k1, k2⟩ := Bool.and_eq_true_iff.1 h1
      have k1 : e.2.1 = 1 := by simpa using k1
      have k2 : old.2.1 = 1 := by simpa using k2
      have hmo := G.may _ (lookG_mem hl)
      obtain ⟨_, _, hmode⟩ := fault_may hf (by rw [k1]; decide)
      have hmode := hmode k1
      have hmv : mayE (old.1, old.2.1, e.2.2.1, old.2.2.2) = true := by
        unfold mayE restE at hmo ⊢
        simp only at hmo ⊢
        rw [k2] at hmo ⊢
        have a1 : ((1 : Int) == 1) = true := rfl
        rw [a1] at hmo ⊢
        cases hp : pathE old.1 with
        | false => rw [hp] at hmo; cases hmo
        | true =>
          rw [hp] at hmo
          simp only [cond_true] at hmo ⊢
          rw [decide_eq_true hmode.1, decide_eq_true hmode.2]
          cases b1 : decide (old.2.2.1 ≥ 0) with
          | false => rw [b1] at hmo; cases hmo
          | true =>
            rw [b1] at hmo
            cases b2 : decide (old.2.2.1 ≤ 511) with
            | false => rw [b2] at hmo; cases hmo
            | true =>
              rw [b2] at hmo
              exact hmo
      refine ⟨fun x hx => ?_, fun x hx => ?_⟩
      · rcases mem_setG hx with h | h
        · exact G.may x h
        · rw [h]; exact hmv
      · have key : (upE x.1 = [] ∨ ∃ y, lookG (upE x.1) N = some y ∧ y.2.1 = 1) := by
          rcases mem_setG hx with h | h
          · exact G.dir x h
          · rw [h]; exact hdir
        rcases key with h | ⟨y, y1, y2⟩
        · exact Or.inl h
        · refine Or.inr ?_
          rw [lookG_setG]
          by_cases hq : upE x.1 = e.1
          · exact ⟨_, if_pos hq, k2⟩
          · exact ⟨y, by rw [if_neg hq]; exact y1, y2⟩
    | false =>
      rw [h1, cond_false] at h
      have Gc := G.cut hn hne
      cases h4 : e.2.1 == 4 with
      | true =>
        rw [h4] at h
        cases h
        exact Gc
      | false =>
        rw [h4] at h
        cases h
        refine Gc.app (fault_may hf (by simpa using h4)).2.1 ?_
        rcases hdir with h | ⟨y, y1, y2⟩
        · exact Or.inl h
        · exact Or.inr ⟨y, by rw [look_cut hn (up_not_bel hne) (up_ne_self hne)]; exact y1, y2⟩
end Go.AX
namespace Go.AX
open Go.Proofs Go.RowKit
set_option maxRecDepth 1000000
set_option maxHeartbeats 400000000
set_option linter.unusedSimpArgs false
set_option linter.unusedVariables false
theorem GoneD.ex {N : List (List Nat × En)} {K : List (List Nat × Int)} {p : List Nat} : ∃ D N1, GoneD N K p D N1 := by
  cases h : (bif decide ((lookG p K).getD 0 > 0) then true else false) with
  | true => exact ⟨(keysF N).filter (belK p), _, Or.inl ⟨h, rfl, fun d => List.mem_filter⟩⟩
  | false => exact ⟨[], N, Or.inr ⟨h, rfl, rfl⟩⟩
theorem ApR.ex {N : List (List Nat × En)} {K : List (List Nat × Int)} {e : En} : ∃ b N' K', ApR N K e b N' K' := by
  have ok : (eqB (upE e.1) [] = false ∧ (((lookG (upE e.1) N).getD enZ).2.1 != 1) = true) ∨ (eqB (upE e.1) [] = true ∨ (((lookG (upE e.1) N).getD enZ).2.1 != 1) = false) := by
    cases eqB (upE e.1) [] <;> cases (((lookG (upE e.1) N).getD enZ).2.1 != 1) <;> simp
  rcases ok with ⟨h1, h2⟩ | ok
  · exact ⟨_, _, _, .up h1 h2⟩
  · obtain ⟨D, N1, hG⟩ := GoneD.ex (N := N) (K := K) (p := e.1)
    cases hl : lookG e.1 N with
    | none =>
      by_cases k4 : e.2.1 = 4
      · exact ⟨_, _, _, .gone0 k4 hl⟩
      · exact ⟨_, _, _, .new ok hl k4⟩
    | some old =>
      by_cases k4 : e.2.1 = 4
      · exact ⟨_, _, _, .gone1 old D N1 ok hl k4 hG⟩
      · by_cases k1 : e.2.1 = 1 ∧ old.2.1 = 1
        · exact ⟨_, _, _, .mode old ok hl k1.1 k1.2⟩
        · exact ⟨_, _, _, .over old D N1 ok hl k4 (fun h h' => k1 ⟨h, h'⟩) hG⟩
theorem FI.apply {B : Nat} {N N' : List (List Nat × En)} {K : List (List Nat × Int)} (F : FI B N K) {e : En} (hne : e.1 ≠ []) (hB : B ≤ 1000000) (h : applyN N e = some N') : ∃ K', FI (B + 1) N' K' := by
  obtain ⟨b, N2, K2, A⟩ := ApR.ex (N := N) (K := K) (e := e)
  rcases A.fin F hne hB with ⟨_, h1, h2⟩ | ⟨_, h1⟩
  · rw [h] at h1
    cases h1
    exact ⟨K2, h2⟩
  · rw [h] at h1
    cases h1
theorem look_mem {p : List Nat} {v : En} {l : List (List Nat × En)} (hn : (keysF l).Nodup) (h : (p, v) ∈ l) : lookG p l = some v := by
  obtain ⟨j, hj⟩ := List.mem_iff_getElem?.1 h
  exact (findIdx_at hn hj).2.1
end Go.AX
namespace Go.AX
open Go.Proofs Go.RowKit
set_option maxRecDepth 1000000
set_option maxHeartbeats 400000000
set_option linter.unusedSimpArgs false
set_option linter.unusedVariables false
theorem may_kind {e : En} (h : mayE e = true) : e.2.1 = 1 ∨ e.2.1 = 2 ∨ e.2.1 = 3 := by
  unfold mayE at h
  cases hp : pathE e.1 with
  | false => rw [hp] at h; cases h
  | true =>
    rw [hp, cond_true] at h
    unfold restE at h
    cases k1 : e.2.1 == 1 with
    | true => exact Or.inl (by simpa using k1)
    | false =>
      rw [k1, cond_false] at h
      cases k2 : e.2.1 == 2 with
      | true => exact Or.inr (Or.inl (by simpa using k2))
      | false =>
        rw [k2, cond_false] at h
        cases k3 : e.2.1 == 3 with
        | true => exact Or.inr (Or.inr (by simpa using k3))
        | false => rw [k3] at h; cases h
theorem may_fault {e : En} {pre : List En} (h : mayE e = true) (ha : aheadB e pre = false) (hh : pre.any (hitB e) = false) : faultL e pre = 0 := by
  have hkind := may_kind h
  have hne := may_ne h
  unfold mayE at h
  cases hp : pathE e.1 with
  | false => rw [hp] at h; cases h
  | true =>
  rw [hp, cond_true] at h
  have h0 : pathedL e pre = 0 := by
    unfold pathE at hp
    unfold pathedL
    generalize cleanL [] (47 :: e.1) = x at hp
    obtain ⟨q, c⟩ := x
    simp only at hp ⊢
    cases hc : Nat.beq c 0 with
    | false => rw [hc] at hp; cases hp
    | true =>
      rw [hc, cond_true] at hp
      cases a1 : eqB e.1 [] with
      | true => rw [a1] at hp; cases hp
      | false =>
        rw [a1, cond_false] at hp
        simp only [cond_true, cond_false, hp, ha, hh]
  have hkn : knownB e.2.1 = true := by
    unfold knownB
    rw [decide_eq_true (by omega : e.2.1 ≥ 1), cond_true]
    exact decide_eq_true (by omega)
  unfold restE at h
  unfold faultL modedB sizedB
  rw [h0, hkn]
  have hz : ((0 : Int) != 0) = false := rfl
  rw [hz, cond_true, cond_false]
  rcases hkind with k | k | k
  · rw [k] at h ⊢
    have a1 : ((1 : Int) == 1) = true := rfl
    have a2 : ((1 : Int) == 2) = false := rfl
    have a3 : ((1 : Int) == 3) = false := rfl
    have a4 : ((1 : Int) == 4) = false := rfl
    rw [a1, cond_true] at h
    rw [a2, a3, a4]
    simp only [cond_false]
    cases m1 : decide (e.2.2.1 ≥ 0) with
    | false => rw [m1] at h; cases h
    | true =>
      rw [m1, cond_true] at h
      cases m2 : decide (e.2.2.1 ≤ 511) with
      | false => rw [m2] at h; cases h
      | true =>
        rw [m2, cond_true, eqB_dec] at h
        rw [of_decide_eq_true h]
        rfl
  · rw [k] at h ⊢
    have a1 : ((2 : Int) == 1) = false := rfl
    have a2 : ((2 : Int) == 2) = true := rfl
    have a3 : ((2 : Int) == 3) = false := rfl
    have a4 : ((2 : Int) == 4) = false := rfl
    rw [a1, cond_false, a2, cond_true] at h
    rw [a2, a3, a4]
    simp only [cond_false, cond_true]
    cases m1 : decide (e.2.2.1 ≥ 0) with
    | false => rw [m1] at h; cases h
    | true =>
      rw [m1, cond_true] at h
      cases m2 : decide (e.2.2.1 ≤ 511) with
      | false => rw [m2] at h; cases h
      | true =>
        rw [m2, cond_true] at h
        rw [h]
        rfl
  · rw [k] at h ⊢
    have a1 : ((3 : Int) == 1) = false := rfl
    have a2 : ((3 : Int) == 2) = false := rfl
    have a3 : ((3 : Int) == 3) = true := rfl
    rw [a1, cond_false, a2, cond_false, a3, cond_true] at h
    rw [a2, a3]
    simp only [cond_false, cond_true]
    cases m1 : e.2.2.1 == 511 with
    | false => rw [m1] at h; cases h
    | true =>
      rw [m1, cond_true] at h
      unfold targetB at h
      simp only [Bool.and_eq_true, Bool.not_eq_true'] at h
      obtain ⟨h1, h2, h3⟩ := h
      have h1 := Nat.le_of_ble_eq_true h1
      have h2 := Nat.le_of_ble_eq_true h2
      rw [decide_eq_true (by omega : (e.2.2.2.length : Int) ≥ 1), decide_eq_true (by omega : (e.2.2.2.length : Int) ≤ 64), h3]
      rfl
theorem key_inj {es : List En} (hn : (es.map (·.1)).Nodup) {f g : En} (hf : f ∈ es) (hg : g ∈ es) (h : f.1 = g.1) : f = g := by
  obtain ⟨i, hi⟩ := List.mem_iff_getElem?.1 hf
  obtain ⟨j, hj⟩ := List.mem_iff_getElem?.1 hg
  have e1 : (es.map (·.1))[i]? = some g.1 := by rw [List.getElem?_map, hi]; simp [h]
  have e2 : (es.map (·.1))[j]? = some g.1 := by rw [List.getElem?_map, hj]; simp
  obtain ⟨l1, m1⟩ := List.getElem?_eq_some_iff.1 e1
  obtain ⟨l2, m2⟩ := List.getElem?_eq_some_iff.1 e2
  have : i = j := (List.getElem_inj hn).1 (m1.trans m2.symm)
  subst this
  rw [hi] at hj
  cases hj
  rfl
theorem below_dir {es : List En} (hn : (es.map (·.1)).Nodup) (hd : ∀ e ∈ es, DirUp es e) {a : En} (ha : a ∈ es) (h0 : a.1 ≠ []) : ∀ n, ∀ e ∈ es, e.1.length ≤ n → belK a.1 e.1 = true → a.2.1 = 1 := by
  intro n
  induction n with
  | zero =>
    intro e _ hl hb
    obtain ⟨r, hr⟩ := belK_iff.1 hb
    rw [hr] at hl
    simp at hl
  | succ n ih =>
    intro e he hl hb
    rcases hd e he with hu | ⟨f, f1, f2, f3⟩
    · rcases bel_up h0 hb with h | ⟨_, h, _⟩
      · exact absurd (h.symm.trans hu) h0
      · exact absurd hu h
    · rcases bel_up h0 hb with h | ⟨h1, h2, h3⟩
      · rw [← key_inj hn f1 ha (f2.trans h)]
        exact f3
      · exact ih f f1 (by rw [f2]; omega) (by rw [f2]; exact h1)
theorem tree_faults {es : List En} {M : Md} (h : ofT es = some M) : ∀ e a b, es = a ++ e :: b → faultL e a = 0 := by
  intro e a b hab
  have G := of_good h
  have D := of_dirs h
  have hn := rise_nodup G.rise
  have he : e ∈ es := by rw [hab]; simp
  have hmid := G.rise
  rw [hab] at hmid
  have hcross := (List.pairwise_append.1 hmid).2.2
  refine may_fault (G.may e he) ?_ ?_
  · unfold aheadB
    cases hx : a[a.length - 1]? with
    | none => rfl
    | some x =>
      have := hcross x (List.mem_of_getElem? hx) e List.mem_cons_self
      exact decide_eq_false (by omega)
  · rw [List.any_eq_false]
    intro x hx
    have hxe : x ∈ es := by rw [hab]; exact List.mem_append_left _ hx
    have hxn := may_ne (G.may x hxe)
    rw [Bool.not_eq_true]
    unfold hitB
    cases k1 : x.2.1 != 1 with
    | false => rfl
    | true =>
      have k1' : x.2.1 ≠ 1 := by simpa using k1
      cases k5 : x.2.1 != 5 with
      | false => rfl
      | true =>
        show belowB e.1 x.1 = false
        unfold belowB
        have e1 : eqB x.1 [] = false := by rw [eqB_dec]; exact decide_eq_false hxn
        have e2 : eqB e.1 x.1 = false := by
          rw [eqB_dec]
          refine decide_eq_false fun hh => ?_
          have := hcross x hx e List.mem_cons_self
          rw [hh] at this
          exact ltP_irrefl (show LtP _ _ from this)
        rw [e1, e2, cond_false, cond_false]
        show belK x.1 e.1 = false
        rw [← Bool.not_eq_true]
        intro hb
        exact k1' (below_dir hn D hxe hxn e.1.length e he (Nat.le_refl _) hb)
theorem mayR_zero {es : List En} : ∀ {l pre : List En}, es = pre ++ l → (∀ e a b, es = a ++ e :: b → faultL e a = 0) → mayR es pre.length l = (0, 0)
  | [], _, _, _ => rfl
  | e :: l, pre, h, hf => by
    have ht : es.take pre.length = pre := by rw [h]; simp
    have h0 := hf e pre l h
    simp only [mayR, ht, h0]
    have : ((0 : Int) != 0) = false := rfl
    rw [this, cond_false]
    have := mayR_zero (l := l) (pre := pre ++ [e]) (by rw [h]; simp) hf
    simpa using this
theorem appsN_self : ∀ {l pre es : List En}, es = pre ++ l → (es.map (·.1)).Nodup → (∀ e ∈ es, mayE e = true) → (∀ e a b, es = a ++ e :: b → DirUp a e) → appsN (pairE pre) l = some (pairE es)
  | [], pre, es, h, _, _, _ => by rw [h]; simp [appsN]
  | e :: l, pre, es, h, hn, hm, hd => by
    have hk := may_kind (hm e (by rw [h]; simp))
    have hpn : (keysF (pairE pre)).Nodup := by
      rw [keys_pair]
      rw [h, List.map_append, List.nodup_append] at hn
      exact hn.1
    have hl : lookG e.1 (pairE pre) = none := by
      rw [lookG_none]
      show e.1 ∉ keysF (pairE pre)
      rw [keys_pair]
      intro hx
      rw [h, List.map_append, List.nodup_append] at hn
      exact hn.2.2 _ hx e.1 (by simp) rfl
    have hok : okUpN (pairE pre) e = true := by
      unfold okUpN
      rcases hd e pre l h with hu | ⟨f, f1, f2, f3⟩
      · rw [hu]; rfl
      · have : lookG (upE e.1) (pairE pre) = some f := look_mem hpn (by rw [← f2]; exact List.mem_map.2 ⟨f, f1, rfl⟩)
        rw [this]
        cases eqB (upE e.1) [] with
        | true => rfl
        | false => simp [f3]
    have h4 : (e.2.1 == 4) = false := by rw [beq_eq_false_iff_ne]; omega
    have h5 : (e.2.1 == 5) = false := by rw [beq_eq_false_iff_ne]; omega
    have hkd : kd5 e = e := by unfold kd5; rw [h5]; rfl
    have ha : applyN (pairE pre) e = some (pairE (pre ++ [e])) := by
      unfold applyN
      rw [hok, hl]
      simp only [cond_true, h4, cond_false, hkd]
      simp [pairE]
    simp only [appsN, ha]
    exact appsN_self (l := l) (pre := pre ++ [e]) (es := es) (by rw [h]; simp) hn hm hd
theorem dirs_ahead {es : List En} {M : Md} (h : ofT es = some M) : ∀ e a b, es = a ++ e :: b → DirUp a e := by
  intro e a b hab
  have G := of_good h
  rcases of_dirs h e (by rw [hab]; simp) with hu | ⟨f, f1, f2, f3⟩
  · exact Or.inl hu
  · by_cases hu : upE e.1 = []
    · exact Or.inl hu
    · have hlt : cmpP f.1 e.1 < 0 := by rw [f2]; exact up_before hu
      have hr := G.rise
      rw [hab] at hr f1
      refine Or.inr ⟨f, ?_, f2, f3⟩
      rcases List.mem_append.1 f1 with h | h
      · exact h
      · exfalso
        have hpe := (List.pairwise_append.1 hr).2.1
        rcases List.mem_cons.1 h with rfl | h
        · exact ltP_irrefl (show LtP _ _ from hlt)
        · have := (List.pairwise_cons.1 hpe).1 f h
          exact ltP_irrefl (ltP_trans (show LtP _ _ from hlt) (show LtP _ _ from this))
theorem merge_tree {es : List En} {M : Md} (h : ofT es = some M) : mergeI [es] = some es := by
  have G := of_good h
  have hn := rise_nodup G.rise
  have hmay : (mayL es).2 = 0 := by
    unfold mayL
    have : decide ((es.length : Int) > 256) = false := by rw [decide_eq_false_iff_not]; have := G.len; omega
    rw [this, cond_false]
    have := mayR_zero (es := es) (l := es) (pre := []) rfl (tree_faults h)
    rw [List.length_nil] at this
    rw [this]
  have ha := appsN_self (l := es) (pre := []) (es := es) rfl hn G.may (dirs_ahead h)
  have hs : sortEn ((pairE es).map (·.2)) = es := by
    have e1 : (pairE es).map (·.2) = es := by
      unfold pairE
      rw [List.map_map]
      exact List.map_id es
    rw [e1]
    refine (sorted_is hn (List.Perm.refl es) ?_).symm
    refine List.Pairwise.imp ?_ G.rise
    intro a b hab hba
    exact ltP_irrefl (ltP_trans (show LtP _ _ from hab) (show LtP _ _ from hba))
  have hlen : decide (((pairE es).length : Int) > 128) = false := by rw [decide_eq_false_iff_not]; have := G.len; simp [pairE]; omega
  have hz : ((0 : Int) != 0) = false := rfl
  have hD : applyD [] es = some es := by
    unfold applyD
    have h0 : ∃ M0, ofT [] = some M0 := ⟨_, rfl⟩
    obtain ⟨M0, h0⟩ := h0
    rw [h0]
    simp only
    rw [hmay, hz, cond_false]
    rw [show pairE [] = pairE [] from rfl, ha]
    simp only
    rw [hlen, cond_false, hs]
  unfold mergeI
  simp only [mergeR, hD]
  rfl
end Go.AX
