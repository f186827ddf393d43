import Derived.Test.YtliabkjjnkemlaaGreatSOF
import Derived.Test.YtliabkjjnkemlaaGreatSPL
import Derived.Test.YtliabkjjnkemlaaGreatSRB
import Derived.Test.YtliabkjjnkemlaaGreatSHD
set_option linter.unusedVariables false
set_option linter.unusedSimpArgs false
set_option linter.defProp false
namespace Go.AX
open Go.Proofs Go.RowKit
set_option maxRecDepth 1000000
set_option maxHeartbeats 40000000
set_option linter.unusedSimpArgs false
set_option linter.unusedVariables false
def plainO : AO → Bool
  | .cells _ el _ => !(Nat.beq el 59 || Nat.beq el 53)
  | .old _ => true
  | _ => false
theorem World.with {s : St} {x : Nat} {M : Md} {L : List (Nat × AO)} (h : World s x M L) {i : Nat} {o : AO} (hi : s.h.get i = some o) (ho : plainO o = true) : World s x M ((i, o) :: L) := by
  obtain ⟨hB, ι, μ, R, hq⟩ := h
  refine ⟨hB, ι, μ, R, fun q hm => ?_⟩
  rcases List.mem_cons.1 hm with rfl | hm
  · refine ⟨hi, ?_⟩
    rintro (e | ⟨k, hk, e | e⟩)
    · have e : i = x := e
      subst e
      rw [R.tr] at hi
      cases hi
      cases ho
    · have e : i = ι k := e
      subst e
      obtain ⟨nd, hn⟩ := T_of hk
      have := (R.nd k nd hn).1
      rw [this] at hi
      cases hi
      cases ho
    · have e : i = μ k := e
      subst e
      obtain ⟨nd, hn⟩ := T_of hk
      have h2 : s.h.get (μ k) = _ := (R.nd k nd hn).2
      rw [h2] at hi
      cases hi
      cases ho
  · exact hq q hm
theorem cut_flat : ∀ {es : List En} {k : Nat} {e : En}, es[k]? = some e → cutL (k * 4) 4 (flatE es) = some (celE e)
  | [], k, e, h => by simp at h
  | a :: l, 0, e, h => by
    simp at h
    subst h
    rfl
  | a :: l, k + 1, e, h => by
    have ih := cut_flat (es := l) (k := k) (e := e) (by simpa using h)
    have e1 : (k + 1) * 4 = k * 4 + 4 := by omega
    rw [e1]
    exact ih
theorem beq_flat : ∀ {es : List En}, beqAs (flatE es) (flatE es) = true
  | [] => rfl
  | e :: l => by
    have ih := beq_flat (es := l)
    have := beq_cel (e := e)
    unfold celE at this
    simp only [flatE, beqAs] at this ⊢
    simp only [ih, Bool.and_true] at this ⊢
    exact this
theorem Er.esv {s : St} {V : AV} {es : List En} (h : Er s V es) : EsV s V es := by
  rcases h with ⟨h1, h2⟩ | ⟨id, h1, h2⟩
  · exact Or.inl ⟨⟨_, _, h1⟩, h2⟩
  · exact Or.inr (Or.inr ⟨id, 0, 0, es.length, false, _, _, h1, h2, Or.inl ⟨_, rfl⟩, beq_flat, fun k e hk => by rw [Nat.zero_add]; exact cut_flat hk⟩)
theorem Er.hold {s : St} {x : Nat} {M : Md} {L : List (Nat × AO)} (hW : World s x M L) {V : AV} {es : List En} (h : Er s V es) : ∃ Lx, World s x M (Lx ++ L) ∧ ∀ s', (∀ q ∈ Lx, s'.h.get q.1 = some q.2) → Er s' V es := by
  rcases h with ⟨h1, h2⟩ | ⟨id, h1, h2⟩
  · exact ⟨[], hW, fun s' _ => Or.inl ⟨h1, h2⟩⟩
  · exact ⟨[(id, _)], hW.with h2 rfl, fun s' hq => Or.inr ⟨id, h1, hq _ (List.mem_singleton.2 rfl)⟩⟩
theorem num_c {s : St} (H : Ok TE Tryz.prog pr3) {z : Int} {kr kp : AV → St → Bool} (hk : kr (.raw (.int .i64 z)) s = true) : (sem Tryz.prog).call 8 [.raw (.int .i64 z)] s kr kp = true := by
  refine w_call H 4 fn_8 rfl rfl ?_
  repeat (first | with_reducible (refine w_one H ?_; constructor) | simp only [rB, rP, rQ, boolA, intA, resultA, resA, reduceIte, reduceCtorEq, Nat.reduceAdd, Nat.reduceLT, Nat.reduceEqDiff, UInt8.reduceToNat, pe3, pf3, Tryz.results8])
  exact hk
theorem cwd_c {s : St} (H : Ok TE Tryz.prog pr3) {x : Nat} {M : Md} {L : List (Nat × AO)} (hW : World s x M L) {p : List Nat} (h : pathT M.T 20 M.cwd = some p) {kr kp : AV → St → Bool} (hk : kr (.str p) s = true) : (sem Tryz.prog).call 15 [.ptr x 0] s kr kp = true := by
  refine w_call H 10 fn_15 rfl rfl ?_
  obtain ⟨hB, ι, μ, R, hq⟩ := hW
  have hx := R.tr
  unfold trA at hx
  have hp := pathT_to R.hom h
  repeat (first | with_reducible (refine w_one H ?_; constructor) | simp only [rB, rP, rQ, boolA, intA, resultA, resA, reduceIte, reduceCtorEq, Nat.reduceAdd, Nat.reduceLT, Nat.reduceEqDiff, UInt8.reduceToNat, pe3, pf3, b_pp, eq_tn2, fr_1', ld_50, hx])
  refine path_c H R.rep hp ?_
  repeat (first | with_reducible (refine w_one H ?_; constructor) | simp only [rB, rP, rQ, boolA, intA, resultA, resA, reduceIte, reduceCtorEq, Nat.reduceAdd, Nat.reduceLT, Nat.reduceEqDiff, UInt8.reduceToNat, pe3, pf3, Tryz.results15])
  exact hk
def stI (h0 : Tr AO) : St := { h := h0, nx := 1 }
def Hd (h0 : Tr AO) (L0 : List (Nat × AO)) : Prop := (h0 = .e ∧ L0 = []) ∨ ∃ cs, h0 = Tr.e.set 0 (.old cs) ∧ L0 = [(0, .old cs)]
theorem Hd.below {h0 : Tr AO} {L0 : List (Nat × AO)} (h : Hd h0 L0) : Below0 (stI h0) := by
  rcases h with ⟨rfl, _⟩ | ⟨cs, rfl, _⟩
  · intro i o h
    simp [stI, Tr.get] at h
  · intro i o h
    simp only [stI, Tr.get_set] at h
    by_cases hi : i = 0
    · subst hi; show 0 < 1; omega
    · rw [if_neg hi] at h
      simp [Tr.get] at h
theorem Hd.gets {h0 : Tr AO} {L0 : List (Nat × AO)} (h : Hd h0 L0) : ∀ q ∈ L0, (stI h0).h.get q.1 = some q.2 ∧ plainO q.2 = true ∧ q.1 = 0 := by
  rcases h with ⟨_, rfl⟩ | ⟨cs, rfl, rfl⟩
  · intro q hq; cases hq
  · intro q hq
    simp only [List.mem_singleton] at hq
    subst hq
    refine ⟨?_, rfl, rfl⟩
    show (Tr.e.set 0 (AO.old cs)).get 0 = _
    rw [Tr.get_set, if_pos rfl]
theorem same_self {es : List En} : sameE es es = true := by
  have hl : ∀ l : List En, sameL l l = true := by
    intro l
    induction l with
    | nil => rfl
    | cons e l ih =>
      have : eqE e e = true := by unfold eqE; simp [eqB_eq.2]
      simp only [sameL, this, cond_true, ih]
  unfold sameE
  have : ((es.length : Int) != (es.length : Int)) = false := by simp
  rw [this, cond_false, hl]
end Go.AX
namespace Go.AX
open Go.Proofs Go.RowKit
set_option maxRecDepth 1000000
set_option maxHeartbeats 40000000
set_option linter.unusedSimpArgs false
set_option linter.unusedVariables false
def rmE : En := ([126, 114, 111, 111, 109], 0, 0, [])
theorem bs_0 {s : St} : buildSliceA TE s 22 0 [] = some (.slice s.nx 0 0 0 0 true, s.alloc (.cells [] 49 0)) := by kernel_rfl
theorem bd_rm : buildA TE 49 [(0, .str [126, 114, 111, 111, 109])] = some (agE rmE) := by kernel_rfl
theorem bs_2 {s : St} : buildSliceA TE s 22 2 [(0, agE rmE), (1, agE rmE)] = some (.slice s.nx 0 2 0 2 true, s.alloc (.cells (flatE [rmE, rmE]) 49 0)) := by kernel_rfl
def OwnE (b : Nat) (s : St) (V : AV) (es : List En) : Prop := ∃ q ex fz, V = .slice q 0 es.length 0 es.length ex ∧ b ≤ q ∧ s.h.get q = some (.cells (flatE es) 49 fz) ∧ (ex = false → fz = 8)
theorem flat_one {es : List En} : (flatE es).all AV.one = true := by
  induction es with
  | nil => rfl
  | cons e l ih => simpa [flatE, AV.one] using ih
theorem nb_flat {es : List En} : Nat.beq (flatE es).length (es.length * 4) = true := by rw [flatE_len]; exact Nat.beq_refl _
theorem copy_c {s : St} (H : Ok TE Tryz.prog pr3) (hB : Below0 s) {V : AV} {es : List En} (h1 : ∀ s', Ext s s' → firstA s' 4 es.length V = some (flatE es)) (h2 : lenA V = some es.length) (hn : es.length ≤ 1048570) {kr kp : AV → St → Bool}
    (hk : ∀ s' W, Ext s s' → Below0 s' → OwnE s.nx s' W es → kr W s' = true) : (sem Tryz.prog).call 18 [V] s kr kp = true := by
  refine w_call H 6 fn_18 rfl rfl ?_
  have f1 := h1 _ (Ext.alloc s (.cells [] 49 0))
  have B1 := below_al hB (.cells [] 49 0)
  have e1 : ∃ W s2, appendA TE (s.alloc (.cells [] 49 0)) [22, 22] [.slice s.nx 0 0 0 0 true, V] = some (W, s2) ∧ Ext s s2 ∧ Below0 s2 ∧ OwnE s.nx s2 W es := by
    rw [app_eqE]
    simp only [h2, f1, nb_flat, flat_one, Bool.and_self, cond_true, growA, gc_of (al_same (s := s) (o := .cells [] 49 0)), Nat.zero_add, el_size, Nat.zero_mul]
    by_cases h0 : es.length = 0
    · have hes : es = [] := List.length_eq_zero_iff.mp h0
      subst hes
      refine ⟨.slice s.nx 0 0 0 0 true, { h := (s.alloc (.cells [] 49 0)).h.set s.nx (.cells [] 49 0), nx := s.nx + 1 }, ?_, ⟨Nat.le_succ _, fun i hi => (hs_ne (by omega)).trans (al_ne (by omega))⟩, below_set B1 (by show s.nx < s.nx + 1; omega) _, ⟨s.nx, true, 0, rfl, Nat.le_refl _, hs_same, fun h => by cases h⟩⟩
      have e2 : Nat.ble ([] : List En).length 0 = true := rfl
      simp only [e2, cond_true, storeCellsA, gc_of (al_same (s := s) (o := .cells [] 49 0)), flatE, List.all_nil, putL_nil]
      rfl
    · have e2 : Nat.ble es.length 0 = false := by
        cases hb : Nat.ble es.length 0 with
        | false => rfl
        | true => have := Nat.ble_eq.mp hb; omega
      have e3 : Nat.ble (es.length * elE.bytes) 134217728 = true := Nat.ble_eq.mpr (by rw [el_bytes]; omega)
      have e4 : Nat.ble es.length 1048576 = true := Nat.ble_eq.mpr (by omega)
      have c0 : cutL 0 0 ([] : List AV) = some [] := rfl
      simp only [e2, cond_false, c0, e3, e4, Bool.and_self, cond_true, List.nil_append]
      exact ⟨_, _, rfl, (Ext.alloc s _).trans (Ext.alloc _ _), below_al B1 _, ⟨s.nx + 1, false, _, rfl, Nat.le_succ _, al_same, fun _ => rfl⟩⟩
  obtain ⟨W, s2, a1, a2, a3, a4⟩ := e1
  repeat (first | with_reducible (refine w_one H ?_; constructor) | simp only [rB, rP, rQ, boolA, intA, resultA, resA, reduceIte, reduceCtorEq, Nat.reduceAdd, Nat.reduceLT, Nat.reduceEqDiff, UInt8.reduceToNat, pe3, pf3, bs_0, a1, Tryz.results18])
  exact hk _ _ a2 a3 a4
theorem so_en {id off len ci cap : Nat} {ex : Bool} {j : Nat} (h : j ≤ cap) : sliceOpA TE 22 (.slice id off len ci cap ex) none (some (.raw (.int .i64 (j : Int)))) none = some (.slice id off j ci cap ex) := by
  have e : sliceOpA TE 22 (.slice id off len ci cap ex) none (some (.raw (.int .i64 (j : Int)))) none = (match (some elE : Option TI), sliceBoundsA len cap none (some (.raw (.int .i64 (j : Int)))) with
      | some el, some (l, h) =>
        bif Nat.blt l cap || Nat.beq l 0 then some (.slice id (off + l * el.size) (h - l) (ci + l) (cap - l) ex)
        else bif ex then some (.slice id off 0 ci 0 true)
        else some (.esl id off ci l el.size)
      | _, _ => none) := by kernel_rfl
  rw [e, sb_hi (i := j) no_cast h]
  simp
theorem lend_c {s : St} (H : Ok TE Tryz.prog pr3) (hB : Below0 s) {V : AV} {es : List En} (h1 : ∀ s', Ext s s' → firstA s' 4 es.length V = some (flatE es)) (h2 : lenA V = some es.length) (hl : ∀ s', lenOpA TE s' [22] [V] = some (.raw (.int .i64 (es.length : Int)))) (hi : idsOf V = []) (hn : es.length ≤ 1048570) {kr kp : AV → St → Bool}
    (hk : ∀ s' q, Ext s s' → Below0 s' → s.nx ≤ q → s'.h.get q = some (.cells (flatE (es ++ [rmE, rmE])) 49 8) → kr (.slice q 0 es.length 0 (es.length + 2) false) s' = true) : (sem Tryz.prog).call 5 [V] s kr kp = true := by
  refine w_call H 14 fn_5 rfl rfl ?_
  repeat (first | with_reducible (refine w_one H ?_; constructor) | simp only [rB, rP, rQ, boolA, intA, resultA, resA, reduceIte, reduceCtorEq, Nat.reduceAdd, Nat.reduceLT, Nat.reduceEqDiff, UInt8.reduceToNat, pe3, pf3])
  refine copy_c H hB h1 h2 hn (fun s1 W hE1 hB1 hW => ?_)
  obtain ⟨q, ex, fz, rfl, hq, hg, hf⟩ := hW
  have hql := hB1 _ _ hg
  have B2 := below_al hB1 (.cells (flatE [rmE, rmE]) 49 0)
  have g2 : (s1.alloc (.cells (flatE [rmE, rmE]) 49 0)).h.get q = some (.cells (flatE es) 49 fz) := (al_ne (by omega)).trans hg
  have f2 : firstA (s1.alloc (.cells (flatE [rmE, rmE]) 49 0)) 4 2 (.slice s1.nx 0 2 0 2 true) = some (flatE [rmE, rmE]) := by
    simp only [firstA, gc_of (al_same (s := s1) (o := .cells (flatE [rmE, rmE]) 49 0))]
    rfl
  have e1 : ∃ q' s2, appendA TE (s1.alloc (.cells (flatE [rmE, rmE]) 49 0)) [22, 22] [.slice q 0 es.length 0 es.length ex, .slice s1.nx 0 2 0 2 true] = some (.slice q' 0 (es.length + 2) 0 (es.length + 2) false, s2) ∧ Ext s s2 ∧ Below0 s2 ∧ s.nx ≤ q' ∧
      s2.h.get q' = some (.cells (flatE (es ++ [rmE, rmE])) 49 8) := by
    rw [app_eqE]
    have n2 : Nat.beq (flatE [rmE, rmE]).length (2 * 4) = true := rfl
    have e2 : Nat.ble (es.length + 2) es.length = false := by
      cases hb : Nat.ble (es.length + 2) es.length with
      | false => rfl
      | true => have := Nat.ble_eq.mp hb; omega
    have e3 : Nat.ble ((es.length + 2) * elE.bytes) 134217728 = true := Nat.ble_eq.mpr (by rw [el_bytes]; omega)
    have e4 : Nat.ble (es.length + 2) 1048576 = true := Nat.ble_eq.mpr (by omega)
    have c0 : cutL 0 (es.length * 4) (flatE es) = some (flatE es) := by rw [cutL_zero (by rw [flatE_len]; exact Nat.le_refl _), List.take_of_length_le (by rw [flatE_len]; exact Nat.le_refl _)]
    simp only [lenA, f2, n2, flat_one, Bool.and_self, cond_true, growA, gc_of g2, e2, cond_false, el_size, c0, e3, e4]
    cases ex with
    | true => exact ⟨_, _, rfl, hE1.trans ((Ext.alloc s1 _).trans (Ext.alloc _ _)), below_al B2 _, by show s.nx ≤ s1.nx + 1; have := hE1.1; omega, by rw [flatE_app]; exact al_same⟩
    | false =>
      have hf8 := hf rfl
      subst hf8
      refine ⟨_, _, rfl, ⟨by show s.nx ≤ s1.nx + 1 + 1; have := hE1.1; omega, fun i hi => ?_⟩, below_move B2, by show s.nx ≤ s1.nx + 1; have := hE1.1; omega, by rw [flatE_app]; exact hs_same⟩
      have h1 := hE1.1
      show (((s1.alloc _).h.del q).set (s1.nx + 1) _).get i = _
      rw [hs_ne (by omega), Tr.get_del, if_neg (by omega), al_ne (by omega)]
      exact hE1.2 i hi
  obtain ⟨q', s2, a1, a2, a3, a4, a5⟩ := e1
  repeat (first | with_reducible (refine w_one H ?_; constructor) | simp only [rB, rP, rQ, boolA, intA, resultA, resA, reduceIte, reduceCtorEq, Nat.reduceAdd, Nat.reduceLT, Nat.reduceEqDiff, UInt8.reduceToNat, pe3, pf3, bd_rm, bs_2, a1, hl, hi, so_en (Nat.le_add_right es.length 2), Tryz.results5])
  exact hk _ _ a2 a3 a4 a5
theorem eq_eE {s : St} {e e' : En} {d : Option (AV × List Nat)} : eqS TE s .eql 49 (agE e) (agE e') d = some (boolA (eqE e e'), []) := by kernel_rfl
theorem b_eqE {e e' : En} : binFast .eql (agE e) (agE e') = none := (rfl)
theorem lent_esv {s : St} {q : Nat} {es r : List En} {cap : Nat} {fz : Nat} (hg : s.h.get q = some (.cells (flatE (es ++ r)) 49 fz)) : EsV s (.slice q 0 es.length 0 cap false) es :=
  Or.inr (Or.inr ⟨q, 0, 0, cap, false, _, _, rfl, hg, Or.inl ⟨_, rfl⟩, beq_flat, fun k e hk => by rw [Nat.zero_add]; exact cut_flat (by rw [List.getElem?_append_left (List.getElem?_eq_some_iff.mp hk).1]; exact hk)⟩)
theorem kept_c {s : St} (H : Ok TE Tryz.prog pr3) {V : AV} {es : List En} {q : Nat} (hV : EsV s V es) (hg : s.h.get q = some (.cells (flatE (es ++ [rmE, rmE])) 49 8)) (hn : es.length ≤ 1048570) {kr kp : AV → St → Bool}
    (hk : kr (.raw (.bool true)) s = true) : (sem Tryz.prog).call 9 [.slice q 0 es.length 0 (es.length + 2) false, V] s kr kp = true := by
  refine w_call H 33 fn_9 rfl rfl ?_
  have hX := lent_esv (cap := es.length + 2) hg
  have hF : EsV s (.slice q 0 (es.length + 2) 0 (es.length + 2) false) (es ++ [rmE, rmE]) := by
    have := lent_esv (es := es ++ [rmE, rmE]) (r := []) (cap := es.length + 2) (by rw [List.append_nil]; exact hg)
    simpa using this
  have xl := hX.len
  have vl := hV.len
  have xi := hX.ids
  have vi := hV.ids
  have ew : IntKind.i64.wrap ((es.length : Int) + 2) = ((es.length + 2 : Nat) : Int) := by
    rw [show (es.length : Int) + 2 = ((es.length + 2 : Nat) : Int) from by simp]
    exact wrap_nat (by omega)
  have ew1 := nat_plus (k := es.length) (by omega)
  obtain ⟨i1, o1, b1, x1, x2, x3, x4, -⟩ := hF.fld (k := es.length) (e := rmE) (by simp)
  obtain ⟨i2, o2, b2, y1, y2, y3, y4, -⟩ := hF.fld (k := es.length + 1) (e := rmE) (by simp)
  have x3 := x3 s x2
  have y3 := y3 s y2
  have rr : eqE rmE rmE = true := by decide
  repeat (first | with_reducible (refine w_one H ?_; constructor) | simp only [rB, rP, rQ, boolA, intA, resultA, resA, reduceIte, reduceCtorEq, Nat.reduceAdd, Nat.reduceLT, Nat.reduceEqDiff, UInt8.reduceToNat, pe3, pf3, xl, xi, b_plus, ew, so_en (Nat.le_refl (es.length + 2))])
  refine sameEs_c H hX hV (by omega) ?_
  rw [same_self]
  repeat (first | with_reducible (refine w_one H ?_; constructor) | simp only [rB, rP, rQ, boolA, intA, resultA, resA, reduceIte, reduceCtorEq, Nat.reduceAdd, Nat.reduceLT, Nat.reduceEqDiff, UInt8.reduceToNat, pe3, pf3, vl, vi, x1, x2, x3, x4, y1, y2, y3, y4, bd_rm, b_eqE, eq_eE, rr, b_plus, ew1, Tryz.results9])
  exact hk
def notE : AO → Bool
  | .cells _ el _ => !(Nat.beq el 49)
  | _ => true
theorem World.ent {s s' : St} {x : Nat} {M : Md} (h : World s x M []) (hB' : Below0 s') (hk : ∀ i o, s.h.get i = some o → notE o = true → s'.h.get i = some o) : World s' x M [] := by
  obtain ⟨hB, ι, μ, R, _⟩ := h
  exact ⟨hB', ι, μ, ⟨fun k nd hn => ⟨hk _ _ (R.nd k nd hn).1 rfl, hk _ _ (R.nd k nd hn).2 rfl⟩, hk _ _ R.tr rfl, R.ij, R.mj, R.kd, R.up, R.rt, R.cw, R.f8, R.fd, R.mn, R.da⟩, fun q hq => by cases hq⟩
theorem spoil_c {s : St} (H : Ok TE Tryz.prog pr3) (hB : Below0 s) {V : AV} {es : List En} (hV : (V = nilS ∧ es = []) ∨ ∃ q cap ex cs fz, V = .slice q 0 es.length 0 cap ex ∧ s.h.get q = some (.cells cs 49 fz) ∧ ∀ k e, es[k]? = some e → cs[k * 4]? = some (.str e.1)) (hn : es.length ≤ 1048576) (hp : ∀ e ∈ es, e.1.length ≤ 1048575) {kr kp : AV → St → Bool}
    (hk : ∀ s', s'.nx = s.nx → Below0 s' → (∀ i, (∀ q o l c d ex, V = .slice q o l c d ex → i ≠ q) → s'.h.get i = s.h.get i) → (∀ i o, s.h.get i = some o → notE o = true → s'.h.get i = some o) → kr (.tuple []) s' = true) :
    (sem Tryz.prog).call 11 [V] s kr kp = true := by
  refine w_call H 19 fn_11 rfl rfl ?_
  repeat (first | with_reducible (refine w_one H ?_; constructor) | simp only [rB, rP, rQ, boolA, intA, resultA, resA, reduceIte, reduceCtorEq, Nat.reduceAdd, Nat.reduceLT, Nat.reduceEqDiff, UInt8.reduceToNat])
  rcases hV with ⟨rfl, rfl⟩ | ⟨q, cap, ex, cs, fz, rfl, hg, hc⟩
  · have vl : ∀ s', lenOpA TE s' [22] [nilS] = some (.raw (.int .i64 0)) := fun s' => by kernel_rfl
    have vi : idsOf nilS = [] := rfl
    have g0 : decide ((0 : Int) < 0) = false := rfl
    refine w_loop_ind H (fun n t s' => s' = s ∧ tg t 0 = nilS ∧ tg t 2 = .raw (.int .i64 0)) (n := 0) ⟨rfl, by simp only [rB, rP, rQ, boolA, intA, resultA, resA, reduceIte, reduceCtorEq, Nat.reduceAdd, Nat.reduceLT, Nat.reduceEqDiff, UInt8.reduceToNat], by simp only [rB, rP, rQ, boolA, intA, resultA, resA, reduceIte, reduceCtorEq, Nat.reduceAdd, Nat.reduceLT, Nat.reduceEqDiff, UInt8.reduceToNat]⟩ ?_
    rintro n t s' ih ⟨rfl, t0, t2⟩
    repeat (first | with_reducible (refine w_one H ?_; constructor) | simp only [rB, rP, rQ, boolA, intA, resultA, resA, reduceIte, reduceCtorEq, Nat.reduceAdd, Nat.reduceLT, Nat.reduceEqDiff, UInt8.reduceToNat, pe3, pf3, t0, t2, vl, vi, b_lt, g0, Tryz.results11])
    exact hk s' rfl hB (fun _ _ => rfl) (fun _ _ h _ => h)
  · have vl : ∀ s', lenOpA TE s' [22] [.slice q 0 es.length 0 cap ex] = some (.raw (.int .i64 (es.length : Int))) := fun s' => by kernel_rfl
    have vi : idsOf (.slice q 0 es.length 0 cap ex) = [] := rfl
    have hql := hB _ _ hg
    refine w_loop_ind H (fun n t s' => ∃ (k : Nat) (cs' : List AV), n + k = es.length ∧ tg t 0 = .slice q 0 es.length 0 cap ex ∧ tg t 2 = .raw (.int .i64 (k : Int)) ∧ s'.nx = s.nx ∧ Below0 s' ∧ s'.h.get q = some (.cells cs' 49 fz) ∧ (∀ i, i ≠ q → s'.h.get i = s.h.get i) ∧ ∀ j e, k ≤ j → es[j]? = some e → cs'[j * 4]? = some (.str e.1)) (n := es.length)
      ⟨0, cs, rfl, by simp only [rB, rP, rQ, boolA, intA, resultA, resA, reduceIte, reduceCtorEq, Nat.reduceAdd, Nat.reduceLT, Nat.reduceEqDiff, UInt8.reduceToNat], by simp only [rB, rP, rQ, boolA, intA, resultA, resA, reduceIte, reduceCtorEq, Nat.reduceAdd, Nat.reduceLT, Nat.reduceEqDiff, UInt8.reduceToNat]; rfl, rfl, hB, hg, fun _ _ => rfl, fun j e _ h => hc j e h⟩ ?_
    rintro n t s' ih ⟨k, cs', hnk, t0, t2, hnx, hB', hg', hfr, hcs⟩
    cases n with
    | zero =>
      have g0 := dec_nlt (a := k) (b := es.length) (by omega)
      repeat (first | with_reducible (refine w_one H ?_; constructor) | simp only [rB, rP, rQ, boolA, intA, resultA, resA, reduceIte, reduceCtorEq, Nat.reduceAdd, Nat.reduceLT, Nat.reduceEqDiff, UInt8.reduceToNat, pe3, pf3, t0, t2, vl, vi, b_lt, g0, Tryz.results11])
      refine hk s' hnx hB' (fun i hi => hfr i (hi q _ _ _ _ _ rfl)) (fun i o h ho => ?_)
      by_cases e : i = q
      · subst e
        rw [hg] at h
        cases h
        cases ho
      · rw [hfr i e]
        exact h
    | succ n =>
      have hlt : k < es.length := by omega
      have g0 := dec_lt hlt
      have ew := nat_plus (k := k) (by omega)
      have hke : es[k]? = some es[k] := List.getElem?_eq_getElem hlt
      have hmem := List.getElem_mem hlt
      generalize es[k] = e at hke hmem
      have hce := hcs k e (Nat.le_refl _) hke
      have hcl := (List.getElem?_eq_some_iff.mp hce).1
      have ix : indexAddrA TE 22 (.slice q 0 es.length 0 cap ex) (.raw (.int .i64 (k : Int))) = some (.ptr q (k * 4)) := by rw [ix_e hlt, Nat.zero_add]
      have ad := b_add (a := [126]) (b := e.1) (by have := hp e hmem; simp; omega)
      have ld : ldO (some (.cells cs' 49 fz)) (k * 4 + 0) = some (.str e.1) := hce
      have pt : putL cs' (k * 4 + 0) [.str (126 :: e.1)] = some (cs'.take (k * 4) ++ .str (126 :: e.1) :: cs'.drop (k * 4 + 1)) := by rw [Nat.add_zero, putL_at hcl]
      have iq : ∀ b, inO (some (.cells cs' 49 fz)) b = b := fun b => rfl
      repeat (first | with_reducible (refine w_one H ?_; constructor) | simp only [rB, rP, rQ, boolA, intA, resultA, resA, reduceIte, reduceCtorEq, Nat.reduceAdd, Nat.reduceLT, Nat.reduceEqDiff, UInt8.reduceToNat, pe3, pf3, t0, t2, vl, vi, b_lt, g0, ix, fe_0, ld_9, st_9, hg', ld, iq, ad, pt, b_plus, ew])
      refine ih n _ _ (Nat.lt_succ_self n) ⟨k + 1, _, by omega, by simp only [rB, rP, rQ, boolA, intA, resultA, resA, reduceIte, reduceCtorEq, Nat.reduceAdd, Nat.reduceLT, Nat.reduceEqDiff, UInt8.reduceToNat, t0], by simp only [rB, rP, rQ, boolA, intA, resultA, resA, reduceIte, reduceCtorEq, Nat.reduceAdd, Nat.reduceLT, Nat.reduceEqDiff, UInt8.reduceToNat], hnx, below_set hB' (by omega) _, hs_same, fun i hi => (hs_ne hi).trans (hfr i hi), fun j e' hj he' => ?_⟩
      have h1 := hcs j e' (by omega) he'
      rw [List.getElem?_append_right (by simp; omega), List.length_take, Nat.min_eq_left (by omega)]
      rw [show j * 4 - k * 4 = (j * 4 - k * 4 - 1) + 1 from by omega, List.getElem?_cons_succ, List.getElem?_drop, show k * 4 + 1 + (j * 4 - k * 4 - 1) = j * 4 from by omega]
      exact h1
theorem nodes_c {s : St} (H : Ok TE Tryz.prog pr3) {x : Nat} {M : Md} {L : List (Nat × AO)} (hW : World s x M L) {kr kp : AV → St → Bool} (hk : kr (.raw (.int .i64 M.many)) s = true) : (sem Tryz.prog).call 14 [.ptr x 0] s kr kp = true := by
  refine w_call H 9 fn_14 rfl rfl ?_
  obtain ⟨hB, ι, μ, R, hq⟩ := hW
  obtain ⟨f0, f1, f2, f3, f4, f5, f6, f7, h8⟩ := R.tr8
  have hx := R.tr
  rw [h8] at hx
  repeat (first | with_reducible (refine w_one H ?_; constructor) | simp only [rB, rP, rQ, boolA, intA, resultA, resA, reduceIte, reduceCtorEq, Nat.reduceAdd, Nat.reduceLT, Nat.reduceEqDiff, UInt8.reduceToNat, pe3, pf3, b_pp, eq_tn2, fr_3S, ld_3, hx, Tryz.results14])
  exact hk
end Go.AX
namespace Go.AX
open Go.Proofs Go.RowKit
set_option maxRecDepth 1000000
set_option maxHeartbeats 400000000
set_option linter.unusedSimpArgs false
set_option linter.unusedVariables false
def isBoolA : AV → Bool
  | .raw (.bool _) => true
  | _ => false
def nebA : AV → AV → Option (AV × List Nat)
  | .raw (.bool a), .raw (.bool b) => some (.raw (.bool (a != b)), [])
  | _, _ => none
theorem nebA_b {a b : Bool} : nebA (.raw (.bool a)) (.raw (.bool b)) = some (.raw (.bool (a != b)), []) := (rfl)
theorem isBool_b {a : Bool} : isBoolA (.raw (.bool a)) = true := (rfl)
theorem run_nb1 {i j : Nat} : pureRun TE.P (do let r ← (do eqGuard .neq 4 (.tmp i) (.tmp j) (.bool true) (.bool true); binOp .neq 4 (.bool true) (.bool true)); pure (Next.value r)) = some (.value (.bool false)) := by kernel_rfl
theorem run_nb2 {i j : Nat} : pureRun TE.P (do let r ← (do eqGuard .neq 4 (.tmp i) (.tmp j) (.bool true) (.bool false); binOp .neq 4 (.bool true) (.bool false)); pure (Next.value r)) = some (.value (.bool true)) := by kernel_rfl
theorem run_nb3 {i j : Nat} : pureRun TE.P (do let r ← (do eqGuard .neq 4 (.tmp i) (.tmp j) (.bool false) (.bool true); binOp .neq 4 (.bool false) (.bool true)); pure (Next.value r)) = some (.value (.bool true)) := by kernel_rfl
theorem run_nb4 {i j : Nat} : pureRun TE.P (do let r ← (do eqGuard .neq 4 (.tmp i) (.tmp j) (.bool false) (.bool false); binOp .neq 4 (.bool false) (.bool false)); pure (Next.value r)) = some (.value (.bool false)) := by kernel_rfl
theorem isBool_of {v : AV} (h : isBoolA v = true) : ∃ b, v = .raw (.bool b) := by
  unfold isBoolA at h
  split at h
  · exact ⟨_, rfl⟩
  · cases h
theorem pu_nb {a : Ac} {dst : Option Tmp} {i j : Nat} {ty : TypeId} {pos : String} {after : Array Edge} (hx : isBoolA (a.eval (.tmp i)) = true) (hy : isBoolA (a.eval (.tmp j)) = true) :
    stepPure TE a ⟨dst, .binOp .neq 4 (.tmp i) (.tmp j) 4, ty, pos, after, none⟩ = nebA (a.eval (.tmp i)) (a.eval (.tmp j)) := by
  obtain ⟨x, hx⟩ := isBool_of hx
  obtain ⟨y, hy⟩ := isBool_of hy
  have h1 : valAt a (.tmp i) = .bool x := by simp [valAt, hx, toVal]
  have h2 : valAt a (.tmp j) = .bool y := by simp [valAt, hy, toVal]
  have hall : (Op.operands (.binOp .neq 4 (.tmp i) (.tmp j) 4)).toList.all (fun x => (toVal (a.eval x)).isSome) = true := by
    show (List.all [.tmp i, .tmp j] (fun x => (toVal (a.eval x)).isSome)) = true
    simp only [List.all_cons, List.all_nil, hx, hy]
    rfl
  have hr : pureRun TE.P (execOp (valAt a) ⟨dst, .binOp .neq 4 (.tmp i) (.tmp j) 4, ty, pos, after, none⟩) = some (.value (.bool (x != y))) := by
    have he : execOp (valAt a) ⟨dst, .binOp .neq 4 (.tmp i) (.tmp j) 4, ty, pos, after, none⟩ = (do let r ← (do eqGuard .neq 4 (.tmp i) (.tmp j) (.bool x) (.bool y); binOp .neq 4 (.bool x) (.bool y)); pure (.value r)) := by
      simp only [execOp, h1, h2]
    rw [he]
    cases x <;> cases y
    · exact run_nb4
    · exact run_nb3
    · exact run_nb2
    · exact run_nb1
  simp only [stepPure, hall, cond_true, hr, hx, hy]
  rfl
theorem b_neb {a b : Bool} : binFast .neq (.raw (.bool a)) (.raw (.bool b)) = none := (rfl)
theorem eqS_neb {s : St} {a b : Bool} {d : Option (AV × List Nat)} : eqS TE s .neq 4 (.raw (.bool a)) (.raw (.bool b)) d = d := by kernel_rfl
structure Pke (V : AV) (es : List En) (L0 : List (Nat × AO)) : Prop where
  len : ∀ s', lenOpA TE s' [22] [V] = some (.raw (.int .i64 (es.length : Int)))
  ids : idsOf V = []
  first : ∀ s', (∀ q ∈ L0, s'.h.get q.1 = some q.2) → firstA s' 4 es.length V = some (flatE es)
  lenA : lenA V = some es.length
  esv : ∀ s', (∀ q ∈ L0, s'.h.get q.1 = some q.2) → EsV s' V es
theorem pke_nil {a : Option Go.Addr} {c : Nat} : Pke (.raw (.slice a 0 c)) [] [] :=
  ⟨fun s' => (by kernel_rfl), rfl, fun s' _ => by cases a <;> rfl, by cases a <;> rfl, fun s' _ => Or.inl ⟨⟨_, _, rfl⟩, rfl⟩⟩
theorem pke_row {es : List En} {c : Nat} : Pke (.slice 0 0 es.length 0 c true) es [(0, .old (flatE es))] := by
  refine ⟨fun s' => (by kernel_rfl), rfl, fun s' h => ?_, rfl, fun s' h => ?_⟩
  · have g : s'.h.get 0 = some (.old (flatE es)) := h _ (List.mem_singleton.2 rfl)
    simp only [firstA, getCells, oldL, g]
    rw [cutL_zero (by rw [flatE_len]; exact Nat.le_refl _), List.take_of_length_le (by rw [flatE_len]; exact Nat.le_refl _)]
  · exact Or.inr (Or.inr ⟨0, 0, 0, c, true, _, _, rfl, h _ (List.mem_singleton.2 rfl), Or.inr rfl, beq_flat, fun k e hk => by rw [Nat.zero_add]; exact cut_flat hk⟩)
theorem ofs_c {h0 : Tr AO} {V : AV} {es : List En} {L0 : List (Nat × AO)} (hP : Pke V es L0) (hd : Hd h0 L0) (hp : ∀ e ∈ es, e.1.length ≤ 1048575) (hn : es.length ≤ 1048570) :
    (sem Tryz.prog).call 3 [V] (stI h0) (fun v _ => isTrue v) (fun _ _ => false) = true := by
  have H := ok3
  refine w_call H 75 fn_3 rfl rfl ?_
  have hL0 : ∀ s', Ext (stI h0) s' → ∀ q ∈ L0, s'.h.get q.1 = some q.2 := fun s' hE q hq => by
    obtain ⟨g1, _, g3⟩ := hd.gets q hq
    exact (hE.2 _ (by rw [g3]; show 0 < 1; omega)).trans g1
  repeat (first | with_reducible (refine w_one H ?_; constructor) | simp only [rB, rP, rQ, boolA, intA, resultA, resA, reduceIte, reduceCtorEq, Nat.reduceAdd, Nat.reduceLT, Nat.reduceEqDiff, UInt8.reduceToNat, pe3, pf3])
  refine lend_c H hd.below (fun s' hE => hP.first s' (hL0 s' hE)) hP.lenA hP.len hP.ids (by omega) (fun s1 q hE1 hB1 hq hg1 => ?_)
  repeat (first | with_reducible (refine w_one H ?_; constructor) | simp only [rB, rP, rQ, boolA, intA, resultA, resA, reduceIte, reduceCtorEq, Nat.reduceAdd, Nat.reduceLT, Nat.reduceEqDiff, UInt8.reduceToNat, pe3, pf3])
  refine of_c H hB1 (lent_esv hg1) hp (by omega) (fun s2 xt M hof hE2 W2 hx2 => ?_) (fun s2 hof hE2 hB2 => ?_)
  · have hB2 := W2.1
    have hEs2 := hE1.trans hE2
    repeat (first | with_reducible (refine w_one H ?_; constructor) | simp only [rB, rP, rQ, boolA, intA, resultA, resA, reduceIte, reduceCtorEq, Nat.reduceAdd, Nat.reduceLT, Nat.reduceEqDiff, UInt8.reduceToNat, pe3, pf3])
    refine of5_c H hB2 (hP.esv s2 (hL0 s2 hEs2)) hp (by omega) (fun s3 M1 K pv R x5 ι ν κ φ _ _ _ _ hE3 hB3 => ?_) (fun s3 h _ _ => by rw [hof] at h; cases h)
    have hEs3 := hEs2.trans hE3
    have W3 := W2.ext hE3 hB3
    have hg3 : s3.h.get q = some (.cells (flatE (es ++ [rmE, rmE])) 49 8) := (hE3.2 _ (hB2 _ _ ((hE2.2 _ (hB1 _ _ hg1)).trans hg1))).trans ((hE2.2 _ (hB1 _ _ hg1)).trans hg1)
    obtain ⟨wf, hmany, hcwd, hents, _⟩ := ofT_ok hof
    obtain ⟨_, _, _, _, h128⟩ := wf.count
    have hq0 : (stI h0).nx ≤ q := hq
    have e00 : ((0 : Int) == 0) = true := rfl
    have tt : (true != true) = false := rfl
    have e500 : ((500 : Int) != 500) = false := rfl
    repeat (first | with_reducible (refine w_one H ?_; constructor) | simp only [rB, rP, rQ, boolA, intA, resultA, resA, reduceIte, reduceCtorEq, Nat.reduceAdd, Nat.reduceLT, Nat.reduceEqDiff, UInt8.reduceToNat, pe3, pf3] | (with_reducible refine num_c H ?_))
    repeat (first | with_reducible (refine w_one H ?_; constructor) | simp only [rB, rP, rQ, boolA, intA, resultA, resA, reduceIte, reduceCtorEq, Nat.reduceAdd, Nat.reduceLT, Nat.reduceEqDiff, UInt8.reduceToNat, pe3, pf3, b_eqi, e00, b_neb, eqS_neb, pu_nb, isBool_b, nebA_b, tt, Bool.not_true] | (refine kept_c H (hP.esv s3 (hL0 s3 hEs3)) hg3 (by omega) ?_))
    refine spoil_c H hB3 (Or.inr ⟨q, es.length + 2, false, _, 8, rfl, hg3, fun k e hk => ?_⟩) (by omega) hp (fun s4 hn4 hB4 hf4 hk4 => ?_)
    · have := cut_get (cut_flat (es := es ++ [rmE, rmE]) (k := k) (e := e) (by rw [List.getElem?_append_left (List.getElem?_eq_some_iff.mp hk).1]; exact hk)) rfl
      exact this
    have W4 := W3.ent hB4 hk4
    have hL4 : ∀ q ∈ L0, s4.h.get q.1 = some q.2 := fun q' hq' => by
      obtain ⟨_, _, g3⟩ := hd.gets q' hq'
      refine (hf4 _ (fun a b c d e f h => ?_)).trans (hL0 s3 hEs3 q' hq')
      cases h
      rw [g3]
      have : (stI h0).nx = 1 := rfl
      omega
    repeat (first | with_reducible (refine w_one H ?_; constructor) | simp only [rB, rP, rQ, boolA, intA, resultA, resA, reduceIte, reduceCtorEq, Nat.reduceAdd, Nat.reduceLT, Nat.reduceEqDiff, UInt8.reduceToNat, pe3, pf3])
    refine entriesB_c H W4 hents (by omega) (fun s5 V5 hE5 hB5 hV5 => ?_)
    have W5 := W4.ext hE5 hB5
    repeat (first | with_reducible (refine w_one H ?_; constructor) | simp only [rB, rP, rQ, boolA, intA, resultA, resA, reduceIte, reduceCtorEq, Nat.reduceAdd, Nat.reduceLT, Nat.reduceEqDiff, UInt8.reduceToNat, pe3, pf3])
    refine entriesB_c H W5 hents (by omega) (fun s6 V6 hE6 hB6 hV6 => ?_)
    have W6 := W5.ext hE6 hB6
    have hL6 : ∀ q ∈ L0, s6.h.get q.1 = some q.2 := fun q' hq' => by
      have h4 := hL4 q' hq'
      have h5 := (hE5.2 _ (hB4 _ _ h4)).trans h4
      exact (hE6.2 _ (hB5 _ _ h5)).trans h5
    have hV56 : Er s6 V5 es := by
      rcases hV5 with ⟨a, b⟩ | ⟨id, a, b, c⟩
      · exact Or.inl ⟨a, b⟩
      · exact Or.inr ⟨id, b, (hE6.2 _ (hB5 _ _ c)).trans c⟩
    have hpc : pathT M.T 20 M.cwd = some [] := by
      rw [hcwd]
      exact (wf.path20 (p := []) rfl).1
    have enn : ((es.length : Int) != (es.length : Int)) = false := by simp
    have s00 : binFast .neq (.str []) (.str []) = some (.raw (.bool false)) := rfl
    have pl := hP.len
    have pi := hP.ids
    repeat (first | with_reducible (refine w_one H ?_; constructor) | simp only [rB, rP, rQ, boolA, intA, resultA, resA, reduceIte, reduceCtorEq, Nat.reduceAdd, Nat.reduceLT, Nat.reduceEqDiff, UInt8.reduceToNat, pe3, pf3])
    refine sameEs_c H hV56.esv (hP.esv s6 hL6) (by omega) ?_
    rw [same_self]
    repeat (first | with_reducible (refine w_one H ?_; constructor) | simp only [rB, rP, rQ, boolA, intA, resultA, resA, reduceIte, reduceCtorEq, Nat.reduceAdd, Nat.reduceLT, Nat.reduceEqDiff, UInt8.reduceToNat, pe3, pf3, Bool.not_true])
    refine nodes_c H W6 ?_
    rw [hmany]
    repeat (first | with_reducible (refine w_one H ?_; constructor) | simp only [rB, rP, rQ, boolA, intA, resultA, resA, reduceIte, reduceCtorEq, Nat.reduceAdd, Nat.reduceLT, Nat.reduceEqDiff, UInt8.reduceToNat, pe3, pf3, pl, pi, b_nei, enn])
    refine cwd_c H W6 hpc ?_
    repeat (first | with_reducible (refine w_one H ?_; constructor) | simp only [rB, rP, rQ, boolA, intA, resultA, resA, reduceIte, reduceCtorEq, Nat.reduceAdd, Nat.reduceLT, Nat.reduceEqDiff, UInt8.reduceToNat, pe3, pf3, s00])
    refine spoil_c H hB6 ?_ (by omega) hp (fun s7 hn7 hB7 hf7 hk7 => ?_)
    · rcases hV56 with ⟨a, b⟩ | ⟨id, b, c⟩
      · exact Or.inl ⟨a, b⟩
      · exact Or.inr ⟨id, es.length, false, _, 8, b, c, fun k e hk => cut_get (cut_flat hk) rfl⟩
    have hL7 : ∀ q ∈ L0, s7.h.get q.1 = some q.2 := fun q' hq' => by
      obtain ⟨_, _, g3⟩ := hd.gets q' hq'
      have h6 := hL6 q' hq'
      refine (hf7 _ (fun a b c d e f h => ?_)).trans h6
      rcases hV5 with ⟨v, _⟩ | ⟨id, v0, v, _⟩
      · rw [v] at h; cases h
      · rw [v] at h
        cases h
        have h4 := hn4
        have : (stI h0).nx = 1 := rfl
        have := hEs3.1
        omega
    have hV7 : Er s7 V6 es := by
      rcases hV6 with ⟨a, b⟩ | ⟨id, a, b, c⟩
      · exact Or.inl ⟨a, b⟩
      · refine Or.inr ⟨id, b, (hf7 _ (fun x1 x2 x3 x4 x5 x6 h => ?_)).trans c⟩
        rcases hV5 with ⟨v, _⟩ | ⟨id', v0, v, g⟩
        · rw [v] at h; cases h
        · rw [v] at h
          cases h
          have := hB5 _ _ g
          omega
    repeat (first | with_reducible (refine w_one H ?_; constructor) | simp only [rB, rP, rQ, boolA, intA, resultA, resA, reduceIte, reduceCtorEq, Nat.reduceAdd, Nat.reduceLT, Nat.reduceEqDiff, UInt8.reduceToNat, pe3, pf3])
    refine sameEs_c H hV7.esv (hP.esv s7 hL7) (by omega) ?_
    rw [same_self]
    repeat (first | with_reducible (refine w_one H ?_; constructor) | simp only [rB, rP, rQ, boolA, intA, resultA, resA, reduceIte, reduceCtorEq, Nat.reduceAdd, Nat.reduceLT, Nat.reduceEqDiff, UInt8.reduceToNat, pe3, pf3, c_awake, Tryz.results3])
    rfl
  · repeat (first | with_reducible (refine w_one H ?_; constructor) | simp only [rB, rP, rQ, boolA, intA, resultA, resA, reduceIte, reduceCtorEq, Nat.reduceAdd, Nat.reduceLT, Nat.reduceEqDiff, UInt8.reduceToNat, pe3, pf3])
    refine of5_c H hB2 (hP.esv s2 (hL0 s2 (hE1.trans hE2))) hp (by omega) (fun s3 M1 K pv R x5 ι ν κ φ h _ _ _ _ _ => by rw [hof] at h; cases h) (fun s3 _ hE3 hB3 => ?_)
    have hEs3 := (hE1.trans hE2).trans hE3
    have hg3 : s3.h.get q = some (.cells (flatE (es ++ [rmE, rmE])) 49 8) := (hE3.2 _ (hB2 _ _ ((hE2.2 _ (hB1 _ _ hg1)).trans hg1))).trans ((hE2.2 _ (hB1 _ _ hg1)).trans hg1)
    have e00 : ((500 : Int) == 0) = false := rfl
    have tt : (false != false) = false := rfl
    have e500 : ((500 : Int) != 500) = false := rfl
    repeat (first | with_reducible (refine w_one H ?_; constructor) | simp only [rB, rP, rQ, boolA, intA, resultA, resA, reduceIte, reduceCtorEq, Nat.reduceAdd, Nat.reduceLT, Nat.reduceEqDiff, UInt8.reduceToNat, pe3, pf3] | (with_reducible refine num_c H ?_))
    repeat (first | with_reducible (refine w_one H ?_; constructor) | simp only [rB, rP, rQ, boolA, intA, resultA, resA, reduceIte, reduceCtorEq, Nat.reduceAdd, Nat.reduceLT, Nat.reduceEqDiff, UInt8.reduceToNat, pe3, pf3, b_eqi, b_nei, e00, e500, b_neb, eqS_neb, pu_nb, isBool_b, nebA_b, tt, Bool.not_false] | (refine kept_c H (hP.esv s3 (hL0 s3 hEs3)) hg3 (by omega) ?_) | (with_reducible refine num_c H ?_))
    repeat (first | with_reducible (refine w_one H ?_; constructor) | simp only [rB, rP, rQ, boolA, intA, resultA, resA, reduceIte, reduceCtorEq, Nat.reduceAdd, Nat.reduceLT, Nat.reduceEqDiff, UInt8.reduceToNat, pe3, pf3, c_awake, Tryz.results3])
    rfl
end Go.AX
namespace Go.AX
open Go.Proofs Go.RowKit
set_option maxRecDepth 1000000
set_option linter.unusedSimpArgs false
set_option linter.unusedVariables false
def EnVal (e : En) (V : Nat → Value) : Prop := ∀ r v, (celE e)[r]? = some v → ∀ E : Em, VRel E v (V r)
theorem flatE_get : ∀ {es : List En} {i : Nat} {v : AV}, (flatE es)[i]? = some v → ∃ q r e, i = q * 4 + r ∧ es[q]? = some e ∧ (celE e)[r]? = some v
  | [], i, v, h => by simp [flatE] at h
  | e :: l, i, v, h => by
    have h : (celE e ++ flatE l)[i]? = some v := h
    have hl : (celE e).length = 4 := rfl
    by_cases hi : i < 4
    · rw [List.getElem?_append_left (by omega)] at h
      exact ⟨0, i, e, by omega, rfl, h⟩
    · rw [List.getElem?_append_right (by omega), hl] at h
      obtain ⟨q, r, c', e', h1, h2⟩ := flatE_get h
      exact ⟨q + 1, r, c', by omega, by simpa using h1, h2⟩
theorem ofsWalk0 (w : Go.World) : Calls Tryz.prog 3 #[.slice none 0 0] w fun e w' => e = .returned (.bool true) ∧ Below w.heap.size w w' :=
  sem_from (args := [.raw (.slice none 0 0)]) (Args := [.slice none 0 0]) (s := stI .e) (simN w) (VRels.cons (by simp [VRel]) VRels.nil) (ofs_c pke_nil (Or.inl ⟨rfl, rfl⟩) (fun c h => by cases h) (Nat.zero_le _))
theorem ofsWalkE {a : Go.Addr} {cap : Nat} (w : Go.World) : Calls Tryz.prog 3 #[.slice (some a) 0 cap] w fun e w' => e = .returned (.bool true) ∧ Below w.heap.size w w' :=
  sem_from (args := [.raw (.slice (some a) 0 cap)]) (Args := [.slice (some a) 0 cap]) (s := stI .e) (simN w) (VRels.cons (by simp [VRel]) VRels.nil) (ofs_c pke_nil (Or.inl ⟨rfl, rfl⟩) (fun c h => by cases h) (Nat.zero_le _))
theorem ofsWalk {w : Go.World} {a : Go.Addr} {len cap : Nat} {es : List En} {F : Nat → Value} (hl : es.length = len) (hcap : len ≤ cap) (hF : ∀ i, i < len * 4 → w.cell? (a.add i) = some (F i)) (hv : ∀ q e, es[q]? = some e → EnVal e (fun r => F (q * 4 + r))) (hp : ∀ e ∈ es, e.1.length ≤ 1048575) (hn : len ≤ 1048570) :
    Calls Tryz.prog 3 #[.slice (some a) len cap] w fun e w' => e = .returned (.bool true) ∧ Below w.heap.size w w' := by
  by_cases h0 : len = 0
  · subst h0
    exact ofsWalkE w
  subst hl
  obtain ⟨b, off, C, el, fz, rfl, hO, hc⟩ := cells_at hF (by omega)
  refine sem_from (args := [.slice 0 0 es.length 0 cap true]) (Args := [.slice (some ⟨b, off, none⟩) es.length cap]) (s := stI (Tr.e.set 0 (.old (flatE es)))) (simG (K := 0) (off := off) (cs := flatE es) hO (fun i v hi => ?_)) (VRels.cons ?_ VRels.nil) (ofs_c pke_row (Or.inr ⟨_, rfl, rfl⟩) hp hn)
  · obtain ⟨q, r, c, e, h1, h2⟩ := flatE_get hi
    have hq := (List.getElem?_eq_some_iff.mp h1).1
    have hr := (List.getElem?_eq_some_iff.mp h2).1
    have hr : r < 4 := hr
    subst e
    exact ⟨_, hc _ (by omega), hv q c h1 r v h2 _⟩
  · simp only [VRel]
    exact ⟨(b, off, 0), by simp, rfl, hcap, fun h => (by cases h)⟩
theorem ofsWalkH {w : Go.World} {a : Go.Addr} {len cap : Nat} (hcap : len ≤ cap) (hn : len ≤ 1048570) (h : ∀ i, i < len → ∃ (c : En) (F : Nat → Value), (∀ r, r < 4 → w.cell? (a.add (i * 4 + r)) = some (F r)) ∧ EnVal c F ∧ c.1.length ≤ 1048575) :
    Calls Tryz.prog 3 #[.slice (some a) len cap] w fun e w' => e = .returned (.bool true) ∧ Below w.heap.size w w' := by
  obtain ⟨cs, hl, hcs⟩ := list_of h
  have key : ∀ i c, cs[i]? = some c → ∃ F : Nat → Value, (∀ r, r < 4 → w.cell? (a.add (i * 4 + r)) = some (F r)) ∧ EnVal c F ∧ c.1.length ≤ 1048575 := hcs
  refine ofsWalk (es := cs) (F := fun i => (w.cell? (a.add i)).getD (.bool true)) hl hcap (fun i hi => ?_) (fun q c hq => ?_) (fun c hc => ?_) hn
  · have hq : i / 4 < cs.length := by rw [hl]; omega
    obtain ⟨F, h1, _⟩ := key (i / 4) _ (List.getElem?_eq_getElem hq)
    have := h1 (i % 4) (Nat.mod_lt _ (by omega))
    rw [show i / 4 * 4 + i % 4 = i from by omega] at this
    rw [this]
    rfl
  · obtain ⟨F, h1, h2, _⟩ := key q c hq
    intro r v hv E
    have hr : r < 4 := (List.getElem?_eq_some_iff.mp hv).1
    show VRel E v ((w.cell? (a.add (q * 4 + r))).getD (.bool true))
    rw [h1 r hr]
    exact h2 r v hv E
  · obtain ⟨i, hi, rfl⟩ := List.mem_iff_getElem.mp hc
    obtain ⟨F, _, _, h3⟩ := key i _ (List.getElem?_eq_getElem hi)
    exact h3
end Go.AX
