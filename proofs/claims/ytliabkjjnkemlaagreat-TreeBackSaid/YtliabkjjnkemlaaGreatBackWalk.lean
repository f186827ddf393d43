import Derived.Test.YtliabkjjnkemlaaGreatOF
import Derived.Test.YtliabkjjnkemlaaGreatPL
import Derived.Test.YtliabkjjnkemlaaGreatHD
set_option linter.unusedVariables false
set_option linter.unusedSimpArgs false
set_option linter.defProp false
namespace Go.AX
open Go.Proofs Go.RowKit
set_option maxRecDepth 1000000
set_option maxHeartbeats 40000000
set_option linter.unusedSimpArgs false
set_option linter.unusedVariables false

/-! ### Rows of entries that are held; a row of calls that is handed in -/
def plainO : AO → Bool
  | .cells _ el _ => !(Nat.beq el 59 || Nat.beq el 53)
  | .old _ => true
  | _ => false
theorem World.with {s : St} {x : Nat} {M : Md} {L : List (Nat × AO)} (h : World s x M L) {i : Nat} {o : AO} (hi : s.h.get i = some o) (ho : plainO o = true) : World s x M ((i, o) :: L) := by
  obtain ⟨hB, ι, μ, R, hq⟩ := h
  refine ⟨hB, ι, μ, R, fun q hm => ?_⟩
  rcases List.mem_cons.1 hm with rfl | hm
  · refine ⟨hi, ?_⟩
    rintro (e | ⟨k, hk, e | e⟩)
    · have e : i = x := e
      subst e
      rw [R.tr] at hi
      cases hi
      cases ho
    · have e : i = ι k := e
      subst e
      obtain ⟨nd, hn⟩ := T_of hk
      have := (R.nd k nd hn).1
      rw [this] at hi
      cases hi
      cases ho
    · have e : i = μ k := e
      subst e
      obtain ⟨nd, hn⟩ := T_of hk
      have h2 : s.h.get (μ k) = _ := (R.nd k nd hn).2
      rw [h2] at hi
      cases hi
      cases ho
  · exact hq q hm
theorem World.put2 {s : St} {x : Nat} {M : Md} {L : List (Nat × AO)} (h : World s x M L) (o o' : AO) : World { h := (s.alloc o).h.set s.nx o', nx := s.nx + 1 } x M ((s.nx, o') :: L) :=
  World.set (World.alloc h o) (fun q hq => by have := World.lt h hq; omega) o'
theorem cut_flat : ∀ {es : List En} {k : Nat} {e : En}, es[k]? = some e → cutL (k * 4) 4 (flatE es) = some (celE e)
  | [], k, e, h => by simp at h
  | a :: l, 0, e, h => by
    simp at h
    subst h
    rfl
  | a :: l, k + 1, e, h => by
    have ih := cut_flat (es := l) (k := k) (e := e) (by simpa using h)
    have e1 : (k + 1) * 4 = k * 4 + 4 := by omega
    rw [e1]
    exact ih
theorem beq_flat : ∀ {es : List En}, beqAs (flatE es) (flatE es) = true
  | [] => rfl
  | e :: l => by
    have ih := beq_flat (es := l)
    have := beq_cel (e := e)
    unfold celE at this
    simp only [flatE, beqAs] at this ⊢
    simp only [ih, Bool.and_true] at this ⊢
    exact this
theorem Er.esv {s : St} {V : AV} {es : List En} (h : Er s V es) : EsV s V es := by
  rcases h with ⟨h1, h2⟩ | ⟨id, h1, h2⟩
  · exact Or.inl ⟨h1, h2⟩
  · exact Or.inr (Or.inr ⟨id, 0, 0, es.length, false, _, _, h1, h2, Or.inl ⟨_, rfl⟩, beq_flat, fun k e hk => by rw [Nat.zero_add]; exact cut_flat hk⟩)
/-- What holds a row of entries stays with the tree. -/
theorem Er.hold {s : St} {x : Nat} {M : Md} {L : List (Nat × AO)} (hW : World s x M L) {V : AV} {es : List En} (h : Er s V es) : ∃ Lx, World s x M (Lx ++ L) ∧ ∀ s', (∀ q ∈ Lx, s'.h.get q.1 = some q.2) → Er s' V es := by
  rcases h with ⟨h1, h2⟩ | ⟨id, h1, h2⟩
  · exact ⟨[], hW, fun s' _ => Or.inl ⟨h1, h2⟩⟩
  · exact ⟨[(id, _)], hW.with h2 rfl, fun s' hq => Or.inr ⟨id, h1, hq _ (List.mem_singleton.2 rfl)⟩⟩
theorem world_ext {s' : St} {x : Nat} {M : Md} {ι μ : Nat → Nat} {L : List (Nat × AO)} (R : RepM s' x M ι μ) (hB' : Below0 s') (hL : ∀ q ∈ L, s'.h.get q.1 = some q.2 ∧ plainO q.2 = true) : World s' x M L := by
  have base : World s' x M [] := ⟨hB', ι, μ, R, fun q hq => by cases hq⟩
  induction L with
  | nil => exact base
  | cons q L ih =>
    have := hL q (List.mem_cons_self ..)
    exact World.with (ih (fun a ha => hL a (List.mem_cons_of_mem _ ha))) this.1 this.2
theorem num_c {s : St} (H : Ok TE Tryz.prog pr3) {z : Int} {kr kp : AV → St → Bool} (hk : kr (.raw (.int .i64 z)) s = true) : (sem Tryz.prog).call 8 [.raw (.int .i64 z)] s kr kp = true := by
  refine w_call H 4 fn_8 rfl rfl ?_
  repeat (first | with_reducible (refine w_one H ?_; constructor) | simp only [rB, rP, rQ, boolA, intA, resultA, resA, reduceIte, reduceCtorEq, Nat.reduceAdd, Nat.reduceLT, Nat.reduceEqDiff, UInt8.reduceToNat, pe3, pf3, Tryz.results8])
  exact hk
theorem cwd_c {s : St} (H : Ok TE Tryz.prog pr3) {x : Nat} {M : Md} {L : List (Nat × AO)} (hW : World s x M L) {p : List Nat} (h : pathT M.T 20 M.cwd = some p) {kr kp : AV → St → Bool} (hk : kr (.str p) s = true) : (sem Tryz.prog).call 15 [.ptr x 0] s kr kp = true := by
  refine w_call H 10 fn_15 rfl rfl ?_
  obtain ⟨hB, ι, μ, R, hq⟩ := hW
  have hx := R.tr
  unfold trA at hx
  have hp := pathT_to R.hom h
  repeat (first | with_reducible (refine w_one H ?_; constructor) | simp only [rB, rP, rQ, boolA, intA, resultA, resA, reduceIte, reduceCtorEq, Nat.reduceAdd, Nat.reduceLT, Nat.reduceEqDiff, UInt8.reduceToNat, pe3, pf3, b_pp, eq_tn2, fr_1', ld_50, hx])
  refine path_c H R.rep hp ?_
  repeat (first | with_reducible (refine w_one H ?_; constructor) | simp only [rB, rP, rQ, boolA, intA, resultA, resA, reduceIte, reduceCtorEq, Nat.reduceAdd, Nat.reduceLT, Nat.reduceEqDiff, UInt8.reduceToNat, pe3, pf3, Tryz.results15])
  exact hk
def stI (h0 : Tr AO) : St := { h := h0, nx := 1 }
/-- What may have been handed in: nothing, or one row that is read alone. -/
def Hd (h0 : Tr AO) (L0 : List (Nat × AO)) : Prop := (h0 = .e ∧ L0 = []) ∨ ∃ cs, h0 = Tr.e.set 0 (.old cs) ∧ L0 = [(0, .old cs)]
theorem Hd.below {h0 : Tr AO} {L0 : List (Nat × AO)} (h : Hd h0 L0) : Below0 (stI h0) := by
  rcases h with ⟨rfl, _⟩ | ⟨cs, rfl, _⟩
  · intro i o h
    simp [stI, Tr.get] at h
  · intro i o h
    simp only [stI, Tr.get_set] at h
    by_cases hi : i = 0
    · subst hi; show 0 < 1; omega
    · rw [if_neg hi] at h
      simp [Tr.get] at h
theorem Hd.gets {h0 : Tr AO} {L0 : List (Nat × AO)} (h : Hd h0 L0) : ∀ q ∈ L0, (stI h0).h.get q.1 = some q.2 ∧ plainO q.2 = true ∧ q.1 = 0 := by
  rcases h with ⟨_, rfl⟩ | ⟨cs, rfl, rfl⟩
  · intro q hq; cases hq
  · intro q hq
    simp only [List.mem_singleton] at hq
    subst hq
    refine ⟨?_, rfl, rfl⟩
    show (Tr.e.set 0 (AO.old cs)).get 0 = _
    rw [Tr.get_set, if_pos rfl]
/-- What a law that is handed a row of calls begins with. -/
structure Pkc (V : AV) (cs : List Cl) (L0 : List (Nat × AO)) : Prop where
  len : ∀ s', lenOpA TE s' [39] [V] = some (.raw (.int .i64 (cs.length : Int)))
  ids : idsOf V = []
  at' : ∀ (i : Nat) (c : Cl), cs[i]? = some c → indexAddrA TE 39 V (.raw (.int .i64 (i : Int))) = some (.ptr 0 (i * 8)) ∧ ∃ l, (0, AO.old l) ∈ L0 ∧ cutL (i * 8) 8 l = some (clL c)
theorem pkc_nil : Pkc (.raw (.slice none 0 0)) [] [] := ⟨fun s' => (by kernel_rfl), rfl, fun i z h => (by simp at h)⟩
theorem pkc_empty {a : Go.Addr} {c : Nat} : Pkc (.raw (.slice (some a) 0 c)) [] [] := ⟨fun s' => (by kernel_rfl), rfl, fun i z h => (by simp at h)⟩
theorem ix_cl {i n c : Nat} (h : i < n) : indexAddrA TE 39 (.slice 0 0 n 0 c true) (.raw (.int .i64 (i : Int))) = some (.ptr 0 (i * 8)) := by
  have e : indexAddrA TE 39 (.slice 0 0 n 0 c true) (.raw (.int .i64 (i : Int))) = (bif Nat.blt i n then some (.ptr 0 (0 + i * 8)) else none) := by kernel_rfl
  rw [e, Nat.blt_eq.mpr h, Nat.zero_add]
  rfl
def flatC : List Cl → List AV
  | [] => []
  | c :: l => clL c ++ flatC l
theorem cut_flatC : ∀ {cs : List Cl} {k : Nat} {c : Cl}, cs[k]? = some c → cutL (k * 8) 8 (flatC cs) = some (clL c)
  | [], k, e, h => by simp at h
  | a :: l, 0, e, h => by
    simp at h
    subst h
    rfl
  | a :: l, k + 1, e, h => by
    have ih := cut_flatC (cs := l) (k := k) (c := e) (by simpa using h)
    have e1 : (k + 1) * 8 = k * 8 + 8 := by omega
    rw [e1]
    exact ih
theorem pkc_row {cs : List Cl} {c : Nat} : Pkc (.slice 0 0 cs.length 0 c true) cs [(0, .old (flatC cs))] :=
  ⟨fun s' => (by kernel_rfl), rfl, fun i z h => ⟨ix_cl (List.getElem?_eq_some_iff.mp h).1, _, List.mem_singleton.mpr rfl, cut_flatC h⟩⟩
theorem agg_clB : (match TE.info 46 with | some ti => isAggD ti.desc && Nat.beq ti.size 8 | none => false) = true := by kernel_rfl
theorem fa_clO {x o : Nat} : fieldAddrA TE 46 (.ptr x o) 0 = some (.ptr x (o + 0)) := by kernel_rfl
theorem bd_ls {p : List Nat} : buildA TE 46 [(0, .raw (.int .i64 3)), (1, .str p)] = some (.agg (clL (lsCl p))) := by kernel_rfl
theorem fa_an0 {x : Nat} : fieldAddrA TE 43 (.ptr x 0) 0 = some (.ptr x 0) := by kernel_rfl
theorem ldO_an0 {a b c d : Int} {e : List Nat} {V : AV} {t z : Nat} : ldO (some (.cells (anL a b c d e V) t z)) 0 = some (.raw (.int .i64 a)) := (rfl)
theorem an_g0 {a b c d : Int} {e : List Nat} {V : AV} : (anL a b c d e V)[0]? = some (.raw (.int .i64 a)) := (rfl)
theorem same_self {es : List En} : sameE es es = true := by
  have hl : ∀ l : List En, sameL l l = true := by
    intro l
    induction l with
    | nil => rfl
    | cons e l ih =>
      have : eqE e e = true := by unfold eqE; simp [eqB_eq.2]
      simp only [sameL, this, cond_true, ih]
  unfold sameE
  have : ((es.length : Int) != (es.length : Int)) = false := by simp
  rw [this, cond_false, hl]
end Go.AX
namespace Go.AX
open Go.Proofs Go.RowKit
set_option maxRecDepth 1000000
set_option maxHeartbeats 400000000
set_option linter.unusedSimpArgs false
set_option linter.unusedVariables false

/-! ### TreeBack -/
theorem entsT_nodes {M M' : Md} (h1 : M'.nodes = M.nodes) (h2 : M'.root = M.root) : entsT M'.T 20 M'.root [] = entsT M.T 20 M.root [] := by
  have : M'.T = M.T := by unfold Md.T; rw [h1]
  rw [this, h2]
theorem may_short {M : Md} {cnt : Nat} (W : Wf M cnt) {es : List En} (h : ∀ e, e ∈ es ↔ ∃ l, l ≠ [] ∧ EnAt M e l) : ∀ e ∈ es, e.1.length ≤ 1048575 := by
  intro e he
  obtain ⟨l, _, k, kd, k1, _, rfl⟩ := (h e).1 he
  have := (W.bound _ _ k1).2
  show (joinL [47] l).length ≤ 1048575
  omega
theorem back_c {h0 : Tr AO} {PV : AV} {cs : List Cl} {L0 : List (Nat × AO)} (hP : Pkc PV cs L0) (hd : Hd h0 L0) (hdat : ∀ c ∈ cs, c.data.length ≤ 10000000000000000000) :
    (sem Tryz.prog).call 4 [PV] (stI h0) (fun v _ => isTrue v) (fun _ _ => false) = true := by
  have H := ok3
  refine w_call H 108 fn_4 rfl rfl ?_
  repeat (first | with_reducible (refine w_one H ?_; constructor) | simp only [rB, rP, rQ, boolA, intA, resultA, resA, reduceIte, reduceCtorEq, Nat.reduceAdd, Nat.reduceLT, Nat.reduceEqDiff, UInt8.reduceToNat, pe3, pf3, c_awake])
  refine newS_c H hd.below (fun s1 hE1 hB1 hnx R1 => ?_)
  have W1 : World s1 3 MZ L0 := world_ext R1 hB1 (fun q hq => by
    obtain ⟨g1, g2, g3⟩ := hd.gets q hq
    exact ⟨(hE1.2 _ (by rw [g3]; show 0 < 1; omega)).trans g1, g2⟩)
  have e3 : (stI h0).nx + 2 = 3 := rfl
  rw [e3]
  repeat (first | with_reducible (refine w_one H ?_; constructor) | simp only [rB, rP, rQ, boolA, intA, resultA, resA, reduceIte, reduceCtorEq, Nat.reduceAdd, Nat.reduceLT, Nat.reduceEqDiff, UInt8.reduceToNat, pe3, pf3])
  have vl := hP.len
  have vi := hP.ids
  refine w_loop_ind H (fun n t s' => ∃ (k : Nat) (M : Md) (cnt : Nat), n + k = min cs.length 200 ∧ tg t 0 = PV ∧ tg t 3 = .ptr 3 0 ∧ tg t 4 = .raw (.int .i64 (k : Int)) ∧ World s' 3 M L0 ∧ Wf M cnt ∧ M.many = (cnt : Int)) (n := min cs.length 200)
    ⟨0, MZ, 0, by omega, by simp only [rB, rP, rQ, boolA, intA, resultA, resA, reduceIte, reduceCtorEq, Nat.reduceAdd, Nat.reduceLT, Nat.reduceEqDiff, UInt8.reduceToNat], by simp only [rB, rP, rQ, boolA, intA, resultA, resA, reduceIte, reduceCtorEq, Nat.reduceAdd, Nat.reduceLT, Nat.reduceEqDiff, UInt8.reduceToNat], by simp only [rB, rP, rQ, boolA, intA, resultA, resA, reduceIte, reduceCtorEq, Nat.reduceAdd, Nat.reduceLT, Nat.reduceEqDiff, UInt8.reduceToNat]; rfl, W1, wf_MZ, rfl⟩ ?_
  rintro n t s2 ih ⟨k, M, cnt, hn, t0, t3, t4, W2, hwf, hm⟩
  obtain ⟨es, he, hel, hmem, hris⟩ := hwf.ents
  have hcnt : cnt ≤ 128 := by obtain ⟨R, _, _, _, h⟩ := hwf.count; exact h
  cases n with
  | zero =>
    obtain ⟨bk, g1⟩ : ∃ b, decide ((k : Int) < 200) = b := ⟨_, rfl⟩
    have hend : decide ((k : Int) < (cs.length : Int)) = false ∨ (decide ((k : Int) < (cs.length : Int)) = true ∧ bk = false) := by
      rw [← g1]
      simp only [decide_eq_false_iff_not, decide_eq_true_eq]; omega
    obtain ⟨Mu, hof⟩ := hwf.back he
    obtain ⟨Wu, mu, cu, eu, _⟩ := ofT_ok hof
    obtain ⟨pc, cd, c1, c2, c3⟩ := hwf.cwd
    have hbc := hwf.bound _ _ c1
    obtain ⟨an, hls, hst⟩ := hwf.list c1
    have hself : sameE es es = true := same_self
    have f1 : binFast .add (.str [47]) (.str (joinL [47] pc)) = some (.str (47 :: joinL [47] pc)) := b_add (by simp; omega)
    have g9 : ((0 : Int) != 0) = false := rfl
    have g8 : (an.status == 0) = true := by rw [hst]; rfl
    rcases hend with g0 | ⟨g0, rfl⟩
    all_goals
      repeat (first | with_reducible (refine w_one H ?_; constructor) | simp only [rB, rP, rQ, boolA, intA, resultA, resA, reduceIte, reduceCtorEq, Nat.reduceAdd, Nat.reduceLT, Nat.reduceEqDiff, UInt8.reduceToNat, pe3, pf3, t0, t3, t4, vl, vi, b_lt, g0, g1])
      refine entriesX_c H W2 he (by omega) (fun s3 V3 hE3 hB3 hV3 => ?_)
      have W3 := W2.ext hE3 hB3
      repeat (first | with_reducible (refine w_one H ?_; constructor) | simp only [rB, rP, rQ, boolA, intA, resultA, resA, reduceIte, reduceCtorEq, Nat.reduceAdd, Nat.reduceLT, Nat.reduceEqDiff, UInt8.reduceToNat, pe3, pf3, t0, t3, t4])
      refine of_c H hB3 hV3.esv (may_short hwf hmem) (by omega) (fun s4 xu M4 h4 hE4 W4 hx4 => ?_) (fun s4 h4 _ _ => by rw [hof] at h4; cases h4)
      rw [hof] at h4
      cases h4
      have W4t := W3.ext hE4 W4.1
      have hV4 : EsV s4 V3 es := hV3.esv.ext hB3 hE4
      repeat (first | with_reducible (refine w_one H ?_; constructor) | simp only [rB, rP, rQ, boolA, intA, resultA, resA, reduceIte, reduceCtorEq, Nat.reduceAdd, Nat.reduceLT, Nat.reduceEqDiff, UInt8.reduceToNat, pe3, pf3, t0, t3, t4] | (with_reducible refine num_c H ?_))
      repeat (first | with_reducible (refine w_one H ?_; constructor) | simp only [rB, rP, rQ, boolA, intA, resultA, resA, reduceIte, reduceCtorEq, Nat.reduceAdd, Nat.reduceLT, Nat.reduceEqDiff, UInt8.reduceToNat, pe3, pf3, t0, t3, t4, b_nei, g9])
      refine entriesX_c H W4 eu (by omega) (fun s5 V5 hE5 hB5 hV5 => ?_)
      have W5 := W4t.ext hE5 hB5
      repeat (first | with_reducible (refine w_one H ?_; constructor) | simp only [rB, rP, rQ, boolA, intA, resultA, resA, reduceIte, reduceCtorEq, Nat.reduceAdd, Nat.reduceLT, Nat.reduceEqDiff, UInt8.reduceToNat, pe3, pf3, t0, t3, t4])
      refine sameEs_c H hV5.esv (hV4.ext W4.1 hE5) (by omega) ?_
      rw [hself]
      repeat (first | with_reducible (refine w_one H ?_; constructor) | simp only [rB, rP, rQ, boolA, intA, resultA, resA, reduceIte, reduceCtorEq, Nat.reduceAdd, Nat.reduceLT, Nat.reduceEqDiff, UInt8.reduceToNat, pe3, pf3, t0, t3, t4])
      refine cwd_c H W5 (hwf.path20 c1).1 ?_
      repeat (first | with_reducible (refine w_one H ?_; constructor) | simp only [rB, rP, rQ, boolA, intA, resultA, resA, reduceIte, reduceCtorEq, Nat.reduceAdd, Nat.reduceLT, Nat.reduceEqDiff, UInt8.reduceToNat, pe3, pf3, t0, t3, t4, f1, bd_ls])
      refine do_c H W5 hls (fun s6 V6 W6 l6 hV6 => ?_)
      repeat (first | with_reducible (refine w_one H ?_; constructor) | simp only [rB, rP, rQ, boolA, intA, resultA, resA, reduceIte, reduceCtorEq, Nat.reduceAdd, Nat.reduceLT, Nat.reduceEqDiff, UInt8.reduceToNat, pe3, pf3, all_an, st_an hV6.cells1.2, stA_an, fa_an0, ld_3, ldO_an0, an_g0, b_eqi, g8, Tryz.results4])
      rfl
  | succ n =>
    have hlt : k < cs.length := by omega
    have g0 : decide ((k : Int) < (cs.length : Int)) = true := by rw [decide_eq_true_eq]; omega
    have g1 : decide ((k : Int) < 200) = true := by rw [decide_eq_true_eq]; omega
    have hkc : cs[k]? = some cs[k] := List.getElem?_eq_getElem hlt
    have hdc := hdat _ (List.getElem_mem hlt)
    generalize cs[k] = c at hkc hdc
    obtain ⟨x1, l, hl, hcut⟩ := hP.at' k c hkc
    obtain ⟨an, M', cnt', hdo, _, hwf', hm', hrt, _, hsame⟩ := doM_ok hwf hm hdc
    have ew : IntKind.i64.wrap ((k : Int) + 1) = ((k + 1 : Nat) : Int) := by
      rw [show (k : Int) + 1 = ((k + 1 : Nat) : Int) from by simp]
      exact wrap_nat (by omega)
    repeat (first | with_reducible (refine w_one H ?_; constructor) | simp only [rB, rP, rQ, boolA, intA, resultA, resA, reduceIte, reduceCtorEq, Nat.reduceAdd, Nat.reduceLT, Nat.reduceEqDiff, UInt8.reduceToNat, pe3, pf3, t0, t3, t4, vl, vi, b_lt, g0, g1])
    refine entriesX_c H W2 he (by omega) (fun s3 V3 hE3 hB3 hV3 => ?_)
    obtain ⟨Lx, W3, hold⟩ := Er.hold (W2.ext hE3 hB3) hV3
    have q3 : s3.h.get 0 = some (.old l) := W3.get (List.mem_append_right _ hl)
    have a3 : loadA TE s3 46 (.ptr 0 (k * 8)) = some (.agg (clL c)) := ld_aggO agg_clB q3 hcut
    have i3 : ∀ b, inO (s3.h.get 0) b = b := fun b => by rw [q3]; rfl
    repeat (first | with_reducible (refine w_one H ?_; constructor) | simp only [rB, rP, rQ, boolA, intA, resultA, resA, reduceIte, reduceCtorEq, Nat.reduceAdd, Nat.reduceLT, Nat.reduceEqDiff, UInt8.reduceToNat, pe3, pf3, t0, t3, t4, x1, a3, i3])
    refine do_c H W3 hdo (fun s4 V4 W4 l4 hV4 => ?_)
    have q4 : s4.h.get 0 = some (.old l) := W4.get (List.mem_append_right _ hl)
    have hcl := cut_get hcut rfl
    have o4 : ldO (s4.h.get 0) (k * 8 + 0) = some (.raw (.int .i64 c.op)) := by rw [q4, Nat.add_zero]; exact hcl
    have i4 : ∀ b, inO (s4.h.get 0) b = b := fun b => by rw [q4]; rfl
    have lx4 := W4.lt (List.mem_append_right _ hl)
    have m1 : (0 = s4.nx) = False := by simp; have : (0 : Nat) < s4.nx := lx4; omega
    have m2 : (s4.nx = 0) = False := by simp; have : (0 : Nat) < s4.nx := lx4; omega
    have W5 := World.put2 W4 (.cells (anL 0 0 0 0 [] nilS) 43 0) (.cells (anL an.status an.num an.kind an.mode an.data V4) 43 0)
    have W5s := World.sub (L' := L0) W5 (fun q hq => List.mem_cons_of_mem _ (List.mem_append_right _ hq))
    have hV5 := hold _ (fun q hq => W5.get (List.mem_cons_of_mem _ (List.mem_append_left _ hq)))
    obtain ⟨b0, e0⟩ : ∃ b, (an.status != 0) = b := ⟨_, rfl⟩
    obtain ⟨b1, e1⟩ : ∃ b, (c.op == 1) = b := ⟨_, rfl⟩
    obtain ⟨b2, e2⟩ : ∃ b, (c.op == 2) = b := ⟨_, rfl⟩
    obtain ⟨b3, e3⟩ : ∃ b, (c.op == 3) = b := ⟨_, rfl⟩
    obtain ⟨b4, e4⟩ : ∃ b, (c.op == 4) = b := ⟨_, rfl⟩
    obtain ⟨b5, e5⟩ : ∃ b, (c.op == 15) = b := ⟨_, rfl⟩
    obtain ⟨b6, e6⟩ : ∃ b, (c.op == 14) = b := ⟨_, rfl⟩
    obtain ⟨b7, e7⟩ : ∃ b, (c.op == 17) = b := ⟨_, rfl⟩
    obtain ⟨b8, e8⟩ : ∃ b, (c.op == 18) = b := ⟨_, rfl⟩
    have hstill : (b0 = true ∨ b1 = true ∨ b2 = true ∨ b3 = true ∨ b4 = true ∨ b5 = true ∨ b6 = true ∨ b7 = true ∨ b8 = true) → entsT M'.T 20 M'.root [] = some es := by
      intro h
      rw [← he]
      refine entsT_nodes ?_ hrt
      rcases hsame with hs | ⟨h1, h2, h3, h4, h5⟩
      · exact hs
      · exfalso
        rcases h with rfl | rfl | rfl | rfl | rfl | rfl | rfl | rfl | rfl
        · rw [bne_iff_ne] at e0; exact e0 h1
        all_goals (first | (have := beq_iff_eq.1 e1; omega) | (have := beq_iff_eq.1 e2; omega) | (have := beq_iff_eq.1 e3; omega) | (have := beq_iff_eq.1 e4; omega) | (have := beq_iff_eq.1 e5; omega) | (have := beq_iff_eq.1 e6; omega) | (have := beq_iff_eq.1 e7; omega) | (have := beq_iff_eq.1 e8; omega))
    have hself : sameE es es = true := same_self
    have key : (b0 = true ∨ (b0 = false ∧ b1 = true) ∨ (b0 = false ∧ b1 = false ∧ b2 = true) ∨ (b0 = false ∧ b1 = false ∧ b2 = false ∧ b3 = true) ∨ (b0 = false ∧ b1 = false ∧ b2 = false ∧ b3 = false ∧ b4 = true) ∨ (b0 = false ∧ b1 = false ∧ b2 = false ∧ b3 = false ∧ b4 = false ∧ b5 = true) ∨
        (b0 = false ∧ b1 = false ∧ b2 = false ∧ b3 = false ∧ b4 = false ∧ b5 = false ∧ b6 = true) ∨ (b0 = false ∧ b1 = false ∧ b2 = false ∧ b3 = false ∧ b4 = false ∧ b5 = false ∧ b6 = false ∧ b7 = true) ∨ (b0 = false ∧ b1 = false ∧ b2 = false ∧ b3 = false ∧ b4 = false ∧ b5 = false ∧ b6 = false ∧ b7 = false ∧ b8 = true)) ∨
        (b0 = false ∧ b1 = false ∧ b2 = false ∧ b3 = false ∧ b4 = false ∧ b5 = false ∧ b6 = false ∧ b7 = false ∧ b8 = false) := by
      cases b0 <;> cases b1 <;> cases b2 <;> cases b3 <;> cases b4 <;> cases b5 <;> cases b6 <;> cases b7 <;> cases b8 <;> simp
    rcases key with key | ⟨rfl, rfl, rfl, rfl, rfl, rfl, rfl, rfl, rfl⟩
    · have he' : entsT M'.T 20 M'.root [] = some es := hstill (by
        rcases key with h | ⟨_, h⟩ | ⟨_, _, h⟩ | ⟨_, _, _, h⟩ | ⟨_, _, _, _, h⟩ | ⟨_, _, _, _, _, h⟩ | ⟨_, _, _, _, _, _, h⟩ | ⟨_, _, _, _, _, _, _, h⟩ | ⟨_, _, _, _, _, _, _, _, h⟩ <;> simp [h])
      rcases key with rfl | ⟨rfl, rfl⟩ | ⟨rfl, rfl, rfl⟩ | ⟨rfl, rfl, rfl, rfl⟩ | ⟨rfl, rfl, rfl, rfl, rfl⟩ | ⟨rfl, rfl, rfl, rfl, rfl, rfl⟩ | ⟨rfl, rfl, rfl, rfl, rfl, rfl, rfl⟩ | ⟨rfl, rfl, rfl, rfl, rfl, rfl, rfl, rfl⟩ | ⟨rfl, rfl, rfl, rfl, rfl, rfl, rfl, rfl, rfl⟩
      all_goals
        repeat (first | with_reducible (refine w_one H ?_; constructor) | simp only [rB, rP, rQ, boolA, intA, resultA, resA, reduceIte, reduceCtorEq, Nat.reduceAdd, Nat.reduceLT, Nat.reduceEqDiff, UInt8.reduceToNat, pe3, pf3, t0, t3, t4, x1, all_an, st_an hV4.cells1.2, stA_an, fa_an0, fa_clO, ld_3, ldO_an0, an_g0, m1, m2, o4, i4, b_eqi, b_nei, e0, e1, e2, e3, e4, e5, e6, e7, e8])
        refine entriesX_c H W5 he' (by omega) (fun s6 V6 hE6 hB6 hV6 => ?_)
        repeat (first | with_reducible (refine w_one H ?_; constructor) | simp only [rB, rP, rQ, boolA, intA, resultA, resA, reduceIte, reduceCtorEq, Nat.reduceAdd, Nat.reduceLT, Nat.reduceEqDiff, UInt8.reduceToNat, pe3, pf3, t0, t3, t4])
        refine sameEs_c H (hV5.esv.ext W5.1 hE6) hV6.esv (by omega) ?_
        rw [hself]
        repeat (first | with_reducible (refine w_one H ?_; constructor) | simp only [rB, rP, rQ, boolA, intA, resultA, resA, reduceIte, reduceCtorEq, Nat.reduceAdd, Nat.reduceLT, Nat.reduceEqDiff, UInt8.reduceToNat, pe3, pf3, t0, t3, t4, b_plus, ew])
        exact ih n _ _ (Nat.lt_succ_self n) ⟨k + 1, M', cnt', by omega, by simp only [rB, rP, rQ, boolA, intA, resultA, resA, reduceIte, reduceCtorEq, Nat.reduceAdd, Nat.reduceLT, Nat.reduceEqDiff, UInt8.reduceToNat, t0], by simp only [rB, rP, rQ, boolA, intA, resultA, resA, reduceIte, reduceCtorEq, Nat.reduceAdd, Nat.reduceLT, Nat.reduceEqDiff, UInt8.reduceToNat, t3], by simp only [rB, rP, rQ, boolA, intA, resultA, resA, reduceIte, reduceCtorEq, Nat.reduceAdd, Nat.reduceLT, Nat.reduceEqDiff, UInt8.reduceToNat], W5s.ext hE6 hB6, hwf', hm'⟩
    · repeat (first | with_reducible (refine w_one H ?_; constructor) | simp only [rB, rP, rQ, boolA, intA, resultA, resA, reduceIte, reduceCtorEq, Nat.reduceAdd, Nat.reduceLT, Nat.reduceEqDiff, UInt8.reduceToNat, pe3, pf3, t0, t3, t4, x1, all_an, st_an hV4.cells1.2, stA_an, fa_an0, fa_clO, ld_3, ldO_an0, an_g0, m1, m2, o4, i4, b_eqi, b_nei, e0, e1, e2, e3, e4, e5, e6, e7, e8, b_plus, ew])
      exact ih n _ _ (Nat.lt_succ_self n) ⟨k + 1, M', cnt', by omega, by simp only [rB, rP, rQ, boolA, intA, resultA, resA, reduceIte, reduceCtorEq, Nat.reduceAdd, Nat.reduceLT, Nat.reduceEqDiff, UInt8.reduceToNat, t0], by simp only [rB, rP, rQ, boolA, intA, resultA, resA, reduceIte, reduceCtorEq, Nat.reduceAdd, Nat.reduceLT, Nat.reduceEqDiff, UInt8.reduceToNat, t3], by simp only [rB, rP, rQ, boolA, intA, resultA, resA, reduceIte, reduceCtorEq, Nat.reduceAdd, Nat.reduceLT, Nat.reduceEqDiff, UInt8.reduceToNat], W5s, hwf', hm'⟩
end Go.AX
namespace Go.AX
open Go.Proofs Go.RowKit
set_option maxRecDepth 1000000
set_option linter.unusedSimpArgs false
set_option linter.unusedVariables false
/-- The values of a call's cells. -/
def ClVal (c : Cl) (V : Nat → Value) : Prop := ∀ r v, (clL c)[r]? = some v → ∀ E : Em, VRel E v (V r)
theorem flatC_get : ∀ {cs : List Cl} {i : Nat} {v : AV}, (flatC cs)[i]? = some v → ∃ q r c, i = q * 8 + r ∧ cs[q]? = some c ∧ (clL c)[r]? = some v
  | [], i, v, h => by simp [flatC] at h
  | c :: l, i, v, h => by
    simp only [flatC] at h
    have hl : (clL c).length = 8 := rfl
    by_cases hi : i < 8
    · rw [List.getElem?_append_left (by omega)] at h
      exact ⟨0, i, c, by omega, rfl, h⟩
    · rw [List.getElem?_append_right (by omega), hl] at h
      obtain ⟨q, r, c', e, h1, h2⟩ := flatC_get h
      exact ⟨q + 1, r, c', by omega, by simpa using h1, h2⟩
theorem backWalk0 (w : Go.World) : Calls Tryz.prog 4 #[.slice none 0 0] w fun e w' => e = .returned (.bool true) ∧ Below w.heap.size w w' :=
  sem_from (args := [.raw (.slice none 0 0)]) (Args := [.slice none 0 0]) (s := stI .e) (simN w) (VRels.cons (by simp [VRel]) VRels.nil) (back_c pkc_nil (Or.inl ⟨rfl, rfl⟩) (fun c h => by cases h))
theorem backWalkE {a : Go.Addr} {cap : Nat} (w : Go.World) : Calls Tryz.prog 4 #[.slice (some a) 0 cap] w fun e w' => e = .returned (.bool true) ∧ Below w.heap.size w w' :=
  sem_from (args := [.raw (.slice (some a) 0 cap)]) (Args := [.slice (some a) 0 cap]) (s := stI .e) (simN w) (VRels.cons (by simp [VRel]) VRels.nil) (back_c pkc_empty (Or.inl ⟨rfl, rfl⟩) (fun c h => by cases h))
theorem backWalk {w : Go.World} {a : Go.Addr} {len cap : Nat} {cs : List Cl} {F : Nat → Value} (hl : cs.length = len) (hcap : len ≤ cap) (hF : ∀ i, i < len * 8 → w.cell? (a.add i) = some (F i)) (hv : ∀ q c, cs[q]? = some c → ClVal c (fun r => F (q * 8 + r))) (hdat : ∀ c ∈ cs, c.data.length ≤ 10000000000000000000) :
    Calls Tryz.prog 4 #[.slice (some a) len cap] w fun e w' => e = .returned (.bool true) ∧ Below w.heap.size w w' := by
  by_cases h0 : len = 0
  · subst h0
    exact backWalkE w
  subst hl
  obtain ⟨b, off, C, el, fz, rfl, hO, hc⟩ := cells_at hF (by omega)
  refine sem_from (args := [.slice 0 0 cs.length 0 cap true]) (Args := [.slice (some ⟨b, off, none⟩) cs.length cap]) (s := stI (Tr.e.set 0 (.old (flatC cs)))) (simG (K := 0) (off := off) (cs := flatC cs) hO (fun i v hi => ?_)) (VRels.cons ?_ VRels.nil) (back_c pkc_row (Or.inr ⟨_, rfl, rfl⟩) hdat)
  · obtain ⟨q, r, c, e, h1, h2⟩ := flatC_get hi
    have hq := (List.getElem?_eq_some_iff.mp h1).1
    have hr := (List.getElem?_eq_some_iff.mp h2).1
    have hr : r < 8 := hr
    subst e
    exact ⟨_, hc _ (by omega), hv q c h1 r v h2 _⟩
  · simp only [VRel]
    exact ⟨(b, off, 0), by simp, rfl, hcap, fun h => (by cases h)⟩
theorem list_of {α : Type} : ∀ {n : Nat} {Q : Nat → α → Prop}, (∀ i, i < n → ∃ x, Q i x) → ∃ l : List α, l.length = n ∧ ∀ i x, l[i]? = some x → Q i x
  | 0, _, _ => ⟨[], rfl, fun i x h => by cases h⟩
  | n + 1, Q, h => by
    obtain ⟨l, h1, h2⟩ := list_of (n := n) (Q := fun i x => Q (i + 1) x) (fun i hi => h (i + 1) (by omega))
    obtain ⟨x, hx⟩ := h 0 (by omega)
    refine ⟨x :: l, by simp [h1], fun i y hy => ?_⟩
    cases i with
    | zero => cases hy; exact hx
    | succ i => exact h2 i y hy
theorem backWalkH {w : Go.World} {a : Go.Addr} {len cap : Nat} (hcap : len ≤ cap) (h : ∀ i, i < len → ∃ (c : Cl) (F : Nat → Value), (∀ r, r < 8 → w.cell? (a.add (i * 8 + r)) = some (F r)) ∧ ClVal c F ∧ c.data.length ≤ 10000000000000000000) :
    Calls Tryz.prog 4 #[.slice (some a) len cap] w fun e w' => e = .returned (.bool true) ∧ Below w.heap.size w w' := by
  obtain ⟨cs, hl, hcs⟩ := list_of h
  have key : ∀ i c, cs[i]? = some c → ∃ F : Nat → Value, (∀ r, r < 8 → w.cell? (a.add (i * 8 + r)) = some (F r)) ∧ ClVal c F ∧ c.data.length ≤ 10000000000000000000 := hcs
  refine backWalk (cs := cs) (F := fun i => (w.cell? (a.add i)).getD (.bool true)) hl hcap (fun i hi => ?_) (fun q c hq => ?_) (fun c hc => ?_)
  · have hq : i / 8 < cs.length := by rw [hl]; omega
    obtain ⟨F, h1, _⟩ := key (i / 8) _ (List.getElem?_eq_getElem hq)
    have := h1 (i % 8) (Nat.mod_lt _ (by omega))
    rw [show i / 8 * 8 + i % 8 = i from by omega] at this
    rw [this]
    rfl
  · obtain ⟨F, h1, h2, _⟩ := key q c hq
    intro r v hv E
    have hr : r < 8 := (List.getElem?_eq_some_iff.mp hv).1
    show VRel E v ((w.cell? (a.add (q * 8 + r))).getD (.bool true))
    rw [h1 r hr]
    exact h2 r v hv E
  · obtain ⟨i, hi, rfl⟩ := List.mem_iff_getElem.mp hc
    obtain ⟨F, _, _, h3⟩ := key i _ (List.getElem?_eq_getElem hi)
    exact h3
end Go.AX
