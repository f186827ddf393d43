import Derived.Test.YthkkdhjekjoalaaGreatDoorC4
import Derived.Test.YthkkdhjekjoalaaGreatDoorB3
import Derived.Test.YthkkdhjekjoalaaGreatDoorD1
set_option linter.unusedVariables false
set_option linter.unusedSimpArgs false
set_option linter.defProp false
namespace Go.AX
open Go.Proofs Go.RowKit
set_option maxRecDepth 1000000
set_option maxHeartbeats 40000000
set_option linter.unusedSimpArgs false

/-! ### A container without mounts, as a function of a tree as a value -/
def leadM (M : Md) (p : List Nat) : Option (List Nat ⊕ Int) := match pathT M.T 20 M.cwd with
  | none => none
  | some cw => bif Nat.ble cw.length 1000 then (match cleanL cw p with
    | (at', e) => bif Nat.beq e 0 then some (.inl (47 :: at')) else bif Nat.beq e 402 || Nat.beq e 403 then some (.inr 8) else some (.inr 5)) else none
def anS (n : Int) : An := ⟨n, 0, 0, 0, [], []⟩
def prM (M : Md) (c : Cl) : Option (An × Md) := bif decide (c.op = 13) then (match leadM M c.path with
    | none => none
    | some (.inr n) => some (anS n, M)
    | some (.inl p) => match leadM M c.path2 with
      | none => none
      | some (.inr n) => some (anS n, M)
      | some (.inl q) => doM M { c with path := p, path2 := q })
  else bif (decide (1 ≤ c.op) && decide (c.op ≤ 14)) || decide (c.op = 18) then (match leadM M c.path with
    | none => none
    | some (.inr n) => some (anS n, M)
    | some (.inl p) => doM M { c with path := p })
  else doM M c

/-! ### The face's own blocks -/
def prV : AO := .cells [.ptr 3 0, .ptr 8 0, .ptr 6 0, nilS, nilS] 78 0
def tbV : AO := .cells [nilS] 131 0
def fL : List (Nat × AO) := [(13, .cells [.ptr 12 0] 32 0), (12, prV), (8, tbV)]
theorem fL_lt : ∀ q ∈ fL, q.1 < 14 := by
  intro q hq
  simp only [fL, List.mem_cons, List.not_mem_nil, or_false] at hq
  rcases hq with rfl | rfl | rfl <;> decide
end Go.AX
namespace Go.AX
open Go.Proofs Go.RowKit
set_option maxRecDepth 1000000
set_option maxHeartbeats 40000000
set_option linter.unusedSimpArgs false

/-! ### The law's side of a tree -/
def WL (s : St) (M : Md) (L : List (Nat × AO)) : Prop := World s 6 M (fL ++ L)
def Dl (s : St) (L : List (Nat × AO)) (kr : AV → St → Bool) (q : An × Md) : Prop :=
  ∀ s' V, WL s' q.2 L → s.nx ≤ s'.nx → SlV s' V q.1.names → kr (.agg (anL q.1.status q.1.num q.1.kind q.1.mode q.1.data V)) s' = true
theorem WL.get {s : St} {M : Md} {L : List (Nat × AO)} (h : WL s M L) {q : Nat × AO} (hq : q ∈ L) : s.h.get q.1 = some q.2 := World.get h (List.mem_append_right _ hq)
theorem WL.get0 {s : St} {M : Md} {L : List (Nat × AO)} {i : Nat} {o : AO} (h : WL s M ((i, o) :: L)) : s.h.get i = some o := h.get (q := (i, o)) (List.mem_cons_self ..)
theorem WL.get1 {s : St} {M : Md} {L : List (Nat × AO)} {q : Nat × AO} {i : Nat} {o : AO} (h : WL s M (q :: (i, o) :: L)) : s.h.get i = some o := h.get (q := (i, o)) (List.mem_cons_of_mem _ (List.mem_cons_self ..))
theorem WL.get2 {s : St} {M : Md} {L : List (Nat × AO)} {q r : Nat × AO} {i : Nat} {o : AO} (h : WL s M (q :: r :: (i, o) :: L)) : s.h.get i = some o := h.get (q := (i, o)) (List.mem_cons_of_mem _ (List.mem_cons_of_mem _ (List.mem_cons_self ..)))
theorem WL.get3 {s : St} {M : Md} {L : List (Nat × AO)} {q r t : Nat × AO} {i : Nat} {o : AO} (h : WL s M (q :: r :: t :: (i, o) :: L)) : s.h.get i = some o := h.get (q := (i, o)) (List.mem_cons_of_mem _ (List.mem_cons_of_mem _ (List.mem_cons_of_mem _ (List.mem_cons_self ..))))
theorem WL.get4 {s : St} {M : Md} {L : List (Nat × AO)} {q r t u : Nat × AO} {i : Nat} {o : AO} (h : WL s M (q :: r :: t :: u :: (i, o) :: L)) : s.h.get i = some o := h.get (q := (i, o)) (List.mem_cons_of_mem _ (List.mem_cons_of_mem _ (List.mem_cons_of_mem _ (List.mem_cons_of_mem _ (List.mem_cons_self ..)))))
theorem WL.lt {s : St} {M : Md} {L : List (Nat × AO)} (h : WL s M L) {q : Nat × AO} (hq : q ∈ L) : q.1 < s.nx := World.lt h (List.mem_append_right _ hq)
theorem WL.sub {s : St} {M : Md} {L L' : List (Nat × AO)} (h : WL s M L) (hs : ∀ q ∈ L', q ∈ L) : WL s M L' := World.sub h (fun q hq => by
  rcases List.mem_append.mp hq with hq | hq
  · exact List.mem_append_left _ hq
  · exact List.mem_append_right _ (hs q hq))
theorem WL.mid {s : St} {M : Md} {q : Nat × AO} {L : List (Nat × AO)} (h : World s 6 M (q :: (fL ++ L))) : WL s M (q :: L) := World.sub h (fun r hr => by
  rcases List.mem_append.mp hr with hr | hr
  · exact List.mem_cons_of_mem _ (List.mem_append_left _ hr)
  · rcases List.mem_cons.mp hr with rfl | hr
    · exact List.mem_cons_self ..
    · exact List.mem_cons_of_mem _ (List.mem_append_right _ hr))
theorem WL.out {s : St} {M : Md} {q : Nat × AO} {L : List (Nat × AO)} (h : WL s M (q :: L)) : World s 6 M (q :: (fL ++ L)) := World.sub h (fun r hr => by
  rcases List.mem_cons.mp hr with rfl | hr
  · exact List.mem_append_right _ (List.mem_cons_self ..)
  · rcases List.mem_append.mp hr with hr | hr
    · exact List.mem_append_left _ hr
    · exact List.mem_append_right _ (List.mem_cons_of_mem _ hr))
theorem WL.alloc {s : St} {M : Md} {L : List (Nat × AO)} (h : WL s M L) (o : AO) : WL (s.alloc o) M ((s.nx, o) :: L) := WL.mid (World.alloc h o)
theorem WL.put {s : St} {M : Md} {L : List (Nat × AO)} (h : WL s M L) (o o' : AO) : WL { h := (s.alloc o).h.set s.nx o', nx := s.nx + 1 } M ((s.nx, o') :: L) :=
  WL.mid (World.set (World.alloc h o) (fun q hq => Nat.ne_of_lt (World.lt h hq)) o')
theorem WL.ext {s s' : St} {M : Md} {L : List (Nat × AO)} (h : WL s M L) (he : Ext s s') (hB : Below0 s') : WL s' M L := World.ext h he hB
theorem WL.below {s : St} {M : Md} {L : List (Nat × AO)} (h : WL s M L) : Below0 s := h.1
end Go.AX
namespace Go.AX
open Go.Proofs Go.RowKit
set_option maxRecDepth 1000000
set_option maxHeartbeats 40000000
set_option linter.unusedSimpArgs false

theorem WL.face {s : St} {M : Md} {L : List (Nat × AO)} (h : WL s M L) : s.h.get 13 = some (.cells [.ptr 12 0] 32 0) := World.get h (q := (13, _)) (List.mem_append_left _ (List.mem_cons_self ..))
theorem WL.base {s : St} {M : Md} {L : List (Nat × AO)} (h : WL s M L) : 14 ≤ s.nx := h.1 _ _ h.face
theorem mem_v {L : List (Nat × AO)} : (12, prV) ∈ fL ++ L := List.mem_append_left _ (List.mem_cons_of_mem _ (List.mem_cons_self ..))
theorem mem_t {L : List (Nat × AO)} : (8, tbV) ∈ fL ++ L := List.mem_append_left _ (List.mem_cons_of_mem _ (List.mem_cons_of_mem _ (List.mem_cons_self ..)))
theorem eq_pr {i j : Nat} {s : St} {d : Option (AV × List Nat)} : eqS TE s .eql 32 (.ptr i j) (.raw (.pointer none)) d = some (.raw (.bool false), []) := by kernel_rfl
theorem eq_mt {i j : Nat} {s : St} {d : Option (AV × List Nat)} : eqS TE s .eql 74 (.ptr i j) (.raw (.pointer none)) d = some (.raw (.bool false), []) := by kernel_rfl
theorem fa_pr1 {x : Nat} : fieldAddrA TE 78 (.ptr x 0) 1 = some (.ptr x 1) := by kernel_rfl
theorem fa_pr2 {x : Nat} : fieldAddrA TE 78 (.ptr x 0) 2 = some (.ptr x 2) := by kernel_rfl
theorem fa_mt {x : Nat} : fieldAddrA TE 131 (.ptr x 0) 0 = some (.ptr x 0) := by kernel_rfl
theorem fa_cl0 {x : Nat} : fieldAddrA TE 47 (.ptr x 0) 0 = some (.ptr x 0) := by kernel_rfl
theorem fa_cl1 {x : Nat} : fieldAddrA TE 47 (.ptr x 0) 1 = some (.ptr x 1) := by kernel_rfl
theorem fa_cl2 {x : Nat} : fieldAddrA TE 47 (.ptr x 0) 2 = some (.ptr x 2) := by kernel_rfl
theorem ld_pr (s : St) (x o : Nat) : loadA TE s 32 (.ptr x o) = ldC s x o := ld_gen (by kernel_rfl)
theorem ld_mt (s : St) (x o : Nat) : loadA TE s 74 (.ptr x o) = ldC s x o := ld_gen (by kernel_rfl)
theorem ld_ms (s : St) (x o : Nat) : loadA TE s 129 (.ptr x o) = ldC s x o := ld_gen (by kernel_rfl)
theorem ld_sp (s : St) (x o : Nat) : loadA TE s 80 (.ptr x o) = ldC s x o := ld_gen (by kernel_rfl)
theorem ln_ms {s : St} : lenOpA TE s [129] [nilS] = some (.raw (.int .i64 0)) := by kernel_rfl
theorem ids_nilS : idsOf nilS = [] := rfl
theorem mclean_c {s : St} (H : Ok TE Tryz.prog pr3) {p : List Nat} (hp : p.length ≤ 1000) {kr kp : AV → St → Bool} (hk : ∀ b : Bool, kr (.raw (.bool b)) s = true) : (sem Tryz.prog).call 88 [.str p] s kr kp = true := by
  refine w_call H 18 fn_88 rfl rfl ?_
  have f1 : binFast .add (.str [47]) (.str p) = some (.str (47 :: p)) := b_add (by simp; omega)
  have ec := fun {r a dst k kp} => c3_clean (r := r) (a := a) (dst := dst) (s := s) (k := k) (kp := kp) (x := []) (y := 47 :: p) (by simp) rfl rfl
  generalize cleanL [] (47 :: p) = x at ec
  obtain ⟨q, e⟩ := x
  by_cases he : e = 0
  · subst he
    have g0 : (((0 : Nat) : Int) == 0) = true := rfl
    cases hq : eqB q p with
    | true =>
      repeat (first | with_reducible (refine w_one H ?_; constructor) | simp only [rB, rP, rQ, boolA, intA, resultA, resA, reduceIte, reduceCtorEq, Nat.reduceAdd, Nat.reduceLT, Nat.reduceEqDiff, UInt8.reduceToNat, pe3, pf3, b_eqi, b_eqs, f1, ec, outC, hq, g0, Tryz.results88])
      exact hk _
    | false =>
      repeat (first | with_reducible (refine w_one H ?_; constructor) | simp only [rB, rP, rQ, boolA, intA, resultA, resA, reduceIte, reduceCtorEq, Nat.reduceAdd, Nat.reduceLT, Nat.reduceEqDiff, UInt8.reduceToNat, pe3, pf3, b_eqi, b_eqs, f1, ec, outC, hq, g0, Tryz.results88])
      exact hk _
  · have g0 : ((e : Int) == 0) = false := by rw [beq_eq_false_iff_ne]; omega
    repeat (first | with_reducible (refine w_one H ?_; constructor) | simp only [rB, rP, rQ, boolA, intA, resultA, resA, reduceIte, reduceCtorEq, Nat.reduceAdd, Nat.reduceLT, Nat.reduceEqDiff, UInt8.reduceToNat, pe3, pf3, b_eqi, b_eqs, f1, ec, outC, g0, Tryz.results88])
    exact hk _
theorem mwalk_c {s : St} (H : Ok TE Tryz.prog pr3) {t : Nat} (hT : s.h.get t = some tbV) {p : List Nat} (hp : p.length ≤ 1000) {kr kp : AV → St → Bool} (hk : kr (.tuple [.str p, .raw (.bool false)]) s = true) : (sem Tryz.prog).call 95 [.ptr t 0, .str p] s kr kp = true := by
  refine w_call H 78 fn_95 rfl rfl ?_
  unfold tbV at hT
  have g1 : decide ((0 : Int) < 0) = false := rfl
  have g2 : decide ((-1 : Int) < 0) = true := rfl
  repeat (first | with_reducible (refine w_one H ?_; constructor) | simp only [rB, rP, rQ, boolA, intA, resultA, resA, reduceIte, reduceCtorEq, Nat.reduceAdd, Nat.reduceLT, Nat.reduceEqDiff, UInt8.reduceToNat, pe3, pf3, b_pp, eq_mt])
  refine mclean_c H hp fun b => ?_
  cases b
  · repeat (first | with_reducible (refine w_one H ?_; constructor) | simp only [rB, rP, rQ, boolA, intA, resultA, resA, reduceIte, reduceCtorEq, Nat.reduceAdd, Nat.reduceLT, Nat.reduceEqDiff, UInt8.reduceToNat, pe3, pf3, b_pp, eq_mt, Tryz.results95])
    exact hk
  · repeat (first | with_reducible (refine w_one H ?_; constructor) | simp only [rB, rP, rQ, boolA, intA, resultA, resA, reduceIte, reduceCtorEq, Nat.reduceAdd, Nat.reduceLT, Nat.reduceEqDiff, UInt8.reduceToNat, pe3, pf3, b_pp, eq_mt, fa_mt, ld_ms, hT, ln_ms, ids_nilS, b_lt, g1, g2, Tryz.results95] | (refine w_loop H ?_))
    exact hk
theorem tcwd_c {s : St} (H : Ok TE Tryz.prog pr3) {M : Md} {L : List (Nat × AO)} (hW : World s 6 M L) {cw : List Nat} (h : pathT M.T 20 M.cwd = some cw) {kr kp : AV → St → Bool} (hk : kr (.str cw) s = true) : (sem Tryz.prog).call 94 [.ptr 6 0] s kr kp = true := by
  refine w_call H 10 fn_94 rfl rfl ?_
  obtain ⟨hB, ι, μ, R, hL⟩ := hW
  have hx := R.tr
  unfold trA at hx
  have hp := pathT_to R.hom h
  repeat (first | with_reducible (refine w_one H ?_; constructor) | simp only [rB, rP, rQ, boolA, intA, resultA, resA, reduceIte, reduceCtorEq, Nat.reduceAdd, Nat.reduceLT, Nat.reduceEqDiff, UInt8.reduceToNat, pe3, pf3, b_pp, eq_tn, fr_1', ld_117, hx, Tryz.results94] | (with_reducible refine path_c H R.rep hp ?_))
  exact hk
def leadV : List Nat ⊕ Int → AV
  | .inl q => .tuple [.str q, .raw (.bool false), .raw (.int .i64 0)]
  | .inr n => .tuple [.str [], .raw (.bool false), .raw (.int .i64 n)]
theorem lead_c {s : St} (H : Ok TE Tryz.prog pr3) {M : Md} {L : List (Nat × AO)} (hW : World s 6 M L) (hV : (12, prV) ∈ L) (hT : (8, tbV) ∈ L) {p : List Nat} {r : List Nat ⊕ Int} (h : leadM M p = some r) {kr kp : AV → St → Bool} (hk : kr (leadV r) s = true) :
    (sem Tryz.prog).call 59 [.ptr 12 0, .str p] s kr kp = true := by
  refine w_call H 39 fn_59 rfl rfl ?_
  have gV := World.get hW hV
  have gT := World.get hW hT
  simp only at gV gT
  unfold prV at gV
  unfold leadM at h
  cases hcw : pathT M.T 20 M.cwd with
  | none => rw [hcw] at h; cases h
  | some cw =>
  rw [hcw] at h
  simp only at h
  cases hb : Nat.ble cw.length 1000 with
  | false => rw [hb] at h; cases h
  | true =>
  rw [hb, cond_true] at h
  have ec := fun {r a dst k kp} => c3_clean (r := r) (a := a) (dst := dst) (s := s) (k := k) (kp := kp) (x := cw) (y := p) (Nat.le_of_ble_eq_true hb) rfl rfl
  have hl := cleanL_le (x := cw) (y := p)
  generalize cleanL cw p = x at ec h hl
  obtain ⟨q, e⟩ := x
  simp only at h hl
  have f1 : binFast .add (.str [47]) (.str q) = some (.str (47 :: q)) := b_add (by simp; omega)
  by_cases he : e = 0
  · subst he
    have g0 : (((0 : Nat) : Int) == 0) = true := rfl
    cases h
    repeat (first | with_reducible (refine w_one H ?_; constructor) | simp only [rB, rP, rQ, boolA, intA, resultA, resA, reduceIte, reduceCtorEq, Nat.reduceAdd, Nat.reduceLT, Nat.reduceEqDiff, UInt8.reduceToNat, pe3, pf3, fa_pr1, fa_pr2, ld_71, ld_mt, gV, ec, outC, b_eqi, f1, g0, Tryz.results59] | (with_reducible refine tcwd_c H hW hcw ?_) | (with_reducible refine mwalk_c H gT (by omega) ?_))
    exact hk
  rw [beq_ne he, cond_false] at h
  have g0 : ((e : Int) == 0) = false := by rw [beq_eq_false_iff_ne]; omega
  by_cases q1 : e = 402
  · subst q1
    have g1 : (((402 : Nat) : Int) == 402) = true := rfl
    cases h
    repeat (first | with_reducible (refine w_one H ?_; constructor) | simp only [rB, rP, rQ, boolA, intA, resultA, resA, reduceIte, reduceCtorEq, Nat.reduceAdd, Nat.reduceLT, Nat.reduceEqDiff, UInt8.reduceToNat, pe3, pf3, fa_pr1, fa_pr2, ld_71, ld_mt, gV, ec, outC, b_eqi, f1, g0, g1, Tryz.results59] | (with_reducible refine tcwd_c H hW hcw ?_))
    exact hk
  have g1 : ((e : Int) == 402) = false := by rw [beq_eq_false_iff_ne]; omega
  by_cases q2 : e = 403
  · subst q2
    have g2 : (((403 : Nat) : Int) == 403) = true := rfl
    cases h
    repeat (first | with_reducible (refine w_one H ?_; constructor) | simp only [rB, rP, rQ, boolA, intA, resultA, resA, reduceIte, reduceCtorEq, Nat.reduceAdd, Nat.reduceLT, Nat.reduceEqDiff, UInt8.reduceToNat, pe3, pf3, fa_pr1, fa_pr2, ld_71, ld_mt, gV, ec, outC, b_eqi, f1, g0, g1, g2, Tryz.results59] | (with_reducible refine tcwd_c H hW hcw ?_))
    exact hk
  have g2 : ((e : Int) == 403) = false := by rw [beq_eq_false_iff_ne]; omega
  rw [beq_ne q1, beq_ne q2] at h
  cases h
  repeat (first | with_reducible (refine w_one H ?_; constructor) | simp only [rB, rP, rQ, boolA, intA, resultA, resA, reduceIte, reduceCtorEq, Nat.reduceAdd, Nat.reduceLT, Nat.reduceEqDiff, UInt8.reduceToNat, pe3, pf3, fa_pr1, fa_pr2, ld_71, ld_mt, gV, ec, outC, b_eqi, f1, g0, g1, g2, Tryz.results59] | (with_reducible refine tcwd_c H hW hcw ?_))
  exact hk

theorem bs_sp {s : St} {a : Nat} : buildSliceA TE s 79 2 [(0, .ptr a 1), (1, .ptr a 2)] = some (.slice s.nx 0 2 0 2 true, s.alloc (.cells [.ptr a 1, .ptr a 2] 80 0)) := by kernel_rfl
theorem sl_sp0 {q : Nat} : sliceOpA TE 79 (.slice q 0 2 0 2 true) none (some (.raw (.int .i64 0))) none = some (.slice q 0 0 0 2 true) := by kernel_rfl
theorem sl_sp1 {q : Nat} : sliceOpA TE 79 (.slice q 0 2 0 2 true) none (some (.raw (.int .i64 1))) none = some (.slice q 0 1 0 2 true) := by kernel_rfl
theorem sl_sp2 {q : Nat} : sliceOpA TE 79 (.slice q 0 2 0 2 true) none (some (.raw (.int .i64 2))) none = some (.slice q 0 2 0 2 true) := by kernel_rfl
theorem ln_sp0 {s : St} {q : Nat} : lenOpA TE s [79] [.slice q 0 0 0 2 true] = some (.raw (.int .i64 0)) := by kernel_rfl
theorem ln_sp1 {s : St} {q : Nat} : lenOpA TE s [79] [.slice q 0 1 0 2 true] = some (.raw (.int .i64 1)) := by kernel_rfl
theorem ln_sp2 {s : St} {q : Nat} : lenOpA TE s [79] [.slice q 0 2 0 2 true] = some (.raw (.int .i64 2)) := by kernel_rfl
theorem ix_sp10 {q : Nat} : indexAddrA TE 79 (.slice q 0 1 0 2 true) (.raw (.int .i64 0)) = some (.ptr q 0) := by kernel_rfl
theorem ix_sp20 {q : Nat} : indexAddrA TE 79 (.slice q 0 2 0 2 true) (.raw (.int .i64 0)) = some (.ptr q 0) := by kernel_rfl
theorem ix_sp21 {q : Nat} : indexAddrA TE 79 (.slice q 0 2 0 2 true) (.raw (.int .i64 1)) = some (.ptr q 1) := by kernel_rfl
theorem bd_anS {n : Int} : buildA TE 43 [(0, .raw (.int .i64 n))] = some (.agg (anL n 0 0 0 [] nilS)) := by kernel_rfl
theorem lead_ne {M : Md} {p : List Nat} {n : Int} (h : leadM M p = some (.inr n)) : (n != 0) = true := by
  unfold leadM at h
  split at h
  · cases h
  · rename_i cw _
    cases hb : Nat.ble cw.length 1000 with
    | false => rw [hb] at h; cases h
    | true =>
      rw [hb, cond_true] at h
      generalize cleanL cw p = x at h
      obtain ⟨q, e⟩ := x
      simp only at h
      cases h1 : Nat.beq e 0 with
      | true => rw [h1] at h; cases h
      | false =>
        rw [h1, cond_false] at h
        cases h2 : (Nat.beq e 402 || Nat.beq e 403) with
        | true => rw [h2] at h; cases h; rfl
        | false => rw [h2] at h; cases h; rfl
/-- How many paths a call has. -/
def pathedN (op : Int) : Int := bif decide (op = 13) then 2 else bif (decide (1 ≤ op) && decide (op ≤ 14)) || decide (op = 18) then 1 else 0
theorem pathed_c {s : St} (H : Ok TE Tryz.prog pr3) {op : Int} {kr kp : AV → St → Bool} (hk : kr (.raw (.int .i64 (pathedN op))) s = true) : (sem Tryz.prog).call 58 [.raw (.int .i64 op)] s kr kp = true := by
  refine w_call H 15 fn_58 rfl rfl ?_
  unfold pathedN at hk
  by_cases h1 : op = 13
  · subst h1
    have g1 : ((13 : Int) == 13) = true := rfl
    repeat (first | with_reducible (refine w_one H ?_; constructor) | simp only [rB, rP, rQ, boolA, intA, resultA, resA, reduceIte, reduceCtorEq, Nat.reduceAdd, Nat.reduceLT, Nat.reduceEqDiff, UInt8.reduceToNat, pe3, pf3, b_eqi, b_ge, b_le, g1, Tryz.results58])
    exact hk
  have g1 : (op == 13) = false := by rw [beq_eq_false_iff_ne]; omega
  rw [decide_eq_false h1, cond_false] at hk
  by_cases h2 : 1 ≤ op
  · have g2 : decide (op ≥ 1) = true := decide_eq_true h2
    rw [decide_eq_true h2, Bool.true_and] at hk
    by_cases h3 : op ≤ 14
    · have g3 : decide (op ≤ 14) = true := decide_eq_true h3
      rw [g3, Bool.true_or, cond_true] at hk
      repeat (first | with_reducible (refine w_one H ?_; constructor) | simp only [rB, rP, rQ, boolA, intA, resultA, resA, reduceIte, reduceCtorEq, Nat.reduceAdd, Nat.reduceLT, Nat.reduceEqDiff, UInt8.reduceToNat, pe3, pf3, b_eqi, b_ge, b_le, g1, g2, g3, Tryz.results58])
      exact hk
    · have g3 : decide (op ≤ 14) = false := decide_eq_false h3
      rw [g3, Bool.false_or] at hk
      by_cases h4 : op = 18
      · subst h4
        have g4 : ((18 : Int) == 18) = true := rfl
        repeat (first | with_reducible (refine w_one H ?_; constructor) | simp only [rB, rP, rQ, boolA, intA, resultA, resA, reduceIte, reduceCtorEq, Nat.reduceAdd, Nat.reduceLT, Nat.reduceEqDiff, UInt8.reduceToNat, pe3, pf3, b_eqi, b_ge, b_le, g1, g2, g3, g4, Tryz.results58])
        exact hk
      · have g4 : (op == 18) = false := by rw [beq_eq_false_iff_ne]; omega
        rw [decide_eq_false h4, cond_false] at hk
        repeat (first | with_reducible (refine w_one H ?_; constructor) | simp only [rB, rP, rQ, boolA, intA, resultA, resA, reduceIte, reduceCtorEq, Nat.reduceAdd, Nat.reduceLT, Nat.reduceEqDiff, UInt8.reduceToNat, pe3, pf3, b_eqi, b_ge, b_le, g1, g2, g3, g4, Tryz.results58])
        exact hk
  · have g2 : decide (op ≥ 1) = false := decide_eq_false h2
    have g4 : (op == 18) = false := by rw [beq_eq_false_iff_ne]; omega
    rw [decide_eq_false h2, Bool.false_and, Bool.false_or, decide_eq_false (by omega : ¬ op = 18), cond_false] at hk
    repeat (first | with_reducible (refine w_one H ?_; constructor) | simp only [rB, rP, rQ, boolA, intA, resultA, resA, reduceIte, reduceCtorEq, Nat.reduceAdd, Nat.reduceLT, Nat.reduceEqDiff, UInt8.reduceToNat, pe3, pf3, b_eqi, b_ge, b_le, g1, g2, g4, Tryz.results58])
    exact hk
theorem pl_cl2 {c : Cl} {v : List Nat} : putL (clL c) 2 [.str v] = some (clL { c with path2 := v }) := (rfl)
theorem ldG_clL {c : Cl} {el fz : Nat} : ldG 8 (some (.cells (clL c) el fz)) = some (.agg (clL c)) := (rfl)
theorem pcall_c {s : St} (H : Ok TE Tryz.prog pr3) {M : Md} {L : List (Nat × AO)} (hW : World s 6 M L) (hV : (12, prV) ∈ L) (hT : (8, tbV) ∈ L) {c : Cl} {q : An × Md} (h : prM M c = some q) {kr kp : AV → St → Bool} (hk : Dt s 6 L kr q) :
    (sem Tryz.prog).call 27 [.ptr 12 0, .agg (clL c)] s kr kp = true := by
  refine w_call H 60 fn_27 rfl rfl ?_
  have gV := World.get hW hV
  simp only at gV
  unfold prV at gV
  have h3 : 12 < s.nx := World.lt hW hV
  have m1 : (s.nx = s.nx + 1) = False := by simp
  have m2 : (s.nx + 1 = s.nx) = False := by simp
  have m3 : (12 = s.nx) = False := by simp; omega
  have m4 : (12 = s.nx + 1) = False := by simp; omega
  have m5 : (s.nx = s.nx + 1 + 1) = False := by simp; omega
  have m6 : (12 = s.nx + 1 + 1) = False := by simp; omega
  have m7 : (s.nx + 1 + 1 = s.nx) = False := by simp; omega
  have m8 : (s.nx + 1 = s.nx + 1 + 1) = False := by simp
  have m9 : (s.nx + 1 + 1 = s.nx + 1) = False := by simp
  have nL : ∀ q ∈ L, q.1 ≠ s.nx + 1 := fun q hq => by have := World.lt hW hq; omega
  have hW3 := ((World.alloc hW (.cells (clL c) 47 0)).alloc (.cells (anL 0 0 0 0 [] nilS) 43 0)).alloc (.cells [.ptr s.nx 1, .ptr s.nx 2] 80 0)
  have fin : ∀ {s1 : St} {M1 : Md} {a : An} {V : AV} {o0 o2 : AO}, World s1 6 M1 ((s.nx + 1 + 1, o2) :: (s.nx + 1, .cells (anL 0 0 0 0 [] nilS) 43 0) :: (s.nx, o0) :: L) → s.nx ≤ s1.nx → SlV s1 V a.names → q = (a, M1) →
      kr (.agg (anL a.status a.num a.kind a.mode a.data V)) { s1 with h := s1.h.set (s.nx + 1) (.cells (anL a.status a.num a.kind a.mode a.data V) 43 0) } = true := by
    intro s1 M1 a V o0 o2 w1 l1 hV1 hq
    subst hq
    have w2 : World s1 6 M1 ((s.nx + 1, .cells (anL 0 0 0 0 [] nilS) 43 0) :: L) := w1.sub (fun r hr => by
      rcases List.mem_cons.mp hr with rfl | hr
      · exact List.mem_cons_of_mem _ (List.mem_cons_self ..)
      · exact List.mem_cons_of_mem _ (List.mem_cons_of_mem _ (List.mem_cons_of_mem _ hr)))
    exact hk _ V ((w2.set nL _).sub (fun r hr => List.mem_cons_of_mem _ hr)) l1 (hV1.set w2.get0 an_str _)
  have d0 : decide ((0 : Int) < 0) = false := rfl
  have d1 : decide ((0 : Int) < 1) = true := rfl
  have d2 : decide ((1 : Int) < 1) = false := rfl
  have d3 : decide ((0 : Int) < 2) = true := rfl
  have d4 : decide ((1 : Int) < 2) = true := rfl
  have d5 : decide ((2 : Int) < 2) = false := rfl
  have z0 : ((0 : Int) != 0) = false := rfl
  have i1 : IntKind.i64.wrap (0 + 1) = 1 := rfl
  have i2 : IntKind.i64.wrap (1 + 1) = 2 := rfl
  unfold clL at hW3 ⊢
  unfold prM at h
  by_cases hA : c.op = 13
  · have hn : pathedN c.op = 2 := by unfold pathedN; rw [decide_eq_true hA]; rfl
    rw [decide_eq_true hA, cond_true] at h
    repeat (first | with_reducible (refine w_one H ?_; constructor) | simp only [rB, rP, rQ, boolA, intA, resultA, resA, reduceIte, reduceCtorEq, Nat.reduceAdd, Nat.reduceLT, Nat.reduceEqDiff, UInt8.reduceToNat, pe3, pf3, all_an, cells_agg, b_eqi, b_nei, b_lt, b_plus, b_pp, eq_pr, fa_cl0, fa_cl1, fa_cl2, bs_sp, ld_3, ld_9, ld_sp, st_9, m1, m2, m3, m4, m5, m6, m7, m8, m9, hn, d0, d1, d2, z0, i1, i2, gV, fa_pr2, ld_71, ld_cl, ldG_cl, d3, d4, d5, sl_sp2, ln_sp2] | (with_reducible refine pathed_c H ?_))
    cases hr : leadM M c.path with
    | none => rw [hr] at h; cases h
    | some r =>
    rw [hr] at h
    refine w_loop H ?_
    repeat (first | with_reducible (refine w_one H ?_; constructor) | simp only [rB, rP, rQ, boolA, intA, resultA, resA, reduceIte, reduceCtorEq, Nat.reduceAdd, Nat.reduceLT, Nat.reduceEqDiff, UInt8.reduceToNat, pe3, pf3, all_an, cells_agg, b_eqi, b_nei, b_lt, b_plus, b_pp, eq_pr, fa_cl0, fa_cl1, fa_cl2, bs_sp, ld_3, ld_9, ld_sp, st_9, m1, m2, m3, m4, m5, m6, m7, m8, m9, hn, d0, d1, d2, z0, i1, i2, gV, fa_pr2, ld_71, ld_cl, ldG_cl, d3, d4, d5, ix_sp20, ix_sp21])
    refine lead_c H hW3 (List.mem_cons_of_mem _ (List.mem_cons_of_mem _ (List.mem_cons_of_mem _ hV))) (List.mem_cons_of_mem _ (List.mem_cons_of_mem _ (List.mem_cons_of_mem _ hT))) hr ?_
    cases r with
    | inr n =>
      cases h
      have g0 := lead_ne hr
      unfold leadV
      repeat (first | with_reducible (refine w_one H ?_; constructor) | simp only [rB, rP, rQ, boolA, intA, resultA, resA, reduceIte, reduceCtorEq, Nat.reduceAdd, Nat.reduceLT, Nat.reduceEqDiff, UInt8.reduceToNat, pe3, pf3, all_an, cells_agg, b_eqi, b_nei, b_lt, b_plus, b_pp, eq_pr, fa_cl0, fa_cl1, fa_cl2, bs_sp, ld_3, ld_9, ld_sp, st_9, m1, m2, m3, m4, m5, m6, m7, m8, m9, hn, d0, d1, d2, z0, i1, i2, gV, fa_pr2, ld_71, ld_cl, ldG_cl, d3, d4, d5, ix_sp20, ix_sp21, g0, bd_anS, one_nilS, st_an, stA_an, ld_an, ldG_an, Tryz.results27])
      exact fin (a := anS n) hW3 (by show s.nx ≤ s.nx + 1 + 1 + 1; omega) (Or.inl ⟨rfl, rfl⟩) rfl
    | inl p =>
      unfold leadV
      repeat (first | with_reducible (refine w_one H ?_; constructor) | simp only [rB, rP, rQ, boolA, intA, resultA, resA, reduceIte, reduceCtorEq, Nat.reduceAdd, Nat.reduceLT, Nat.reduceEqDiff, UInt8.reduceToNat, pe3, pf3, all_an, cells_agg, b_eqi, b_nei, b_lt, b_plus, b_pp, eq_pr, fa_cl0, fa_cl1, fa_cl2, bs_sp, ld_3, ld_9, ld_sp, st_9, m1, m2, m3, m4, m5, m6, m7, m8, m9, hn, d0, d1, d2, z0, i1, i2, gV, fa_pr2, ld_71, ld_cl, ldG_cl, d3, d4, d5, ix_sp20, ix_sp21])
      refine w_loop H ?_
      repeat (first | with_reducible (refine w_one H ?_; constructor) | simp only [rB, rP, rQ, boolA, intA, resultA, resA, reduceIte, reduceCtorEq, Nat.reduceAdd, Nat.reduceLT, Nat.reduceEqDiff, UInt8.reduceToNat, pe3, pf3, all_an, cells_agg, b_eqi, b_nei, b_lt, b_plus, b_pp, eq_pr, fa_cl0, fa_cl1, fa_cl2, bs_sp, ld_3, ld_9, ld_sp, st_9, m1, m2, m3, m4, m5, m6, m7, m8, m9, hn, d0, d1, d2, z0, i1, i2, gV, fa_pr2, ld_71, ld_cl, ldG_cl, d3, d4, d5, ix_sp20, ix_sp21])
      have nL0 : ∀ (o1 o2 : AO), ∀ r ∈ (s.nx + 1 + 1, o1) :: (s.nx + 1, o2) :: L, r.1 ≠ s.nx := fun o1 o2 r hr => by
        simp only [List.mem_cons] at hr
        rcases hr with rfl | rfl | hr
        · simp
          omega
        · simp
        · have := World.lt hW hr
          omega
      have w0 := hW3.sub (L' := (s.nx, _) :: (s.nx + 1 + 1, _) :: (s.nx + 1, _) :: L) (fun r hr => by
        simp only [List.mem_cons] at hr ⊢
        rcases hr with hr | hr | hr | hr
        · exact Or.inr (Or.inr (Or.inl hr))
        · exact Or.inl hr
        · exact Or.inr (Or.inl hr)
        · exact Or.inr (Or.inr (Or.inr hr)))
      have w1 := w0.set (nL0 _ _) (.cells (clL { c with path := p }) 47 0)
      have w2 := w1.sub (L' := (s.nx + 1 + 1, _) :: (s.nx + 1, _) :: (s.nx, _) :: L) (fun r hr => by
        simp only [List.mem_cons] at hr ⊢
        rcases hr with hr | hr | hr | hr
        · exact Or.inr (Or.inl hr)
        · exact Or.inr (Or.inr (Or.inl hr))
        · exact Or.inl hr
        · exact Or.inr (Or.inr (Or.inr hr)))
      cases hr2 : leadM M c.path2 with
      | none => simp only [hr2] at h; cases h
      | some r2 =>
      simp only [hr2] at h
      refine lead_c H w2 (List.mem_cons_of_mem _ (List.mem_cons_of_mem _ (List.mem_cons_of_mem _ hV))) (List.mem_cons_of_mem _ (List.mem_cons_of_mem _ (List.mem_cons_of_mem _ hT))) hr2 ?_
      cases r2 with
      | inr n =>
        cases h
        have g0 := lead_ne hr2
        unfold leadV
        repeat (first | with_reducible (refine w_one H ?_; constructor) | simp only [rB, rP, rQ, boolA, intA, resultA, resA, reduceIte, reduceCtorEq, Nat.reduceAdd, Nat.reduceLT, Nat.reduceEqDiff, UInt8.reduceToNat, pe3, pf3, all_an, cells_agg, b_eqi, b_nei, b_lt, b_plus, b_pp, eq_pr, fa_cl0, fa_cl1, fa_cl2, bs_sp, ld_3, ld_9, ld_sp, st_9, m1, m2, m3, m4, m5, m6, m7, m8, m9, hn, d0, d1, d2, z0, i1, i2, gV, fa_pr2, ld_71, ld_cl, ldG_cl, d3, d4, d5, ix_sp20, ix_sp21, g0, bd_anS, one_nilS, st_an, stA_an, ld_an, ldG_an, Tryz.results27])
        exact fin (a := anS n) w2 (by show s.nx ≤ s.nx + 1 + 1 + 1; omega) (Or.inl ⟨rfl, rfl⟩) rfl
      | inl q2 =>
        unfold leadV
        repeat (first | with_reducible (refine w_one H ?_; constructor) | simp only [rB, rP, rQ, boolA, intA, resultA, resA, reduceIte, reduceCtorEq, Nat.reduceAdd, Nat.reduceLT, Nat.reduceEqDiff, UInt8.reduceToNat, pe3, pf3, all_an, cells_agg, b_eqi, b_nei, b_lt, b_plus, b_pp, eq_pr, fa_cl0, fa_cl1, fa_cl2, bs_sp, ld_3, ld_9, ld_sp, st_9, m1, m2, m3, m4, m5, m6, m7, m8, m9, hn, d0, d1, d2, z0, i1, i2, gV, fa_pr2, ld_71, ld_cl, ldG_cl, d3, d4, d5, ix_sp20, ix_sp21, pl_cl2, ldG_clL])
        refine w_loop H ?_
        repeat (first | with_reducible (refine w_one H ?_; constructor) | simp only [rB, rP, rQ, boolA, intA, resultA, resA, reduceIte, reduceCtorEq, Nat.reduceAdd, Nat.reduceLT, Nat.reduceEqDiff, UInt8.reduceToNat, pe3, pf3, all_an, cells_agg, b_eqi, b_nei, b_lt, b_plus, b_pp, eq_pr, fa_cl0, fa_cl1, fa_cl2, bs_sp, ld_3, ld_9, ld_sp, st_9, m1, m2, m3, m4, m5, m6, m7, m8, m9, hn, d0, d1, d2, z0, i1, i2, gV, fa_pr2, ld_71, ld_cl, ldG_cl, d3, d4, d5, ix_sp20, ix_sp21, pl_cl2, ldG_clL] | (with_reducible refine w_plan H (i := 15) (.take 0 (.take 1 (.take 2 (.take 3 (.take 4 (.alt 5 [0, 1, 2, 3, 4] (.alt 6 [0, 1, 2, 3, 4, 5] (.done) (.yes)) (.yes))))))) rfl (by kernel_rfl) ?_))
        have x0 := w2.sub (L' := (s.nx, _) :: (s.nx + 1 + 1, _) :: (s.nx + 1, _) :: L) (fun r hr => by
          simp only [List.mem_cons] at hr ⊢
          rcases hr with hr | hr | hr | hr
          · exact Or.inr (Or.inr (Or.inl hr))
          · exact Or.inl hr
          · exact Or.inr (Or.inl hr)
          · exact Or.inr (Or.inr (Or.inr hr)))
        have x1 := x0.set (nL0 _ _) (.cells (clL { c with path := p, path2 := q2 }) 47 0)
        have x2 := x1.sub (L' := (s.nx + 1 + 1, _) :: (s.nx + 1, _) :: (s.nx, _) :: L) (fun r hr => by
          simp only [List.mem_cons] at hr ⊢
          rcases hr with hr | hr | hr | hr
          · exact Or.inr (Or.inl hr)
          · exact Or.inr (Or.inr (Or.inl hr))
          · exact Or.inl hr
          · exact Or.inr (Or.inr (Or.inr hr)))
        refine do_c H x2 h (c := { c with path := p, path2 := q2 }) ?_
        intro s1 V w1 l1 hV1
        have c1 : s1.h.get (s.nx + 1) = some (.cells (anL 0 0 0 0 [] nilS) 43 0) := w1.get1
        repeat (first | with_reducible (refine w_one H ?_; constructor) | simp only [rB, rP, rQ, boolA, intA, resultA, resA, reduceIte, reduceCtorEq, Nat.reduceAdd, Nat.reduceLT, Nat.reduceEqDiff, UInt8.reduceToNat, pe3, pf3, c1, st_an hV1.cells1.2, stA_an, ld_an, ldG_an, Tryz.results27])
        exact fin w1 (Nat.le_trans (by show s.nx ≤ s.nx + 1 + 1 + 1; omega) l1) hV1 rfl
  rw [decide_eq_false hA, cond_false] at h
  cases hB : ((decide (1 ≤ c.op) && decide (c.op ≤ 14)) || decide (c.op = 18)) with
  | true =>
    have hn : pathedN c.op = 1 := by unfold pathedN; rw [decide_eq_false hA, hB]; rfl
    rw [hB, cond_true] at h
    repeat (first | with_reducible (refine w_one H ?_; constructor) | simp only [rB, rP, rQ, boolA, intA, resultA, resA, reduceIte, reduceCtorEq, Nat.reduceAdd, Nat.reduceLT, Nat.reduceEqDiff, UInt8.reduceToNat, pe3, pf3, all_an, cells_agg, b_eqi, b_nei, b_lt, b_plus, b_pp, eq_pr, fa_cl0, fa_cl1, fa_cl2, bs_sp, ld_3, ld_9, ld_sp, st_9, m1, m2, m3, m4, m5, m6, m7, m8, m9, hn, d0, d1, d2, z0, i1, i2, gV, fa_pr2, ld_71, ld_cl, ldG_cl, sl_sp1, ln_sp1] | (with_reducible refine pathed_c H ?_))
    cases hr : leadM M c.path with
    | none => rw [hr] at h; cases h
    | some r =>
    rw [hr] at h
    refine w_loop H ?_
    repeat (first | with_reducible (refine w_one H ?_; constructor) | simp only [rB, rP, rQ, boolA, intA, resultA, resA, reduceIte, reduceCtorEq, Nat.reduceAdd, Nat.reduceLT, Nat.reduceEqDiff, UInt8.reduceToNat, pe3, pf3, all_an, cells_agg, b_eqi, b_nei, b_lt, b_plus, b_pp, eq_pr, fa_cl0, fa_cl1, fa_cl2, bs_sp, ld_3, ld_9, ld_sp, st_9, m1, m2, m3, m4, m5, m6, m7, m8, m9, hn, d0, d1, d2, z0, i1, i2, gV, fa_pr2, ld_71, ld_cl, ldG_cl, ix_sp10])
    refine lead_c H hW3 (List.mem_cons_of_mem _ (List.mem_cons_of_mem _ (List.mem_cons_of_mem _ hV))) (List.mem_cons_of_mem _ (List.mem_cons_of_mem _ (List.mem_cons_of_mem _ hT))) hr ?_
    cases r with
    | inr n =>
      cases h
      have g0 := lead_ne hr
      unfold leadV
      repeat (first | with_reducible (refine w_one H ?_; constructor) | simp only [rB, rP, rQ, boolA, intA, resultA, resA, reduceIte, reduceCtorEq, Nat.reduceAdd, Nat.reduceLT, Nat.reduceEqDiff, UInt8.reduceToNat, pe3, pf3, all_an, cells_agg, b_eqi, b_nei, b_lt, b_plus, b_pp, eq_pr, fa_cl0, fa_cl1, fa_cl2, bs_sp, ld_3, ld_9, ld_sp, st_9, m1, m2, m3, m4, m5, m6, m7, m8, m9, hn, d0, d1, d2, z0, i1, i2, gV, fa_pr2, ld_71, ld_cl, ldG_cl, g0, bd_anS, one_nilS, st_an, stA_an, ld_an, ldG_an, Tryz.results27])
      exact fin (a := anS n) hW3 (by show s.nx ≤ s.nx + 1 + 1 + 1; omega) (Or.inl ⟨rfl, rfl⟩) rfl
    | inl p =>
      unfold leadV
      repeat (first | with_reducible (refine w_one H ?_; constructor) | simp only [rB, rP, rQ, boolA, intA, resultA, resA, reduceIte, reduceCtorEq, Nat.reduceAdd, Nat.reduceLT, Nat.reduceEqDiff, UInt8.reduceToNat, pe3, pf3, all_an, cells_agg, b_eqi, b_nei, b_lt, b_plus, b_pp, eq_pr, fa_cl0, fa_cl1, fa_cl2, bs_sp, ld_3, ld_9, ld_sp, st_9, m1, m2, m3, m4, m5, m6, m7, m8, m9, hn, d0, d1, d2, z0, i1, i2, gV, fa_pr2, ld_71, ld_cl, ldG_cl])
      refine w_loop H ?_
      repeat (first | with_reducible (refine w_one H ?_; constructor) | simp only [rB, rP, rQ, boolA, intA, resultA, resA, reduceIte, reduceCtorEq, Nat.reduceAdd, Nat.reduceLT, Nat.reduceEqDiff, UInt8.reduceToNat, pe3, pf3, all_an, cells_agg, b_eqi, b_nei, b_lt, b_plus, b_pp, eq_pr, fa_cl0, fa_cl1, fa_cl2, bs_sp, ld_3, ld_9, ld_sp, st_9, m1, m2, m3, m4, m5, m6, m7, m8, m9, hn, d0, d1, d2, z0, i1, i2, gV, fa_pr2, ld_71, ld_cl, ldG_cl] | (with_reducible refine w_plan H (i := 15) (.take 0 (.take 1 (.take 2 (.take 3 (.take 4 (.alt 5 [0, 1, 2, 3, 4] (.alt 6 [0, 1, 2, 3, 4, 5] (.done) (.yes)) (.yes))))))) rfl (by kernel_rfl) ?_))
      have nL0 : ∀ (o1 o2 : AO), ∀ r ∈ (s.nx + 1 + 1, o1) :: (s.nx + 1, o2) :: L, r.1 ≠ s.nx := fun o1 o2 r hr => by
        simp only [List.mem_cons] at hr
        rcases hr with rfl | rfl | hr
        · simp
          omega
        · simp
        · have := World.lt hW hr
          omega
      have w0 := hW3.sub (L' := (s.nx, _) :: (s.nx + 1 + 1, _) :: (s.nx + 1, _) :: L) (fun r hr => by
        simp only [List.mem_cons] at hr ⊢
        rcases hr with hr | hr | hr | hr
        · exact Or.inr (Or.inr (Or.inl hr))
        · exact Or.inl hr
        · exact Or.inr (Or.inl hr)
        · exact Or.inr (Or.inr (Or.inr hr)))
      have w1 := w0.set (nL0 _ _) (.cells (clL { c with path := p }) 47 0)
      have w2 := w1.sub (L' := (s.nx + 1 + 1, _) :: (s.nx + 1, _) :: (s.nx, _) :: L) (fun r hr => by
        simp only [List.mem_cons] at hr ⊢
        rcases hr with hr | hr | hr | hr
        · exact Or.inr (Or.inl hr)
        · exact Or.inr (Or.inr (Or.inl hr))
        · exact Or.inl hr
        · exact Or.inr (Or.inr (Or.inr hr)))
      refine do_c H w2 h (c := { c with path := p }) ?_
      intro s1 V w1 l1 hV1
      have c1 : s1.h.get (s.nx + 1) = some (.cells (anL 0 0 0 0 [] nilS) 43 0) := w1.get1
      repeat (first | with_reducible (refine w_one H ?_; constructor) | simp only [rB, rP, rQ, boolA, intA, resultA, resA, reduceIte, reduceCtorEq, Nat.reduceAdd, Nat.reduceLT, Nat.reduceEqDiff, UInt8.reduceToNat, pe3, pf3, c1, st_an hV1.cells1.2, stA_an, ld_an, ldG_an, Tryz.results27])
      exact fin w1 (Nat.le_trans (by show s.nx ≤ s.nx + 1 + 1 + 1; omega) l1) hV1 rfl
  | false =>
    have hn : pathedN c.op = 0 := by unfold pathedN; rw [decide_eq_false hA, hB]; rfl
    rw [hB, cond_false] at h
    repeat (first | with_reducible (refine w_one H ?_; constructor) | simp only [rB, rP, rQ, boolA, intA, resultA, resA, reduceIte, reduceCtorEq, Nat.reduceAdd, Nat.reduceLT, Nat.reduceEqDiff, UInt8.reduceToNat, pe3, pf3, all_an, cells_agg, b_eqi, b_nei, b_lt, b_plus, b_pp, eq_pr, fa_cl0, fa_cl1, fa_cl2, bs_sp, ld_3, ld_9, ld_sp, st_9, m1, m2, m3, m4, m5, m6, m7, m8, m9, hn, d0, d1, d2, z0, i1, i2, gV, fa_pr2, ld_71, ld_cl, ldG_cl, sl_sp0, ln_sp0] | (with_reducible refine pathed_c H ?_))
    refine w_loop H ?_
    repeat (first | with_reducible (refine w_one H ?_; constructor) | simp only [rB, rP, rQ, boolA, intA, resultA, resA, reduceIte, reduceCtorEq, Nat.reduceAdd, Nat.reduceLT, Nat.reduceEqDiff, UInt8.reduceToNat, pe3, pf3, all_an, cells_agg, b_eqi, b_nei, b_lt, b_plus, b_pp, eq_pr, fa_cl0, fa_cl1, fa_cl2, bs_sp, ld_3, ld_9, ld_sp, st_9, m1, m2, m3, m4, m5, m6, m7, m8, m9, hn, d0, d1, d2, z0, i1, i2, gV, fa_pr2, ld_71, ld_cl, ldG_cl] | (with_reducible refine w_plan H (i := 15) (.take 0 (.take 1 (.take 2 (.take 3 (.take 4 (.alt 5 [0, 1, 2, 3, 4] (.alt 6 [0, 1, 2, 3, 4, 5] (.done) (.yes)) (.yes))))))) rfl (by kernel_rfl) ?_))
    refine do_c H hW3 h (c := c) ?_
    intro s1 V w1 l1 hV1
    have c1 : s1.h.get (s.nx + 1) = some (.cells (anL 0 0 0 0 [] nilS) 43 0) := w1.get1
    repeat (first | with_reducible (refine w_one H ?_; constructor) | simp only [rB, rP, rQ, boolA, intA, resultA, resA, reduceIte, reduceCtorEq, Nat.reduceAdd, Nat.reduceLT, Nat.reduceEqDiff, UInt8.reduceToNat, pe3, pf3, c1, st_an hV1.cells1.2, stA_an, ld_an, ldG_an, Tryz.results27])
    exact fin w1 (Nat.le_trans (by show s.nx ≤ s.nx + 1 + 1 + 1; omega) l1) hV1 rfl
/-- What the face answers. -/
theorem face1_c {s : St} (H : Ok TE Tryz.prog pr3) {M : Md} {L : List (Nat × AO)} (hW : WL s M L) {c : Cl} {q : An × Md} (h : prM M c = some q) {kr kp : AV → St → Bool} (hk : Dl s L kr q) :
    (sem Tryz.prog).call 62 [.agg (clL c), .ptr 13 0] s kr kp = true := by
  refine w_call H 7 fn_62 rfl rfl ?_
  have h3 : 13 < s.nx := hW.1 _ _ hW.face
  have g3 := hW.face
  have m1 : (s.nx = s.nx + 1) = False := by simp
  have m2 : (s.nx + 1 = s.nx) = False := by simp
  have m3 : (13 = s.nx) = False := by simp; omega
  have m4 : (13 = s.nx + 1) = False := by simp; omega
  have hW2 := (World.alloc hW (.cells (clL c) 47 0)).alloc (.cells (anL 0 0 0 0 [] nilS) 43 0)
  have hL1 : ∀ q ∈ (s.nx, AO.cells (clL c) 47 0) :: (fL ++ L), q.1 ≠ s.nx + 1 := by
    intro q hq
    simp only [List.mem_cons] at hq
    rcases hq with rfl | hq
    · simp
    · have := World.lt hW hq
      omega
  unfold clL at hW2 ⊢
  repeat (first | with_reducible (refine w_one H ?_; constructor) | simp only [rB, rP, rQ, boolA, intA, resultA, resA, reduceIte, reduceCtorEq, Nat.reduceAdd, Nat.reduceLT, Nat.reduceEqDiff, UInt8.reduceToNat, pe3, pf3, all_an, cells_agg, ld_pr, m1, m2, m3, m4, g3, ld_cl, ldG_cl])
  refine pcall_c H hW2 (List.mem_cons_of_mem _ (List.mem_cons_of_mem _ mem_v)) (List.mem_cons_of_mem _ (List.mem_cons_of_mem _ mem_t)) h (c := c) ?_
  intro s1 V w1 l1 hV
  have c1 : s1.h.get (s.nx + 1) = some (.cells (anL 0 0 0 0 [] nilS) 43 0) := w1.get0
  repeat (first | with_reducible (refine w_one H ?_; constructor) | simp only [rB, rP, rQ, boolA, intA, resultA, resA, reduceIte, reduceCtorEq, Nat.reduceAdd, Nat.reduceLT, Nat.reduceEqDiff, UInt8.reduceToNat, pe3, pf3, c1, st_an hV.cells1.2, stA_an, ld_an, ldG_an, Tryz.results62])
  exact hk _ V ((w1.set hL1 _).sub (fun q hq => List.mem_cons_of_mem _ (List.mem_cons_of_mem _ hq))) (Nat.le_trans (by show s.nx ≤ s.nx + 1 + 1; omega) l1) (hV.set c1 an_str _)

end Go.AX
namespace Go.AX
open Go.Proofs Go.RowKit
set_option maxRecDepth 1000000
set_option maxHeartbeats 40000000
set_option linter.unusedSimpArgs false

/-! ### The law's helpers -/
theorem bc_01 {a : Int} {b : List Nat} : buildA TE 47 [(0, .raw (.int .i64 a)), (1, .str b)] = some (.agg (clL ⟨a, b, [], 0, 0, 0, 0, []⟩)) := by kernel_rfl
theorem bc_012 {a : Int} {b c : List Nat} : buildA TE 47 [(0, .raw (.int .i64 a)), (1, .str b), (2, .str c)] = some (.agg (clL ⟨a, b, c, 0, 0, 0, 0, []⟩)) := by kernel_rfl
theorem bc_015 {a n : Int} {b : List Nat} : buildA TE 47 [(0, .raw (.int .i64 a)), (1, .str b), (5, .raw (.int .i64 n))] = some (.agg (clL ⟨a, b, [], 0, 0, n, 0, []⟩)) := by kernel_rfl
theorem bc_0145 {a o n : Int} {b : List Nat} : buildA TE 47 [(0, .raw (.int .i64 a)), (1, .str b), (4, .raw (.int .i64 o)), (5, .raw (.int .i64 n))] = some (.agg (clL ⟨a, b, [], 0, o, n, 0, []⟩)) := by kernel_rfl
theorem bc_0147 {a o : Int} {b d : List Nat} : buildA TE 47 [(0, .raw (.int .i64 a)), (1, .str b), (4, .raw (.int .i64 o)), (7, .str d)] = some (.agg (clL ⟨a, b, [], 0, o, 0, 0, d⟩)) := by kernel_rfl
theorem bc_016 {a n : Int} {b : List Nat} : buildA TE 47 [(0, .raw (.int .i64 a)), (1, .str b), (6, .raw (.int .i64 n))] = some (.agg (clL ⟨a, b, [], 0, 0, 0, n, []⟩)) := by kernel_rfl
theorem bc_0167 {a n : Int} {b d : List Nat} : buildA TE 47 [(0, .raw (.int .i64 a)), (1, .str b), (6, .raw (.int .i64 n)), (7, .str d)] = some (.agg (clL ⟨a, b, [], 0, 0, 0, n, d⟩)) := by kernel_rfl
theorem bc_017 {a : Int} {b d : List Nat} : buildA TE 47 [(0, .raw (.int .i64 a)), (1, .str b), (7, .str d)] = some (.agg (clL ⟨a, b, [], 0, 0, 0, 0, d⟩)) := by kernel_rfl
theorem bc_03 {a f : Int} : buildA TE 47 [(0, .raw (.int .i64 a)), (3, .raw (.int .i64 f))] = some (.agg (clL ⟨a, [], [], f, 0, 0, 0, []⟩)) := by kernel_rfl
theorem bc_035 {a f n : Int} : buildA TE 47 [(0, .raw (.int .i64 a)), (3, .raw (.int .i64 f)), (5, .raw (.int .i64 n))] = some (.agg (clL ⟨a, [], [], f, 0, n, 0, []⟩)) := by kernel_rfl
theorem bc_0347 {a f o : Int} {d : List Nat} : buildA TE 47 [(0, .raw (.int .i64 a)), (3, .raw (.int .i64 f)), (4, .raw (.int .i64 o)), (7, .str d)] = some (.agg (clL ⟨a, [], [], f, o, 0, 0, d⟩)) := by kernel_rfl
theorem fn_an0 {a b c d : Int} {e : List Nat} {V : AV} : fieldA TE 43 (.agg (anL a b c d e V)) 0 = some (.raw (.int .i64 a)) := by kernel_rfl
theorem fn_an1 {a b c d : Int} {e : List Nat} {V : AV} : fieldA TE 43 (.agg (anL a b c d e V)) 1 = some (.raw (.int .i64 b)) := by kernel_rfl
theorem fn_an4 {a b c d : Int} {e : List Nat} {V : AV} : fieldA TE 43 (.agg (anL a b c d e V)) 4 = some (.str e) := by kernel_rfl
theorem fn_an5 {a b c d : Int} {e : List Nat} {V : AV} : fieldA TE 43 (.agg (anL a b c d e V)) 5 = some V := by kernel_rfl
theorem fa_an0 {x : Nat} : fieldAddrA TE 43 (.ptr x 0) 0 = some (.ptr x 0) := by kernel_rfl
theorem fa_an1 {x : Nat} : fieldAddrA TE 43 (.ptr x 0) 1 = some (.ptr x 1) := by kernel_rfl
theorem fa_an2 {x : Nat} : fieldAddrA TE 43 (.ptr x 0) 2 = some (.ptr x 2) := by kernel_rfl
theorem fa_an3 {x : Nat} : fieldAddrA TE 43 (.ptr x 0) 3 = some (.ptr x 3) := by kernel_rfl
theorem fa_an4 {x : Nat} : fieldAddrA TE 43 (.ptr x 0) 4 = some (.ptr x 4) := by kernel_rfl
theorem fa_an5 {x : Nat} : fieldAddrA TE 43 (.ptr x 0) 5 = some (.ptr x 5) := by kernel_rfl
theorem ldO_an0 {a b c d : Int} {e : List Nat} {V : AV} {t z : Nat} : ldO (some (.cells (anL a b c d e V) t z)) 0 = some (.raw (.int .i64 a)) := (rfl)
theorem ldO_an1 {a b c d : Int} {e : List Nat} {V : AV} {t z : Nat} : ldO (some (.cells (anL a b c d e V) t z)) 1 = some (.raw (.int .i64 b)) := (rfl)
theorem ldO_an2 {a b c d : Int} {e : List Nat} {V : AV} {t z : Nat} : ldO (some (.cells (anL a b c d e V) t z)) 2 = some (.raw (.int .i64 c)) := (rfl)
theorem ldO_an3 {a b c d : Int} {e : List Nat} {V : AV} {t z : Nat} : ldO (some (.cells (anL a b c d e V) t z)) 3 = some (.raw (.int .i64 d)) := (rfl)
theorem ldO_an4 {a b c d : Int} {e : List Nat} {V : AV} {t z : Nat} : ldO (some (.cells (anL a b c d e V) t z)) 4 = some (.str e) := (rfl)
theorem ldO_an5 {a b c d : Int} {e : List Nat} {V : AV} {t z : Nat} : ldO (some (.cells (anL a b c d e V) t z)) 5 = some V := (rfl)
def faceA : AV := .fn 62 [.ptr 13 0]
theorem lmake_c {s : St} (H : Ok TE Tryz.prog pr3) {M : Md} {L : List (Nat × AO)} (hW : WL s M L) {op : Int} {p : List Nat} {a : An} {M' : Md} (h : prM M ⟨op, p, [], 0, 0, 0, 420, [116, 97, 114, 103, 101, 116]⟩ = some (a, M')) {st : Int} (hst : a.status = st) {kr kp : AV → St → Bool} (hk : ∀ s', WL s' M' L → s.nx ≤ s'.nx → kr (.raw (.int .i64 st)) s' = true) :
    (sem Tryz.prog).call 63 [.fn 62 [.ptr 13 0], .raw (.int .i64 op), .str p] s kr kp = true := by
  subst hst
  refine w_call H 13 fn_63 rfl rfl ?_
  repeat (first | with_reducible (refine w_one H ?_; constructor) | simp only [rB, rP, rQ, boolA, intA, resultA, resA, reduceIte, reduceCtorEq, Nat.reduceAdd, Nat.reduceLT, Nat.reduceEqDiff, UInt8.reduceToNat, pe3, pf3, bc_0167])
  refine face1_c H hW h ?_
  intro s1 V w1 l1 hV
  repeat (first | with_reducible (refine w_one H ?_; constructor) | simp only [rB, rP, rQ, boolA, intA, resultA, resA, reduceIte, reduceCtorEq, Nat.reduceAdd, Nat.reduceLT, Nat.reduceEqDiff, UInt8.reduceToNat, pe3, pf3, fn_an0, Tryz.results63])
  exact hk s1 w1 l1
theorem lstatus_c {s : St} (H : Ok TE Tryz.prog pr3) {M : Md} {L : List (Nat × AO)} (hW : WL s M L) {op : Int} {p : List Nat} {a : An} {M' : Md} (h : prM M ⟨op, p, [], 0, 0, 0, 0, []⟩ = some (a, M')) {st : Int} (hst : a.status = st) {kr kp : AV → St → Bool} (hk : ∀ s', WL s' M' L → s.nx ≤ s'.nx → kr (.raw (.int .i64 st)) s' = true) :
    (sem Tryz.prog).call 67 [.fn 62 [.ptr 13 0], .raw (.int .i64 op), .str p] s kr kp = true := by
  subst hst
  refine w_call H 13 fn_67 rfl rfl ?_
  repeat (first | with_reducible (refine w_one H ?_; constructor) | simp only [rB, rP, rQ, boolA, intA, resultA, resA, reduceIte, reduceCtorEq, Nat.reduceAdd, Nat.reduceLT, Nat.reduceEqDiff, UInt8.reduceToNat, pe3, pf3, bc_01])
  refine face1_c H hW h ?_
  intro s1 V w1 l1 hV
  repeat (first | with_reducible (refine w_one H ?_; constructor) | simp only [rB, rP, rQ, boolA, intA, resultA, resA, reduceIte, reduceCtorEq, Nat.reduceAdd, Nat.reduceLT, Nat.reduceEqDiff, UInt8.reduceToNat, pe3, pf3, fn_an0, Tryz.results67])
  exact hk s1 w1 l1
theorem lwrite_c {s : St} (H : Ok TE Tryz.prog pr3) {M : Md} {L : List (Nat × AO)} (hW : WL s M L) {off : Int} {p d : List Nat} {a : An} {M' : Md} (h : prM M ⟨8, p, [], 0, off, 0, 0, d⟩ = some (a, M')) {st : Int} (hst : a.status = st) {kr kp : AV → St → Bool} (hk : ∀ s', WL s' M' L → s.nx ≤ s'.nx → kr (.raw (.int .i64 st)) s' = true) :
    (sem Tryz.prog).call 65 [.fn 62 [.ptr 13 0], .str p, .raw (.int .i64 off), .str d] s kr kp = true := by
  subst hst
  refine w_call H 16 fn_65 rfl rfl ?_
  repeat (first | with_reducible (refine w_one H ?_; constructor) | simp only [rB, rP, rQ, boolA, intA, resultA, resA, reduceIte, reduceCtorEq, Nat.reduceAdd, Nat.reduceLT, Nat.reduceEqDiff, UInt8.reduceToNat, pe3, pf3, bc_0147])
  refine face1_c H hW h ?_
  intro s1 V w1 l1 hV
  repeat (first | with_reducible (refine w_one H ?_; constructor) | simp only [rB, rP, rQ, boolA, intA, resultA, resA, reduceIte, reduceCtorEq, Nat.reduceAdd, Nat.reduceLT, Nat.reduceEqDiff, UInt8.reduceToNat, pe3, pf3, fn_an0, Tryz.results65])
  exact hk s1 w1 l1
theorem lread_c {s : St} (H : Ok TE Tryz.prog pr3) {M : Md} {L : List (Nat × AO)} (hW : WL s M L) {p : List Nat} {a : An} {M' : Md} (h : prM M ⟨2, p, [], 0, 0, 512, 0, []⟩ = some (a, M')) {d : List Nat} (hd : a.data = d) {kr kp : AV → St → Bool} (hk : ∀ s', WL s' M' L → s.nx ≤ s'.nx → kr (.str d) s' = true) :
    (sem Tryz.prog).call 66 [.fn 62 [.ptr 13 0], .str p] s kr kp = true := by
  subst hd
  refine w_call H 10 fn_66 rfl rfl ?_
  repeat (first | with_reducible (refine w_one H ?_; constructor) | simp only [rB, rP, rQ, boolA, intA, resultA, resA, reduceIte, reduceCtorEq, Nat.reduceAdd, Nat.reduceLT, Nat.reduceEqDiff, UInt8.reduceToNat, pe3, pf3, bc_015])
  refine face1_c H hW h ?_
  intro s1 V w1 l1 hV
  repeat (first | with_reducible (refine w_one H ?_; constructor) | simp only [rB, rP, rQ, boolA, intA, resultA, resA, reduceIte, reduceCtorEq, Nat.reduceAdd, Nat.reduceLT, Nat.reduceEqDiff, UInt8.reduceToNat, pe3, pf3, fn_an4, Tryz.results66])
  exact hk s1 w1 l1
theorem lnames_c {s : St} (H : Ok TE Tryz.prog pr3) {M : Md} {L : List (Nat × AO)} (hW : WL s M L) {p : List Nat} {a : An} {M' : Md} (h : prM M ⟨3, p, [], 0, 0, 0, 0, []⟩ = some (a, M')) {ns : List (List Nat)} (hn : a.names = ns) {kr kp : AV → St → Bool} (hk : ∀ s' V, WL s' M' L → s.nx ≤ s'.nx → SlV s' V ns → kr V s' = true) :
    (sem Tryz.prog).call 64 [.fn 62 [.ptr 13 0], .str p] s kr kp = true := by
  subst hn
  refine w_call H 10 fn_64 rfl rfl ?_
  repeat (first | with_reducible (refine w_one H ?_; constructor) | simp only [rB, rP, rQ, boolA, intA, resultA, resA, reduceIte, reduceCtorEq, Nat.reduceAdd, Nat.reduceLT, Nat.reduceEqDiff, UInt8.reduceToNat, pe3, pf3, bc_01])
  refine face1_c H hW h ?_
  intro s1 V w1 l1 hV
  repeat (first | with_reducible (refine w_one H ?_; constructor) | simp only [rB, rP, rQ, boolA, intA, resultA, resA, reduceIte, reduceCtorEq, Nat.reduceAdd, Nat.reduceLT, Nat.reduceEqDiff, UInt8.reduceToNat, pe3, pf3, fn_an5, Tryz.results64])
  exact hk s1 V w1 l1 hV
end Go.AX
namespace Go.AX
open Go.Proofs Go.RowKit
set_option maxRecDepth 1000000
set_option maxHeartbeats 40000000
set_option linter.unusedSimpArgs false

/-! ### Calls, one behind the other -/
def ask (M : Md) (c : Cl) (p : An → Bool) (k : An → Md → Bool) : Bool := match prM M c with
  | some (a, M') => p a && k a M'
  | none => false
theorem ask_inv {M : Md} {c : Cl} {p : An → Bool} {k : An → Md → Bool} (h : ask M c p k = true) : ∃ a M', prM M c = some (a, M') ∧ p a = true ∧ k a M' = true := by
  unfold ask at h
  split at h
  · rename_i a M' e
    rw [Bool.and_eq_true] at h
    exact ⟨a, M', e, h.1, h.2⟩
  · cases h
def st (n : Int) (a : An) : Bool := decide (a.status = n)
def dt (d : List Nat) (a : An) : Bool := eqB a.data d
def nu (n : Int) (a : An) : Bool := decide (a.num = n)
def ki (n : Int) (a : An) : Bool := decide (a.kind = n)
def mo (n : Int) (a : An) : Bool := decide (a.mode = n)
def eqLB : List (List Nat) → List (List Nat) → Bool
  | [], [] => true
  | a :: l, b :: m => eqB a b && eqLB l m
  | _, _ => false
theorem eqLB_of : ∀ {l m : List (List Nat)}, eqLB l m = true → l = m
  | [], [], _ => rfl
  | a :: l, b :: m, h => by
    simp only [eqLB, Bool.and_eq_true] at h
    rw [eqB_iff, decide_eq_true_eq] at h
    rw [h.1, eqLB_of h.2]
  | [], _ :: _, h => by cases h
  | _ :: _, [], h => by cases h
def ns (l : List (List Nat)) (a : An) : Bool := eqLB a.names l
theorem st_of {n : Int} {a : An} (h : st n a = true) : a.status = n := of_decide_eq_true h
theorem dt_of {d : List Nat} {a : An} (h : dt d a = true) : a.data = d := by unfold dt at h; rw [eqB_iff, decide_eq_true_eq] at h; exact h
theorem nu_of {n : Int} {a : An} (h : nu n a = true) : a.num = n := of_decide_eq_true h
theorem ki_of {n : Int} {a : An} (h : ki n a = true) : a.kind = n := of_decide_eq_true h
theorem mo_of {n : Int} {a : An} (h : mo n a = true) : a.mode = n := of_decide_eq_true h
theorem ns_of {l : List (List Nat)} {a : An} (h : ns l a = true) : a.names = l := eqLB_of h
abbrev mkC (op : Int) (p : List Nat) : Cl := ⟨op, p, [], 0, 0, 0, 420, [116, 97, 114, 103, 101, 116]⟩
abbrev qC (op : Int) (p : List Nat) : Cl := ⟨op, p, [], 0, 0, 0, 0, []⟩
abbrev wrC (p : List Nat) (off : Int) (d : List Nat) : Cl := ⟨8, p, [], 0, off, 0, 0, d⟩
abbrev rdC (p : List Nat) : Cl := ⟨2, p, [], 0, 0, 512, 0, []⟩
abbrev rnC (p q : List Nat) : Cl := ⟨13, p, q, 0, 0, 0, 0, []⟩
theorem lface_c {s : St} {M : Md} {L : List (Nat × AO)} (hW : WL s M L) {c : Cl} {a : An} {M' : Md} (h : prM M c = some (a, M')) {kr kp : AV → St → Bool} (hk : ∀ s' V, WL s' M' L → s.nx ≤ s'.nx → SlV s' V a.names → kr (.agg (anL a.status a.num a.kind a.mode a.data V)) s' = true) :
    (sem Tryz.prog).call 62 [.agg (clL c), .ptr 13 0] s kr kp = true := face1_c ok3 hW h hk
/-- A new tree. -/
def M0 : Md := ⟨[⟨1, 493, [], [], none, [], 0⟩], 0, 0, [none, none, none, none, none, none, none, none], 0⟩
end Go.AX
namespace Go.AX
open Go.Proofs Go.RowKit
set_option maxRecDepth 1000000
set_option maxHeartbeats 40000000
set_option linter.unusedSimpArgs false

theorem face_world {s : St} (F : FaceAt 0 s) : WL s M0 [] := by
  refine ⟨F.lt, fun _ => 5, fun _ => 4, ⟨?_, F.g3, ?_, ?_, ?_, ?_, ?_, ?_, rfl, ?_, ?_, ?_⟩, ?_⟩
  · intro k nd h
    have : k = 0 := by have := T_lt h; simp [M0] at this; exact this
    subst this
    cases h
    exact ⟨F.g2, F.g1⟩
  · intro j k hj hk _
    simp [M0] at hj hk
    omega
  · intro j k hj hk _
    simp [M0] at hj hk
    omega
  · intro k nd h q hq
    have : k = 0 := by have := T_lt h; simp [M0] at this; exact this
    subst this
    cases h
    cases hq
  · intro k nd u h hu
    have : k = 0 := by have := T_lt h; simp [M0] at this; exact this
    subst this
    cases h
    cases hu
  · decide
  · decide
  · intro o ho k hk
    simp [M0] at ho
    rw [ho] at hk
    cases hk
  · decide
  · intro k nd h
    have : k = 0 := by have := T_lt h; simp [M0] at this; exact this
    subst this
    cases h
    decide
  · intro q hq
    simp only [fL, List.append_nil, List.mem_cons, List.not_mem_nil, or_false] at hq
    rcases hq with rfl | rfl | rfl
    · refine ⟨F.g6, ?_⟩
      rintro (e | ⟨k, _, e | e⟩)
      · exact absurd (show 13 = 6 from e) (by decide)
      · exact absurd (show 13 = 5 from e) (by decide)
      · exact absurd (show 13 = 4 from e) (by decide)
    · refine ⟨F.g5, ?_⟩
      rintro (e | ⟨k, _, e | e⟩)
      · exact absurd (show 12 = 6 from e) (by decide)
      · exact absurd (show 12 = 5 from e) (by decide)
      · exact absurd (show 12 = 4 from e) (by decide)
    · refine ⟨F.g4, ?_⟩
      rintro (e | ⟨k, _, e | e⟩)
      · exact absurd (show 8 = 6 from e) (by decide)
      · exact absurd (show 8 = 5 from e) (by decide)
      · exact absurd (show 8 = 4 from e) (by decide)
/-- A new face, whatever state it lies in. -/
theorem faceW_c {kr kp : AV → St → Bool} (hk : ∀ s, WL s M0 [] → kr (.fn 62 [.ptr 13 0]) s = true) : (sem Tryz.prog).call 31 [] st0 kr kp = true := face_c (fun s F => hk s (face_world F))
end Go.AX
namespace Go.AX
open Go.Proofs Go.RowKit
set_option maxRecDepth 1000000
set_option maxHeartbeats 40000000
set_option linter.unusedSimpArgs false

/-! ### Texts in a row -/
theorem b_nes {a b : List Nat} : binFast .neq (.str a) (.str b) = some (boolA (!eqB a b)) := (rfl)
theorem same_c {s : St} {A B : AV} {l : List (List Nat)} (hA : SlV s A l) (hB : SlV s B l) (hl : l.length ≤ 1000000) {kr kp : AV → St → Bool} (hk : kr (.raw (.bool true)) s = true) :
    (sem Tryz.prog).call 29 [A, B] s kr kp = true := by
  have H := ok4
  refine w_call H 26 fn_29 rfl rfl ?_
  have la := hA.len
  have lb := hB.len
  have ia := hA.ids
  have ib := hB.ids
  repeat (first | with_reducible (refine w_one H ?_; constructor) | simp only [rB, rP, rQ, boolA, intA, resultA, resA, reduceIte, reduceCtorEq, Nat.reduceAdd, Nat.reduceLT, Nat.reduceEqDiff, UInt8.reduceToNat, pe4, pf4, la, lb, ia, ib, b_nei, bne_self_eq_false])
  refine w_loop_ind H (fun n t s' => ∃ k : Nat, n + k = l.length ∧ s' = s ∧ tg t 0 = A ∧ tg t 1 = B ∧ tg t 5 = .raw (.int .i64 (k : Int))) (n := l.length)
    ⟨0, rfl, rfl, by simp only [rB, rP, rQ, boolA, intA, resultA, resA, reduceIte, reduceCtorEq, Nat.reduceAdd, Nat.reduceLT, Nat.reduceEqDiff, UInt8.reduceToNat], by simp only [rB, rP, rQ, boolA, intA, resultA, resA, reduceIte, reduceCtorEq, Nat.reduceAdd, Nat.reduceLT, Nat.reduceEqDiff, UInt8.reduceToNat], by simp only [rB, rP, rQ, boolA, intA, resultA, resA, reduceIte, reduceCtorEq, Nat.reduceAdd, Nat.reduceLT, Nat.reduceEqDiff, UInt8.reduceToNat]; rfl⟩ ?_
  rintro n t s' ih ⟨k, hn, rfl, t0, t1, t5⟩
  cases n with
  | zero =>
    have g0 : decide ((k : Int) < (l.length : Int)) = false := by rw [decide_eq_false_iff_not]; omega
    repeat (first | with_reducible (refine w_one H ?_; constructor) | simp only [rB, rP, rQ, boolA, intA, resultA, resA, reduceIte, reduceCtorEq, Nat.reduceAdd, Nat.reduceLT, Nat.reduceEqDiff, UInt8.reduceToNat, pe4, pf4, t0, t1, t5, la, lb, ia, ib, b_lt, g0, Tryz.results29])
    exact hk
  | succ n =>
    have hlt : k < l.length := by omega
    have g0 : decide ((k : Int) < (l.length : Int)) = true := by rw [decide_eq_true_eq]; omega
    obtain ⟨i1, o1, x1, y1, ob1, z1⟩ := hA.idx (p := l[k]) (j := k) (List.getElem?_eq_getElem hlt)
    obtain ⟨i2, o2, x2, y2, ob2, z2⟩ := hB.idx (p := l[k]) (j := k) (List.getElem?_eq_getElem hlt)
    have y1' : ldO (s'.h.get i1) o1 = some (.str l[k]) := by rw [← ldC_o]; exact y1
    have y2' : ldO (s'.h.get i2) o2 = some (.str l[k]) := by rw [← ldC_o]; exact y2
    have w1 : ∀ b, inO (s'.h.get i1) b = b := fun b => by rw [z1]; rfl
    have w2 : ∀ b, inO (s'.h.get i2) b = b := fun b => by rw [z2]; rfl
    have ew : IntKind.i64.wrap ((k : Int) + 1) = ((k + 1 : Nat) : Int) := by
      rw [show (k : Int) + 1 = ((k + 1 : Nat) : Int) from by simp]
      exact wrap_nat (by omega)
    generalize l[k] = nm at *
    repeat (first | with_reducible (refine w_one H ?_; constructor) | simp only [rB, rP, rQ, boolA, intA, resultA, resA, reduceIte, reduceCtorEq, Nat.reduceAdd, Nat.reduceLT, Nat.reduceEqDiff, UInt8.reduceToNat, pe4, pf4, t0, t1, t5, la, lb, ia, ib, b_lt, g0, x1, x2, y1', y2', w1, w2, ld_9, b_nes, eqB_self, b_plus, ew] | (with_reducible refine w_plan H (i := 6) (.take 0 (.take 1 (.take 2 (.take 3 (.take 4 (.take 5 (.take 6 (.take 7 (.take 8 (.done)))))))))) rfl (by kernel_rfl) ?_))
    exact ih n _ _ (by omega) ⟨k + 1, by omega, rfl, by simp only [rB, rP, rQ, boolA, intA, resultA, resA, reduceIte, reduceCtorEq, Nat.reduceAdd, Nat.reduceLT, Nat.reduceEqDiff, UInt8.reduceToNat, t0], by simp only [rB, rP, rQ, boolA, intA, resultA, resA, reduceIte, reduceCtorEq, Nat.reduceAdd, Nat.reduceLT, Nat.reduceEqDiff, UInt8.reduceToNat, t1], by simp only [rB, rP, rQ, boolA, intA, resultA, resA, reduceIte, reduceCtorEq, Nat.reduceAdd, Nat.reduceLT, Nat.reduceEqDiff, UInt8.reduceToNat]⟩
theorem bs_2 {s : St} {a b : List Nat} : buildSliceA TE s 41 2 [(0, .str a), (1, .str b)] = some (.slice s.nx 0 2 0 2 true, s.alloc (.cells [.str a, .str b] 9 0)) := by kernel_rfl
theorem bs_3 {s : St} {a b c : List Nat} : buildSliceA TE s 41 3 [(0, .str a), (1, .str b), (2, .str c)] = some (.slice s.nx 0 3 0 3 true, s.alloc (.cells [.str a, .str b, .str c] 9 0)) := by kernel_rfl
theorem bs_4 {s : St} {a b c d : List Nat} : buildSliceA TE s 41 4 [(0, .str a), (1, .str b), (2, .str c), (3, .str d)] = some (.slice s.nx 0 4 0 4 true, s.alloc (.cells [.str a, .str b, .str c, .str d] 9 0)) := by kernel_rfl
theorem ix_s4 {q r : Nat} (h : r ≤ 3) : indexAddrA TE 41 (.slice q 0 4 0 4 true) (.raw (.int .i64 (r : Int))) = some (.ptr q r) := by
  have e : indexAddrA TE 41 (.slice q 0 4 0 4 true) (.raw (.int .i64 (r : Int))) = (bif Nat.blt r 4 then some (.ptr q (0 + r * 1)) else none) := by kernel_rfl
  rw [e, Nat.blt_eq.mpr (by omega : r < 4), Nat.mul_one, Nat.zero_add]
  rfl
def nth4 (a b c d : List Nat) : Nat → List Nat
  | 0 => a
  | 1 => b
  | 2 => c
  | _ => d
theorem ld_s4 {r t z : Nat} {a b c d : List Nat} (h : r ≤ 3) : ldO (some (.cells [.str a, .str b, .str c, .str d] t z)) r = some (.str (nth4 a b c d r)) := by
  have hh : r = 0 ∨ r = 1 ∨ r = 2 ∨ r = 3 := by omega
  rcases hh with rfl | rfl | rfl | rfl <;> rfl
theorem slv_2 {s : St} {a b : List Nat} : SlV (s.alloc (.cells [.str a, .str b] 9 0)) (.slice s.nx 0 2 0 2 true) [a, b] := Or.inr (Or.inr ⟨s.nx, 0, 0, 2, true, [.str a, .str b], 0, rfl, al_same, by simp, rfl, by simp⟩)
theorem slv_3 {s : St} {a b c : List Nat} : SlV (s.alloc (.cells [.str a, .str b, .str c] 9 0)) (.slice s.nx 0 3 0 3 true) [a, b, c] := Or.inr (Or.inr ⟨s.nx, 0, 0, 3, true, [.str a, .str b, .str c], 0, rfl, al_same, by simp, rfl, by simp⟩)
theorem WL.ne {s : St} {M : Md} {L : List (Nat × AO)} (h : WL s M L) {q : Nat × AO} (hq : q ∈ L) : (q.1 = s.nx) = False := by
  have := h.lt hq
  simp only [eq_iff_iff, iff_false]
  omega
theorem WL.ne0 {s : St} {M : Md} {L : List (Nat × AO)} {i : Nat} {o : AO} (h : WL s M ((i, o) :: L)) : (i = s.nx) = False := h.ne (q := (i, o)) (List.mem_cons_self ..)
theorem WL.ne1 {s : St} {M : Md} {L : List (Nat × AO)} {q : Nat × AO} {i : Nat} {o : AO} (h : WL s M (q :: (i, o) :: L)) : (i = s.nx) = False := h.ne (q := (i, o)) (List.mem_cons_of_mem _ (List.mem_cons_self ..))
theorem WL.ne2 {s : St} {M : Md} {L : List (Nat × AO)} {q r : Nat × AO} {i : Nat} {o : AO} (h : WL s M (q :: r :: (i, o) :: L)) : (i = s.nx) = False := h.ne (q := (i, o)) (List.mem_cons_of_mem _ (List.mem_cons_of_mem _ (List.mem_cons_self ..)))
theorem WL.ne3 {s : St} {M : Md} {L : List (Nat × AO)} {q r t : Nat × AO} {i : Nat} {o : AO} (h : WL s M (q :: r :: t :: (i, o) :: L)) : (i = s.nx) = False := h.ne (q := (i, o)) (List.mem_cons_of_mem _ (List.mem_cons_of_mem _ (List.mem_cons_of_mem _ (List.mem_cons_self ..))))
theorem la_cons {a : Oper} {l m : List Oper} : List.append (a :: l) m = a :: List.append l m := (rfl)
theorem la_nil {m : List Oper} : List.append [] m = m := (rfl)
theorem an_g0 {a b c d : Int} {e : List Nat} {V : AV} : (anL a b c d e V)[0]? = some (.raw (.int .i64 a)) := (rfl)
theorem an_g1 {a b c d : Int} {e : List Nat} {V : AV} : (anL a b c d e V)[1]? = some (.raw (.int .i64 b)) := (rfl)
theorem an_g2 {a b c d : Int} {e : List Nat} {V : AV} : (anL a b c d e V)[2]? = some (.raw (.int .i64 c)) := (rfl)
theorem an_g3 {a b c d : Int} {e : List Nat} {V : AV} : (anL a b c d e V)[3]? = some (.raw (.int .i64 d)) := (rfl)
theorem an_g4 {a b c d : Int} {e : List Nat} {V : AV} : (anL a b c d e V)[4]? = some (.str e) := (rfl)
theorem an_g5 {a b c d : Int} {e : List Nat} {V : AV} : (anL a b c d e V)[5]? = some V := (rfl)
end Go.AX
namespace Go.AX
open Go.Proofs Go.RowKit
set_option maxRecDepth 1000000
set_option maxHeartbeats 40000000
set_option linter.unusedSimpArgs false

/-! ### A uint as an int -/
def toI : AV → AV
  | .raw (.int _ z) => .raw (.int .i64 (IntKind.i64.wrap z))
  | v => v
theorem toI_int {k : IntKind} {z : Int} : toI (.raw (.int k z)) = .raw (.int .i64 (IntKind.i64.wrap z)) := (rfl)
theorem run_cvi {z : Int} : pureRun TE.P (do pure (Next.value (← convert 45 3 (.int .u64 z)))) = some (.value (.int .i64 (IntKind.i64.wrap z))) := by kernel_rfl
theorem tx_cvi {s : St} {z : Int} : textA TE s 45 3 (.raw (.int .u64 z)) = none := by kernel_rfl
theorem o_cvi {pr : Prims} {r : Tasks} {rd : Option Nat} {a : Ac} {s : St} {dst : Option Tmp} {x : Operand} {ty : TypeId} {pos : String} {after : Array Edge} {k : Ac → St → Bool} {kp : AV → St → Bool} (h : isU64 (a.eval x) = true) :
    evOp TE pr r rd ⟨dst, .convert 45 3 x, ty, pos, after, none⟩ a s k kp = putK a dst (toI (a.eval x)) s k := by
  obtain ⟨z, hz⟩ := isU64_of h
  have h1 : valAt a x = .int .u64 z := by simp [valAt, hz, toVal]
  have hall : (Op.operands (.convert 45 3 x)).toList.all (fun x => (toVal (a.eval x)).isSome) = true := by
    show (List.all [x] (fun x => (toVal (a.eval x)).isSome)) = true
    simp [hz, toVal]
  have hr : pureRun TE.P (execOp (valAt a) ⟨dst, .convert 45 3 x, ty, pos, after, none⟩) = some (.value (.int .i64 (IntKind.i64.wrap z))) := by
    have he : execOp (valAt a) ⟨dst, .convert 45 3 x, ty, pos, after, none⟩ = (do pure (Next.value (← convert 45 3 (.int .u64 z)))) := by
      simp only [execOp, h1]
    rw [he]
    exact run_cvi
  have hp : stepPure TE a ⟨dst, .convert 45 3 x, ty, pos, after, none⟩ = some (.raw (.int .i64 (IntKind.i64.wrap z)), []) := by
    simp only [stepPure, hall, cond_true, hr]
    rfl
  have hs : stepP TE a s ⟨dst, .convert 45 3 x, ty, pos, after, none⟩ = some (.raw (.int .i64 (IntKind.i64.wrap z)), []) := by
    simp only [stepP, hz, tx_cvi, hp]
  show plainOp TE ⟨dst, .convert 45 3 x, ty, pos, after, none⟩ a s k = _
  rw [plain_some hs, hz]
  rfl
end Go.AX
namespace Go.AX
open Go.Proofs Go.RowKit
set_option maxRecDepth 1000000
set_option maxHeartbeats 40000000
set_option linter.unusedSimpArgs false

/-! ### Bytes that a law holds -/
def toB : AV → AV
  | .raw (.int _ z) => .raw (.int .u8 (IntKind.u8.wrap z))
  | v => v
theorem toB_int {k : IntKind} {z : Int} : toB (.raw (.int k z)) = .raw (.int .u8 (IntKind.u8.wrap z)) := (rfl)
theorem run_cvb {z : Int} : pureRun TE.P (do pure (Next.value (← convert 3 5 (.int .i64 z)))) = some (.value (.int .u8 (IntKind.u8.wrap z))) := by kernel_rfl
theorem tx_cvb {s : St} {z : Int} : textA TE s 3 5 (.raw (.int .i64 z)) = none := by kernel_rfl
theorem o_cvb {pr : Prims} {r : Tasks} {rd : Option Nat} {a : Ac} {s : St} {dst : Option Tmp} {x : Operand} {ty : TypeId} {pos : String} {after : Array Edge} {k : Ac → St → Bool} {kp : AV → St → Bool} (h : isI64 (a.eval x) = true) :
    evOp TE pr r rd ⟨dst, .convert 3 5 x, ty, pos, after, none⟩ a s k kp = putK a dst (toB (a.eval x)) s k := by
  obtain ⟨z, hz⟩ := isI64_of h
  have h1 : valAt a x = .int .i64 z := by simp [valAt, hz, toVal]
  have hall : (Op.operands (.convert 3 5 x)).toList.all (fun x => (toVal (a.eval x)).isSome) = true := by
    show (List.all [x] (fun x => (toVal (a.eval x)).isSome)) = true
    simp [hz, toVal]
  have hr : pureRun TE.P (execOp (valAt a) ⟨dst, .convert 3 5 x, ty, pos, after, none⟩) = some (.value (.int .u8 (IntKind.u8.wrap z))) := by
    have he : execOp (valAt a) ⟨dst, .convert 3 5 x, ty, pos, after, none⟩ = (do pure (Next.value (← convert 3 5 (.int .i64 z)))) := by
      simp only [execOp, h1]
    rw [he]
    exact run_cvb
  have hp : stepPure TE a ⟨dst, .convert 3 5 x, ty, pos, after, none⟩ = some (.raw (.int .u8 (IntKind.u8.wrap z)), []) := by
    simp only [stepPure, hall, cond_true, hr]
    rfl
  have hs : stepP TE a s ⟨dst, .convert 3 5 x, ty, pos, after, none⟩ = some (.raw (.int .u8 (IntKind.u8.wrap z)), []) := by
    simp only [stepP, hz, tx_cvb, hp]
  show plainOp TE ⟨dst, .convert 3 5 x, ty, pos, after, none⟩ a s k = _
  rw [plain_some hs, hz]
  rfl
theorem wrap_b {n : Nat} (h : n < 256) : IntKind.u8.wrap (n : Int) = (n : Int) := by
  show (n : Int) % 256 = (n : Int)
  omega
theorem WL.set {s : St} {M : Md} {L : List (Nat × AO)} {a : Nat} {o : AO} (h : WL s M ((a, o) :: L)) (hne : ∀ q ∈ L, q.1 ≠ a) (hf : 14 ≤ a) (o' : AO) : WL { s with h := s.h.set a o' } M ((a, o') :: L) :=
  WL.mid (World.set (WL.out h) (fun q hq => by
    rcases List.mem_append.mp hq with hq | hq
    · have := fL_lt q hq
      omega
    · exact hne q hq) o')
theorem mk_sl {s : St} {n : Nat} (h : n ≤ 1000) : makeSliceA TE s 65 (.raw (.int .i64 (n : Int))) (.raw (.int .i64 (n : Int))) = some (.slice s.nx 0 n 0 n true, s.alloc (.cells (repL [.raw (.int .u8 0)] n) 5 0)) := by
  have e : makeSliceA TE s 65 (.raw (.int .i64 (n : Int))) (.raw (.int .i64 (n : Int))) = (bif (Nat.ble n n && Nat.ble (n * 1) 1048576 && Nat.ble n 1048576) && true then some (.slice s.nx 0 n 0 n true, s.alloc (.cells (repL [.raw (.int .u8 0)] n) 5 0)) else none) := by kernel_rfl
  rw [e, Nat.mul_one, Nat.ble_eq.mpr (Nat.le_refl n), Nat.ble_eq.mpr (by omega : n ≤ 1048576)]
  rfl
theorem ix_b {q i n : Nat} (h : i < n) : indexAddrA TE 65 (.slice q 0 n 0 n true) (.raw (.int .i64 (i : Int))) = some (.ptr q i) := by
  have e : indexAddrA TE 65 (.slice q 0 n 0 n true) (.raw (.int .i64 (i : Int))) = (bif Nat.blt i n then some (.ptr q (0 + i * 1)) else none) := by kernel_rfl
  rw [e, Nat.blt_eq.mpr h, Nat.mul_one, Nat.zero_add]
  rfl
theorem repL_b : ∀ {n : Nat}, repL [.raw (.int .u8 0)] n = cellsOfStr (List.replicate n 0)
  | 0 => rfl
  | n + 1 => by
    show [AV.raw (.int .u8 0)] ++ repL [.raw (.int .u8 0)] n = _
    rw [repL_b (n := n)]
    rfl
theorem cutL_all {l : List AV} : cutL 0 l.length l = some l := by
  rw [cutL_eq (by omega)]
  simp
theorem bytesL_of : ∀ {b : List Nat}, (∀ x ∈ b, x < 256) → bytesL (cellsOfStr b) = some b
  | [], _ => rfl
  | x :: l, h => by
    show (bif Nat.blt x 256 then (match bytesL (cellsOfStr l) with | some r => some (x :: r) | none => none) else none) = _
    rw [Nat.blt_eq.mpr (h x (List.mem_cons_self ..)), bytesL_of (fun y hy => h y (List.mem_cons_of_mem _ hy))]
    rfl
theorem cells_len {b : List Nat} : (cellsOfStr b).length = b.length := by simp [cellsOfStr]
theorem tx_b {s : St} {q t z n : Nat} {b : List Nat} (hb : ∀ x ∈ b, x < 256) (hn : b.length = n) (h : s.h.get q = some (.cells (cellsOfStr b) t z)) : textA TE s 65 9 (.slice q 0 n 0 n true) = some (.str b, [q]) := by
  have e : textA TE s 65 9 (.slice q 0 n 0 n true) = (match bytesOfA s q 0 n with | some b => some (.str b, [q]) | none => none) := by kernel_rfl
  rw [e]
  have : bytesOfA s q 0 n = some b := by
    unfold bytesOfA getCells
    rw [h]
    simp only
    rw [← hn, ← cells_len, cutL_all]
    exact bytesL_of hb
  rw [this]
theorem sp_tx {a : Ac} {s : St} {dst : Option Tmp} {x : Operand} {ty : TypeId} {pos : String} {after : Array Edge} {v : AV} {ids : List Nat} (h : textA TE s 65 9 (a.eval x) = some (v, ids)) :
    stepP TE a s ⟨dst, .convert 65 9 x, ty, pos, after, none⟩ = readR ids (some v) := by
  simp only [stepP, h]
  rfl
def txO (o d : Option (AV × List Nat)) : Option (AV × List Nat) := match o with
  | some (v, ids) => readR ids (some v)
  | none => d
theorem txO_some {v : AV} {ids : List Nat} {d : Option (AV × List Nat)} : txO (some (v, ids)) d = readR ids (some v) := (rfl)
theorem sp_txo {a : Ac} {s : St} {dst : Option Tmp} {x : Operand} {ty : TypeId} {pos : String} {after : Array Edge} :
    stepP TE a s ⟨dst, .convert 65 9 x, ty, pos, after, none⟩ = txO (textA TE s 65 9 (a.eval x)) (stepPure TE a ⟨dst, .convert 65 9 x, ty, pos, after, none⟩) := by
  simp only [stepP]
  cases textA TE s 65 9 (a.eval x) <;> rfl
theorem ba_u8 {z : Int} : beqA (.raw (.int .u8 z)) (.raw (.int .u8 z)) = true := ba_int
theorem beqAs_b : ∀ {b : List Nat}, beqAs (cellsOfStr b) (cellsOfStr b) = true
  | [] => rfl
  | x :: l => by
    show (beqA (.raw (.int .u8 (.ofNat x))) (.raw (.int .u8 (.ofNat x))) && beqAs (cellsOfStr l) (cellsOfStr l)) = true
    rw [ba_u8, beqAs_b]
    rfl
theorem put_b {b b' : List Nat} {i x : Nat} (hi : i < b.length) (e : b.take i ++ [x] ++ b.drop (i + 1) = b') : putL (cellsOfStr b) i [.raw (.int .u8 (x : Int))] = some (cellsOfStr b') := by
  rw [putL_app (by simp only [List.length_cons, List.length_nil, cells_len]; omega), ← e]
  simp [cellsOfStr, List.map_take, List.map_drop]
end Go.AX
namespace Go.AX
open Go.Proofs Go.RowKit
set_option maxRecDepth 1000000
set_option maxHeartbeats 40000000
set_option linter.unusedSimpArgs false

/-! ### Texts that a law puts in a row -/
theorem app_nil {s : St} {X : AV} {x : List Nat} (h : SlV s X [x]) : appendA TE s [41, 41] [.raw (.slice none 0 0), X] = some (.slice s.nx 0 1 0 1 false, s.alloc (.cells [.str x] 9 2)) := by
  obtain ⟨h1, h2⟩ := h.first
  rw [app_eq]
  simp only [h2, h1, List.length_map, Nat.mul_one, nb_self, all_one, Bool.and_self, cond_true, growA]
  rfl
theorem app_ex {s : St} {X : AV} {x : List Nat} {id n fz : Nat} {cs : List AV} (h : SlV s X [x]) (hg : s.h.get id = some (.cells cs 9 fz)) (hn : cs.length = n) (hb : n ≤ 1000) :
    appendA TE s [41, 41] [.slice id 0 n 0 n true, X] = some (.slice s.nx 0 (n + 1) 0 (n + 1) false, s.alloc (.cells (cs ++ [.str x]) 9 2)) := by
  obtain ⟨h1, h2⟩ := h.first
  rw [app_eq]
  have e1 : Nat.ble (n + [x].length) n = false := by
    cases hb : Nat.ble (n + [x].length) n with
    | false => rfl
    | true => have := Nat.ble_eq.mp hb; simp at this; omega
  have e2 : cutL 0 n cs = some cs := by rw [← hn]; exact cutL_all
  have e3 : Nat.ble ((n + [x].length) * 16) 1048576 = true := Nat.ble_eq.mpr (by simp; omega)
  have e4 : Nat.ble (n + [x].length) 1048576 = true := Nat.ble_eq.mpr (by simp; omega)
  simp only [h2, h1, List.length_map, Nat.mul_one, nb_self, all_one, Bool.and_self, cond_true, growA, gc_of hg, e1, cond_false, e2, e3, e4]
  rfl
theorem app_gr {s : St} {X : AV} {x : List Nat} {id n : Nat} {cs : List AV} (h : SlV s X [x]) (hg : s.h.get id = some (.cells cs 9 2)) (hn : cs.length = n) (hb : n ≤ 1000) :
    appendA TE s [41, 41] [.slice id 0 n 0 n false, X] = some (.slice s.nx 0 (n + 1) 0 (n + 1) false, { h := (s.h.del id).set s.nx (.cells (cs ++ [.str x]) 9 2), nx := s.nx + 1 }) := by
  obtain ⟨h1, h2⟩ := h.first
  rw [app_eq]
  have e1 : Nat.ble (n + [x].length) n = false := by
    cases hb : Nat.ble (n + [x].length) n with
    | false => rfl
    | true => have := Nat.ble_eq.mp hb; simp at this; omega
  have e2 : cutL 0 n cs = some cs := by rw [← hn]; exact cutL_all
  have e3 : Nat.ble ((n + [x].length) * 16) 1048576 = true := Nat.ble_eq.mpr (by simp; omega)
  have e4 : Nat.ble (n + [x].length) 1048576 = true := Nat.ble_eq.mpr (by simp; omega)
  simp only [h2, h1, List.length_map, Nat.mul_one, nb_self, all_one, Bool.and_self, cond_true, growA, gc_of hg, e1, cond_false, e2, e3, e4]
  rfl
theorem World.del {s : St} {x : Nat} {M : Md} {L : List (Nat × AO)} {a : Nat} {o : AO} (h : World s x M ((a, o) :: L)) (hne : ∀ q ∈ L, q.1 ≠ a) (o' : AO) : World { h := (s.h.del a).set s.nx o', nx := s.nx + 1 } x M ((s.nx, o') :: L) := by
  obtain ⟨hB, ι, μ, R, hL⟩ := h
  obtain ⟨ha, hno⟩ := hL (a, o) (List.mem_cons_self ..)
  have hno : ¬ Own x M ι μ a := hno
  have f : ∀ i, i ≠ a → i < s.nx → ((s.h.del a).set s.nx o').get i = s.h.get i := fun i hi hl => by
    rw [Tr.get_set, if_neg (by omega), Tr.get_del, if_neg hi]
  have hx : x ≠ a := fun e => hno (Or.inl e.symm)
  have hi : ∀ k, k < M.nodes.length → ι k ≠ a := fun k hk e => hno (Or.inr ⟨k, hk, Or.inl e.symm⟩)
  have hm : ∀ k, k < M.nodes.length → μ k ≠ a := fun k hk e => hno (Or.inr ⟨k, hk, Or.inr e.symm⟩)
  refine ⟨?_, ι, μ, ?_, ?_⟩
  · intro i o1 h1
    show i < s.nx + 1
    simp only [Tr.get_set, Tr.get_del] at h1
    by_cases e : i = s.nx
    · omega
    · rw [if_neg e] at h1
      by_cases e2 : i = a
      · rw [if_pos e2] at h1
        cases h1
      · rw [if_neg e2] at h1
        have := hB _ _ h1
        omega
  · exact ⟨fun k nd hk => ⟨(f _ (hi _ (T_lt hk)) (R.li hB (T_lt hk))).trans (R.nd k nd hk).1, (f _ (hm _ (T_lt hk)) (R.lm hB (T_lt hk))).trans (R.nd k nd hk).2⟩, (f _ hx (R.lx hB)).trans R.tr, R.ij, R.mj, R.kd, R.up, R.rt, R.cw, R.f8, R.fd, R.mn, R.da⟩
  · intro q hq
    simp only [List.mem_cons] at hq
    rcases hq with rfl | hq
    · refine ⟨by show ((s.h.del a).set s.nx o').get s.nx = some o'; rw [Tr.get_set, if_pos rfl], ?_⟩
      rintro (e | ⟨k, hk, e | e⟩)
      · have := R.lx hB
        simp only at e
        omega
      · have := R.li hB hk
        simp only at e
        omega
      · have := R.lm hB hk
        simp only at e
        omega
    · obtain ⟨h1, h2⟩ := hL q (List.mem_cons_of_mem _ hq)
      exact ⟨(f _ (hne q hq) (hB _ _ h1)).trans h1, h2⟩
theorem WL.del {s : St} {M : Md} {L : List (Nat × AO)} {a : Nat} {o : AO} (h : WL s M ((a, o) :: L)) (hne : ∀ q ∈ L, q.1 ≠ a) (hf : 14 ≤ a) (o' : AO) : WL { h := (s.h.del a).set s.nx o', nx := s.nx + 1 } M ((s.nx, o') :: L) :=
  WL.mid (World.del (WL.out h) (fun q hq => by
    rcases List.mem_append.mp hq with hq | hq
    · have := fL_lt q hq
      omega
    · exact hne q hq) o')
theorem hd_get {h : Tr AO} {i j : Nat} : (h.del i).get j = if j = i then none else h.get j := by rw [Tr.get_del]
theorem bs_1 {s : St} {a : List Nat} : buildSliceA TE s 41 1 [(0, .str a)] = some (.slice s.nx 0 1 0 1 true, s.alloc (.cells [.str a] 9 0)) := by kernel_rfl
theorem slv_1 {s : St} {a : List Nat} : SlV (s.alloc (.cells [.str a] 9 0)) (.slice s.nx 0 1 0 1 true) [a] := Or.inr (Or.inr ⟨s.nx, 0, 0, 1, true, [.str a], 0, rfl, al_same, by simp, rfl, by simp⟩)
theorem ix_t {q i n : Nat} {ex : Bool} (h : i < n) : indexAddrA TE 41 (.slice q 0 n 0 n ex) (.raw (.int .i64 (i : Int))) = some (.ptr q i) := by
  have e : indexAddrA TE 41 (.slice q 0 n 0 n ex) (.raw (.int .i64 (i : Int))) = (bif Nat.blt i n then some (.ptr q (0 + i * 1)) else none) := by kernel_rfl
  rw [e, Nat.blt_eq.mpr h, Nat.mul_one, Nat.zero_add]
  rfl
end Go.AX
namespace Go.AX
open Go.Proofs Go.RowKit
set_option maxRecDepth 1000000
set_option maxHeartbeats 40000000
set_option linter.unusedSimpArgs false

/-! ### Products, pieces of texts, answers that are the same -/
def mulA : AV → AV → Option (AV × List Nat)
  | .raw (.int .i64 x), .raw (.int .i64 y) => some (.raw (.int .i64 (IntKind.i64.wrap (x * y))), [])
  | _, _ => none
theorem mulA_int {x y : Int} : mulA (.raw (.int .i64 x)) (.raw (.int .i64 y)) = some (.raw (.int .i64 (IntKind.i64.wrap (x * y))), []) := (rfl)
theorem b_mul {v w : AV} : binFast .mul v w = none := by
  unfold binFast
  split
  · split <;> rfl
  · rfl
  · rfl
theorem eqS_mul {s : St} {t : TypeId} {x y : AV} {d : Option (AV × List Nat)} : eqS TE s .mul t x y d = d := (rfl)
theorem mul_eq {e : Env} {a : Ac} {dst : Option Tmp} {x y : Operand} {t t' ty : TypeId} {pos : String} {after : Array Edge} (hx : isI64 (a.eval x) = true) (hy : isI64 (a.eval y) = true) :
    stepPure e a ⟨dst, .binOp .mul t x y t', ty, pos, after, none⟩ = mulA (a.eval x) (a.eval y) := by
  obtain ⟨u, hx⟩ := isI64_of hx
  obtain ⟨v, hy⟩ := isI64_of hy
  have h1 : valAt a x = .int .i64 u := by simp [valAt, hx, toVal]
  have h2 : valAt a y = .int .i64 v := by simp [valAt, hy, toVal]
  have hall : (Op.operands (.binOp .mul t x y t')).toList.all (fun x => (toVal (a.eval x)).isSome) = true := by
    show (List.all [x, y] (fun x => (toVal (a.eval x)).isSome)) = true
    simp [hx, hy, toVal]
  simp only [stepPure, hall, cond_true]
  have hr : pureRun e.P (execOp (valAt a) ⟨dst, .binOp .mul t x y t', ty, pos, after, none⟩) = some (.value (.int .i64 (IntKind.i64.wrap (u * v)))) := by
    have : execOp (valAt a) ⟨dst, .binOp .mul t x y t', ty, pos, after, none⟩ = .pure (.value (.int .i64 (IntKind.i64.wrap (u * v)))) := by
      simp only [execOp, h1, h2]
      rfl
    rw [this]; rfl
  rw [hr, hx, hy]
  rfl
theorem sl_to {b : List Nat} {j : Nat} (h : j ≤ b.length) : sliceOpA TE 9 (.str b) none (some (.raw (.int .i64 (j : Int)))) none = some (.str (b.take j)) := by
  rw [sl_str, sb_hi (i := j) rfl h]
  simp
def dpL : Nat → List Nat
  | 0 => []
  | n + 1 => dpL n ++ [47, 100]
theorem dp_len : ∀ {n : Nat}, (dpL n).length = 2 * n
  | 0 => rfl
  | n + 1 => by simp [dpL, dp_len (n := n)]; omega
theorem dp_take {i : Nat} : ∀ {n : Nat}, i ≤ n → (dpL n).take (2 * i) = dpL i
  | 0, h => by
    have : i = 0 := by omega
    subst this
    rfl
  | n + 1, h => by
    by_cases e : i = n + 1
    · subst e
      exact List.take_of_length_le (by rw [dp_len]; omega)
    · show (dpL n ++ [47, 100]).take (2 * i) = _
      rw [List.take_append_of_le_length (by rw [dp_len]; omega)]
      exact dp_take (by omega)
theorem o_txt {pr : Prims} {r : Tasks} {rd : Option Nat} {a : Ac} {s : St} {dst : Option Tmp} {x : Operand} {ty : TypeId} {pos : String} {after : Array Edge} {k : Ac → St → Bool} {kp : AV → St → Bool} :
    evOp TE pr r rd ⟨dst, .convert 65 9 x, ty, pos, after, none⟩ a s k kp = plainOp TE ⟨dst, .convert 65 9 x, ty, pos, after, none⟩ a s k := (rfl)
def plO (o : Option (AV × List Nat)) (d : Bool) (a : Ac) (dst : Option Tmp) (s : St) (k : Ac → St → Bool) : Bool := match o with
  | some (v, ids) => bif idsIn s ids then putK a dst v s k else false
  | none => d
theorem pl_txt {a : Ac} {s : St} {dst : Option Tmp} {x : Operand} {ty : TypeId} {pos : String} {after : Array Edge} {k : Ac → St → Bool} {v : AV} {ids : List Nat} (h : textA TE s 65 9 (a.eval x) = some (v, ids)) (hi : idsIn s ids = true) :
    plainOp TE ⟨dst, .convert 65 9 x, ty, pos, after, none⟩ a s k = putK a dst v s k := by
  have hs : stepP TE a s ⟨dst, .convert 65 9 x, ty, pos, after, none⟩ = some (v, ids) := by simp only [stepP, h]
  unfold plainOp
  rw [hs]
  simp only [hi, cond_true]
theorem agg_cells {l : List AV} : (AV.agg l).cells = l := (rfl)
theorem same0_c {s : St} {A B : AV} (la : ∀ s', lenOpA TE s' [41] [A] = some (.raw (.int .i64 0))) (ia : idsOf A = []) (lb : ∀ s', lenOpA TE s' [41] [B] = some (.raw (.int .i64 0))) (ib : idsOf B = []) {kr kp : AV → St → Bool} (hk : kr (.raw (.bool true)) s = true) :
    (sem Tryz.prog).call 29 [A, B] s kr kp = true := by
  have H := ok4
  refine w_call H 26 fn_29 rfl rfl ?_
  have g0 : decide ((0 : Int) < 0) = false := rfl
  repeat (first | with_reducible (refine w_one H ?_; constructor) | simp only [rB, rP, rQ, boolA, intA, resultA, resA, reduceIte, reduceCtorEq, Nat.reduceAdd, Nat.reduceLT, Nat.reduceEqDiff, UInt8.reduceToNat, pe4, pf4, la, lb, ia, ib, b_nei, bne_self_eq_false, b_lt, g0, Tryz.results29] | (with_reducible refine w_loop H ?_))
  exact hk
theorem sameA_c {s : St} (hB : Below0 s) {a0 a1 a2 a3 : Int} {a4 : List Nat} {A B : AV} (la : ∀ s', lenOpA TE s' [41] [A] = some (.raw (.int .i64 0))) (ia : idsOf A = []) (lb : ∀ s', lenOpA TE s' [41] [B] = some (.raw (.int .i64 0))) (ib : idsOf B = []) {kr kp : AV → St → Bool} (hk : ∀ s', Ext s s' → Below0 s' → kr (.raw (.bool true)) s' = true) :
    (sem Tryz.prog).call 68 [.agg (anL a0 a1 a2 a3 a4 A), .agg (anL a0 a1 a2 a3 a4 B)] s kr kp = true := by
  have H := ok4
  refine w_call H 45 fn_68 rfl rfl ?_
  have m1 : (s.nx = s.nx + 1) = False := by simp
  have m2 : (s.nx + 1 = s.nx) = False := by simp
  repeat (first | with_reducible (refine w_one H ?_; constructor) | simp only [rB, rP, rQ, boolA, intA, resultA, resA, reduceIte, reduceCtorEq, Nat.reduceAdd, Nat.reduceLT, Nat.reduceEqDiff, UInt8.reduceToNat, pe4, pf4, b_eqi, b_eqs, eqB_self, beq_self_eq_true, agg_cells, m1, m2, fa_an0, fa_an1, fa_an2, fa_an3, fa_an4, fa_an5, an_g0, an_g1, an_g2, an_g3, an_g4, an_g5, ld_3, ld_9, ld_41])
  have hE : Ext s ((s.alloc (.cells (anL a0 a1 a2 a3 a4 A) 43 0)).alloc (.cells (anL a0 a1 a2 a3 a4 B) 43 0)) := (Ext.alloc s _).trans (Ext.alloc _ _)
  refine same0_c la ia lb ib ?_
  repeat (first | with_reducible (refine w_one H ?_; constructor) | simp only [rB, rP, rQ, boolA, intA, resultA, resA, reduceIte, reduceCtorEq, Nat.reduceAdd, Nat.reduceLT, Nat.reduceEqDiff, UInt8.reduceToNat, pe4, pf4, Tryz.results68])
  exact hk _ hE (below_alloc (below_alloc hB _) _)
theorem SlV.beq {s : St} {V : AV} {names : List (List Nat)} (h : SlV s V names) : beqA V V = true := by
  rcases h with ⟨rfl, rfl⟩ | ⟨id, off, ci, l, z, rfl, rfl⟩ | ⟨id, off, ci, cap, ex, cs, fz, rfl, _⟩ <;> simp [beqA, beqV]
theorem beq_an {a b c d : Int} {e : List Nat} {V : AV} (h : beqA V V = true) : beqAs (anL a b c d e V) (anL a b c d e V) = true := by
  unfold anL
  simp only [bs_cons, bs_nil, ba_int, ba_str, h, Bool.and_self]
/-- What a code leaves behind, by a rule of one's own. -/
theorem w_via {P : Program} {rd : Option Nat} {a : Ac} {s : St} {x : Code} {k : AE → Ac → St → Bool} (Q : AE → Ac → St → Prop)
    (h : ∀ k' : AE → Ac → St → Bool, (∀ ex a' s', Q ex a' s' → k' ex a' s' = true) → (sem P).code rd x a s k' = true)
    (hQ : ∀ ex a' s', Q ex a' s' → k ex a' s' = true) : (sem P).code rd x a s k = true := h k hQ
theorem bs_ops {s : St} : buildSliceA TE s 40 3 [(0, .raw (.int .i64 5)), (1, .raw (.int .i64 6)), (2, .raw (.int .i64 7))] = some (.slice s.nx 0 3 0 3 true, s.alloc (.cells [.raw (.int .i64 5), .raw (.int .i64 6), .raw (.int .i64 7)] 3 0)) := by kernel_rfl
theorem ix_u3 {q r : Nat} (h : r < 3) : indexAddrA TE 40 (.slice q 0 3 0 3 true) (.raw (.int .u64 (r : Int))) = some (.ptr q r) := by
  have e : indexAddrA TE 40 (.slice q 0 3 0 3 true) (.raw (.int .u64 (r : Int))) = (bif Nat.blt r 3 then some (.ptr q (0 + r * 1)) else none) := by kernel_rfl
  rw [e, Nat.blt_eq.mpr h, Nat.mul_one, Nat.zero_add]
  rfl
end Go.AX
