import Derived.Test.YtnaelolekokhbaaGreatD1
set_option linter.unusedVariables false
set_option linter.unusedSimpArgs false
set_option linter.defProp false
namespace Go.AX
open Go.Proofs Go.RowKit
set_option maxRecDepth 1000000
set_option maxHeartbeats 40000000
set_option linter.unusedSimpArgs false

/-! ### Texts in a row -/
theorem b_nes {a b : List Nat} : binFast .neq (.str a) (.str b) = some (boolA (!eqB a b)) := (rfl)
theorem same_c {s : St} {A B : AV} {l : List (List Nat)} (hA : SlV s A l) (hB : SlV s B l) (hl : l.length ≤ 1000000) {kr kp : AV → St → Bool} (hk : kr (.raw (.bool true)) s = true) :
    (sem Tryz.prog).call 56 [A, B] s kr kp = true := by
  have H := ok4
  refine w_call H 26 fn_56 rfl rfl ?_
  have la := hA.len
  have lb := hB.len
  have ia := hA.ids
  have ib := hB.ids
  repeat (first | with_reducible first | refine w_seq H ?_ | refine w_region H ?_ | refine w_block H ?_ | refine w_ret H ?_ | refine w_skip H ?_ | refine w_exit H ?_ | refine w_label H ?_ | (with_reducible refine w_cond H _ (by simp only [rB, rP, rQ, boolA, intA, resultA, resA, reduceIte, reduceCtorEq, Nat.reduceAdd, Nat.reduceLT, Nat.reduceEqDiff, UInt8.reduceToNat, pe4, pf4, la, lb, ia, ib, b_nei, bne_self_eq_false]; rfl) ?_; simp only [cond_true, cond_false]) | simp only [rB, rP, rQ, boolA, intA, resultA, resA, reduceIte, reduceCtorEq, Nat.reduceAdd, Nat.reduceLT, Nat.reduceEqDiff, UInt8.reduceToNat, pe4, pf4, la, lb, ia, ib, b_nei, bne_self_eq_false])
  refine w_loop_ind H (fun n t s' => ∃ k : Nat, n + k = l.length ∧ s' = s ∧ tg t 0 = A ∧ tg t 1 = B ∧ tg t 5 = .raw (.int .i64 (k : Int))) (n := l.length)
    ⟨0, rfl, rfl, by simp only [rB, rP, rQ, boolA, intA, resultA, resA, reduceIte, reduceCtorEq, Nat.reduceAdd, Nat.reduceLT, Nat.reduceEqDiff, UInt8.reduceToNat], by simp only [rB, rP, rQ, boolA, intA, resultA, resA, reduceIte, reduceCtorEq, Nat.reduceAdd, Nat.reduceLT, Nat.reduceEqDiff, UInt8.reduceToNat], by simp only [rB, rP, rQ, boolA, intA, resultA, resA, reduceIte, reduceCtorEq, Nat.reduceAdd, Nat.reduceLT, Nat.reduceEqDiff, UInt8.reduceToNat]; rfl⟩ ?_
  rintro n t s' ih ⟨k, hn, rfl, t0, t1, t5⟩
  cases n with
  | zero =>
    have g0 : decide ((k : Int) < (l.length : Int)) = false := by rw [decide_eq_false_iff_not]; omega
    repeat (first | with_reducible first | refine w_seq H ?_ | refine w_region H ?_ | refine w_block H ?_ | refine w_ret H ?_ | refine w_skip H ?_ | refine w_exit H ?_ | refine w_label H ?_ | (with_reducible refine w_cond H _ (by simp only [rB, rP, rQ, boolA, intA, resultA, resA, reduceIte, reduceCtorEq, Nat.reduceAdd, Nat.reduceLT, Nat.reduceEqDiff, UInt8.reduceToNat, pe4, pf4, t0, t1, t5, la, lb, ia, ib, b_lt, g0, Tryz.results56]; rfl) ?_; simp only [cond_true, cond_false]) | simp only [rB, rP, rQ, boolA, intA, resultA, resA, reduceIte, reduceCtorEq, Nat.reduceAdd, Nat.reduceLT, Nat.reduceEqDiff, UInt8.reduceToNat, pe4, pf4, t0, t1, t5, la, lb, ia, ib, b_lt, g0, Tryz.results56])
    exact hk
  | succ n =>
    have hlt : k < l.length := by omega
    have g0 : decide ((k : Int) < (l.length : Int)) = true := by rw [decide_eq_true_eq]; omega
    obtain ⟨i1, o1, x1, y1, ob1, z1⟩ := hA.idx (p := l[k]) (j := k) (List.getElem?_eq_getElem hlt)
    obtain ⟨i2, o2, x2, y2, ob2, z2⟩ := hB.idx (p := l[k]) (j := k) (List.getElem?_eq_getElem hlt)
    have y1' : ldO (s'.h.get i1) o1 = some (.str l[k]) := by rw [← ldC_o]; exact y1
    have y2' : ldO (s'.h.get i2) o2 = some (.str l[k]) := by rw [← ldC_o]; exact y2
    have w1 : ∀ b, inO (s'.h.get i1) b = b := fun b => by rw [z1]; rfl
    have w2 : ∀ b, inO (s'.h.get i2) b = b := fun b => by rw [z2]; rfl
    have ew : IntKind.i64.wrap ((k : Int) + 1) = ((k + 1 : Nat) : Int) := by
      rw [show (k : Int) + 1 = ((k + 1 : Nat) : Int) from by simp]
      exact wrap_nat (by omega)
    generalize l[k] = nm at *
    repeat (first | with_reducible first | refine w_seq H ?_ | refine w_region H ?_ | refine w_block H ?_ | refine w_ret H ?_ | refine w_skip H ?_ | refine w_exit H ?_ | refine w_label H ?_ | (with_reducible refine w_cond H _ (by simp only [rB, rP, rQ, boolA, intA, resultA, resA, reduceIte, reduceCtorEq, Nat.reduceAdd, Nat.reduceLT, Nat.reduceEqDiff, UInt8.reduceToNat, pe4, pf4, t0, t1, t5, la, lb, ia, ib, b_lt, g0, x1, x2, y1', y2', w1, w2, ld_9, b_nes, eqB_self, b_plus, ew]; rfl) ?_; simp only [cond_true, cond_false]) | simp only [rB, rP, rQ, boolA, intA, resultA, resA, reduceIte, reduceCtorEq, Nat.reduceAdd, Nat.reduceLT, Nat.reduceEqDiff, UInt8.reduceToNat, pe4, pf4, t0, t1, t5, la, lb, ia, ib, b_lt, g0, x1, x2, y1', y2', w1, w2, ld_9, b_nes, eqB_self, b_plus, ew] | ((with_reducible refine w_plan H (i := 6) (.take 0 (.take 1 (.take 2 (.take 3 (.take 4 (.take 5 (.take 6 (.take 7 (.take 8 (.done)))))))))) rfl (by kernel_rfl) ?_)))
    exact ih n _ _ (by omega) ⟨k + 1, by omega, rfl, by simp only [rB, rP, rQ, boolA, intA, resultA, resA, reduceIte, reduceCtorEq, Nat.reduceAdd, Nat.reduceLT, Nat.reduceEqDiff, UInt8.reduceToNat, t0], by simp only [rB, rP, rQ, boolA, intA, resultA, resA, reduceIte, reduceCtorEq, Nat.reduceAdd, Nat.reduceLT, Nat.reduceEqDiff, UInt8.reduceToNat, t1], by simp only [rB, rP, rQ, boolA, intA, resultA, resA, reduceIte, reduceCtorEq, Nat.reduceAdd, Nat.reduceLT, Nat.reduceEqDiff, UInt8.reduceToNat]⟩
theorem bs_2 {s : St} {a b : List Nat} : buildSliceA TE s 51 2 [(0, .str a), (1, .str b)] = some (.slice s.nx 0 2 0 2 true, s.alloc (.cells [.str a, .str b] 9 0)) := by kernel_rfl
theorem bs_3 {s : St} {a b c : List Nat} : buildSliceA TE s 51 3 [(0, .str a), (1, .str b), (2, .str c)] = some (.slice s.nx 0 3 0 3 true, s.alloc (.cells [.str a, .str b, .str c] 9 0)) := by kernel_rfl
theorem bs_4 {s : St} {a b c d : List Nat} : buildSliceA TE s 51 4 [(0, .str a), (1, .str b), (2, .str c), (3, .str d)] = some (.slice s.nx 0 4 0 4 true, s.alloc (.cells [.str a, .str b, .str c, .str d] 9 0)) := by kernel_rfl
theorem ix_s4 {q r : Nat} (h : r ≤ 3) : indexAddrA TE 51 (.slice q 0 4 0 4 true) (.raw (.int .i64 (r : Int))) = some (.ptr q r) := by
  have e : indexAddrA TE 51 (.slice q 0 4 0 4 true) (.raw (.int .i64 (r : Int))) = (bif Nat.blt r 4 then some (.ptr q (0 + r * 1)) else none) := by kernel_rfl
  rw [e, Nat.blt_eq.mpr (by omega : r < 4), Nat.mul_one, Nat.zero_add]
  rfl
def nth4 (a b c d : List Nat) : Nat → List Nat
  | 0 => a
  | 1 => b
  | 2 => c
  | _ => d
theorem ld_s4 {r t z : Nat} {a b c d : List Nat} (h : r ≤ 3) : ldO (some (.cells [.str a, .str b, .str c, .str d] t z)) r = some (.str (nth4 a b c d r)) := by
  have hh : r = 0 ∨ r = 1 ∨ r = 2 ∨ r = 3 := by omega
  rcases hh with rfl | rfl | rfl | rfl <;> rfl
theorem slv_2 {s : St} {a b : List Nat} : SlV (s.alloc (.cells [.str a, .str b] 9 0)) (.slice s.nx 0 2 0 2 true) [a, b] := Or.inr (Or.inr ⟨s.nx, 0, 0, 2, true, [.str a, .str b], 0, rfl, al_same, by simp, rfl, by simp⟩)
theorem slv_3 {s : St} {a b c : List Nat} : SlV (s.alloc (.cells [.str a, .str b, .str c] 9 0)) (.slice s.nx 0 3 0 3 true) [a, b, c] := Or.inr (Or.inr ⟨s.nx, 0, 0, 3, true, [.str a, .str b, .str c], 0, rfl, al_same, by simp, rfl, by simp⟩)
theorem WL.ne {s : St} {M : Md} {L : List (Nat × AO)} (h : WL s M L) {q : Nat × AO} (hq : q ∈ L) : (q.1 = s.nx) = False := by
  have := h.lt hq
  simp only [eq_iff_iff, iff_false]
  omega
theorem WL.ne0 {s : St} {M : Md} {L : List (Nat × AO)} {i : Nat} {o : AO} (h : WL s M ((i, o) :: L)) : (i = s.nx) = False := h.ne (q := (i, o)) (List.mem_cons_self ..)
theorem WL.ne1 {s : St} {M : Md} {L : List (Nat × AO)} {q : Nat × AO} {i : Nat} {o : AO} (h : WL s M (q :: (i, o) :: L)) : (i = s.nx) = False := h.ne (q := (i, o)) (List.mem_cons_of_mem _ (List.mem_cons_self ..))
theorem WL.ne2 {s : St} {M : Md} {L : List (Nat × AO)} {q r : Nat × AO} {i : Nat} {o : AO} (h : WL s M (q :: r :: (i, o) :: L)) : (i = s.nx) = False := h.ne (q := (i, o)) (List.mem_cons_of_mem _ (List.mem_cons_of_mem _ (List.mem_cons_self ..)))
theorem WL.ne3 {s : St} {M : Md} {L : List (Nat × AO)} {q r t : Nat × AO} {i : Nat} {o : AO} (h : WL s M (q :: r :: t :: (i, o) :: L)) : (i = s.nx) = False := h.ne (q := (i, o)) (List.mem_cons_of_mem _ (List.mem_cons_of_mem _ (List.mem_cons_of_mem _ (List.mem_cons_self ..))))
theorem la_cons {a : Oper} {l m : List Oper} : List.append (a :: l) m = a :: List.append l m := (rfl)
theorem la_nil {m : List Oper} : List.append [] m = m := (rfl)
theorem an_g0 {a b c d : Int} {e : List Nat} {V : AV} : (anL a b c d e V)[0]? = some (.raw (.int .i64 a)) := (rfl)
theorem an_g1 {a b c d : Int} {e : List Nat} {V : AV} : (anL a b c d e V)[1]? = some (.raw (.int .i64 b)) := (rfl)
theorem an_g2 {a b c d : Int} {e : List Nat} {V : AV} : (anL a b c d e V)[2]? = some (.raw (.int .i64 c)) := (rfl)
theorem an_g3 {a b c d : Int} {e : List Nat} {V : AV} : (anL a b c d e V)[3]? = some (.raw (.int .i64 d)) := (rfl)
theorem an_g4 {a b c d : Int} {e : List Nat} {V : AV} : (anL a b c d e V)[4]? = some (.str e) := (rfl)
theorem an_g5 {a b c d : Int} {e : List Nat} {V : AV} : (anL a b c d e V)[5]? = some V := (rfl)
end Go.AX
