import Derived.Test.YtnaelolekokhbaaGreatLaw4
set_option linter.unusedVariables false
set_option linter.unusedSimpArgs false
set_option linter.defProp false
namespace Go.AX
open Go.Proofs Go.RowKit
set_option maxRecDepth 1000000
set_option maxHeartbeats 40000000
set_option linter.unusedSimpArgs false

/-! ### Texts that a law puts in a row -/
theorem app_nil {s : St} {X : AV} {x : List Nat} (h : SlV s X [x]) : appendA TE s [51, 51] [.raw (.slice none 0 0), X] = some (.slice s.nx 0 1 0 1 false, s.alloc (.cells [.str x] 9 2)) := by
  obtain ⟨h1, h2⟩ := h.first
  rw [app_eq]
  simp only [h2, h1, List.length_map, Nat.mul_one, nb_self, all_one, Bool.and_self, cond_true, growA]
  rfl
theorem app_ex {s : St} {X : AV} {x : List Nat} {id n fz : Nat} {cs : List AV} (h : SlV s X [x]) (hg : s.h.get id = some (.cells cs 9 fz)) (hn : cs.length = n) (hb : n ≤ 1000) :
    appendA TE s [51, 51] [.slice id 0 n 0 n true, X] = some (.slice s.nx 0 (n + 1) 0 (n + 1) false, s.alloc (.cells (cs ++ [.str x]) 9 2)) := by
  obtain ⟨h1, h2⟩ := h.first
  rw [app_eq]
  have e1 : Nat.ble (n + [x].length) n = false := by
    cases hb : Nat.ble (n + [x].length) n with
    | false => rfl
    | true => have := Nat.ble_eq.mp hb; simp at this; omega
  have e2 : cutL 0 n cs = some cs := by rw [← hn]; exact cutL_all
  have e3 : Nat.ble ((n + [x].length) * 16) 1048576 = true := Nat.ble_eq.mpr (by simp; omega)
  have e4 : Nat.ble (n + [x].length) 1048576 = true := Nat.ble_eq.mpr (by simp; omega)
  simp only [h2, h1, List.length_map, Nat.mul_one, nb_self, all_one, Bool.and_self, cond_true, growA, gc_of hg, e1, cond_false, e2, e3, e4]
  rfl
theorem app_gr {s : St} {X : AV} {x : List Nat} {id n : Nat} {cs : List AV} (h : SlV s X [x]) (hg : s.h.get id = some (.cells cs 9 2)) (hn : cs.length = n) (hb : n ≤ 1000) :
    appendA TE s [51, 51] [.slice id 0 n 0 n false, X] = some (.slice s.nx 0 (n + 1) 0 (n + 1) false, { h := (s.h.del id).set s.nx (.cells (cs ++ [.str x]) 9 2), nx := s.nx + 1 }) := by
  obtain ⟨h1, h2⟩ := h.first
  rw [app_eq]
  have e1 : Nat.ble (n + [x].length) n = false := by
    cases hb : Nat.ble (n + [x].length) n with
    | false => rfl
    | true => have := Nat.ble_eq.mp hb; simp at this; omega
  have e2 : cutL 0 n cs = some cs := by rw [← hn]; exact cutL_all
  have e3 : Nat.ble ((n + [x].length) * 16) 1048576 = true := Nat.ble_eq.mpr (by simp; omega)
  have e4 : Nat.ble (n + [x].length) 1048576 = true := Nat.ble_eq.mpr (by simp; omega)
  simp only [h2, h1, List.length_map, Nat.mul_one, nb_self, all_one, Bool.and_self, cond_true, growA, gc_of hg, e1, cond_false, e2, e3, e4]
  rfl
theorem World.del {s : St} {x : Nat} {M : Md} {L : List (Nat × AO)} {a : Nat} {o : AO} (h : World s x M ((a, o) :: L)) (hne : ∀ q ∈ L, q.1 ≠ a) (o' : AO) : World { h := (s.h.del a).set s.nx o', nx := s.nx + 1 } x M ((s.nx, o') :: L) := by
  obtain ⟨hB, ι, μ, R, hL⟩ := h
  obtain ⟨ha, hno⟩ := hL (a, o) (List.mem_cons_self ..)
  have hno : ¬ Own x M ι μ a := hno
  have f : ∀ i, i ≠ a → i < s.nx → ((s.h.del a).set s.nx o').get i = s.h.get i := fun i hi hl => by
    rw [Tr.get_set, if_neg (by omega), Tr.get_del, if_neg hi]
  have hx : x ≠ a := fun e => hno (Or.inl e.symm)
  have hi : ∀ k, k < M.nodes.length → ι k ≠ a := fun k hk e => hno (Or.inr ⟨k, hk, Or.inl e.symm⟩)
  have hm : ∀ k, k < M.nodes.length → μ k ≠ a := fun k hk e => hno (Or.inr ⟨k, hk, Or.inr e.symm⟩)
  refine ⟨?_, ι, μ, ?_, ?_⟩
  · intro i o1 h1
    show i < s.nx + 1
    simp only [Tr.get_set, Tr.get_del] at h1
    by_cases e : i = s.nx
    · omega
    · rw [if_neg e] at h1
      by_cases e2 : i = a
      · rw [if_pos e2] at h1
        cases h1
      · rw [if_neg e2] at h1
        have := hB _ _ h1
        omega
  · exact ⟨fun k nd hk => ⟨(f _ (hi _ (T_lt hk)) (R.li hB (T_lt hk))).trans (R.nd k nd hk).1, (f _ (hm _ (T_lt hk)) (R.lm hB (T_lt hk))).trans (R.nd k nd hk).2⟩, (f _ hx (R.lx hB)).trans R.tr, R.ij, R.mj, R.kd, R.up, R.rt, R.cw, R.f8, R.fd, R.mn, R.da⟩
  · intro q hq
    simp only [List.mem_cons] at hq
    rcases hq with rfl | hq
    · refine ⟨by show ((s.h.del a).set s.nx o').get s.nx = some o'; rw [Tr.get_set, if_pos rfl], ?_⟩
      rintro (e | ⟨k, hk, e | e⟩)
      · have := R.lx hB
        simp only at e
        omega
      · have := R.li hB hk
        simp only at e
        omega
      · have := R.lm hB hk
        simp only at e
        omega
    · obtain ⟨h1, h2⟩ := hL q (List.mem_cons_of_mem _ hq)
      exact ⟨(f _ (hne q hq) (hB _ _ h1)).trans h1, h2⟩
theorem WL.del {s : St} {M : Md} {L : List (Nat × AO)} {a : Nat} {o : AO} (h : WL s M ((a, o) :: L)) (hne : ∀ q ∈ L, q.1 ≠ a) (hf : a ≠ 3) (o' : AO) : WL { h := (s.h.del a).set s.nx o', nx := s.nx + 1 } M ((s.nx, o') :: L) :=
  WL.mid (World.del (WL.out h) (fun q hq => by
    rcases List.mem_append.mp hq with hq | hq
    · simp only [fL, List.mem_singleton] at hq
      rw [hq]
      exact fun e => hf e.symm
    · exact hne q hq) o')
theorem hd_get {h : Tr AO} {i j : Nat} : (h.del i).get j = if j = i then none else h.get j := by rw [Tr.get_del]
theorem bs_1 {s : St} {a : List Nat} : buildSliceA TE s 51 1 [(0, .str a)] = some (.slice s.nx 0 1 0 1 true, s.alloc (.cells [.str a] 9 0)) := by kernel_rfl
theorem slv_1 {s : St} {a : List Nat} : SlV (s.alloc (.cells [.str a] 9 0)) (.slice s.nx 0 1 0 1 true) [a] := Or.inr (Or.inr ⟨s.nx, 0, 0, 1, true, [.str a], 0, rfl, al_same, by simp, rfl, by simp⟩)
theorem ix_t {q i n : Nat} {ex : Bool} (h : i < n) : indexAddrA TE 51 (.slice q 0 n 0 n ex) (.raw (.int .i64 (i : Int))) = some (.ptr q i) := by
  have e : indexAddrA TE 51 (.slice q 0 n 0 n ex) (.raw (.int .i64 (i : Int))) = (bif Nat.blt i n then some (.ptr q (0 + i * 1)) else none) := by kernel_rfl
  rw [e, Nat.blt_eq.mpr h, Nat.mul_one, Nat.zero_add]
  rfl
end Go.AX
