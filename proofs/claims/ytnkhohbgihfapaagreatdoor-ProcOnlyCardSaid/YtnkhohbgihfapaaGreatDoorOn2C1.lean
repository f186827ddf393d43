import Derived.Test.YtnkhohbgihfapaaGreatDoorOn2B3
set_option linter.unusedVariables false
set_option linter.unusedSimpArgs false
set_option linter.defProp false
namespace Go.AX
open Go.Proofs Go.RowKit
set_option maxRecDepth 1000000
set_option linter.unusedSimpArgs false
structure Nd where
  kind : Int
  mode : Int
  data : List Nat
  kids : List (List Nat × Nat)
  up : Option Nat
  name : List Nat
  mp : Nat
def upA : Option Nat → AV
  | none => .raw (.pointer none)
  | some u => .ptr u 0
def kidsA (l : List (List Nat × Nat)) : List (AV × AV) := l.map fun q => (.str q.1, .ptr q.2 0)
def ndA (nd : Nd) : AO := .cells [.raw (.int .i64 nd.kind), .raw (.int .i64 nd.mode), .str nd.data, .map nd.mp, upA nd.up, .str nd.name] 112 0
def NRep (s : St) (i : Nat) (nd : Nd) : Prop := s.h.get i = some (ndA nd) ∧ s.h.get nd.mp = some (.map (kidsA nd.kids))
abbrev Nodes := Nat → Option Nd
def RepT (s : St) (T : Nodes) : Prop := ∀ i nd, T i = some nd → NRep s i nd
theorem fa_0 {x o : Nat} : fieldAddrA TE 112 (.ptr x o) 0 = some (.ptr x (o + 0)) := by kernel_rfl
theorem fa_1 {x o : Nat} : fieldAddrA TE 112 (.ptr x o) 1 = some (.ptr x (o + 1)) := by kernel_rfl
theorem fa_2 {x o : Nat} : fieldAddrA TE 112 (.ptr x o) 2 = some (.ptr x (o + 2)) := by kernel_rfl
theorem fa_3 {x o : Nat} : fieldAddrA TE 112 (.ptr x o) 3 = some (.ptr x (o + 3)) := by kernel_rfl
theorem fa_4 {x o : Nat} : fieldAddrA TE 112 (.ptr x o) 4 = some (.ptr x (o + 4)) := by kernel_rfl
theorem fa_5 {x o : Nat} : fieldAddrA TE 112 (.ptr x o) 5 = some (.ptr x (o + 5)) := by kernel_rfl
theorem b_pp {i j : Nat} {u : AV} : binFast .eql (.ptr i j) u = none := (rfl)
theorem b_np {u : AV} : binFast .eql (.raw (.pointer none)) u = none := (rfl)
theorem eq_pn {s : St} {i j : Nat} {d : Option (AV × List Nat)} : eqS TE s .eql 103 (.ptr i j) (.raw (.pointer none)) d = some (.raw (.bool false), []) := by kernel_rfl
def isNilP : AV → Bool
  | .raw (.pointer none) => true
  | _ => false
theorem nil_nil : isNilP (.raw (.pointer none)) = true := (rfl)
theorem isNilP_of {v : AV} (h : isNilP v = true) : v = .raw (.pointer none) := by
  unfold isNilP at h
  split at h
  · rfl
  · cases h
theorem run_nn {i : Nat} : pureRun TE.P (do let r ← (do eqGuard .eql 103 (.tmp i) (.const (.pointer none)) (.pointer none) (.pointer none); binOp .eql 103 (.pointer none) (.pointer none)); pure (Next.value r)) = some (.value (.bool true)) := by kernel_rfl
theorem pu_nn {a : Ac} {dst : Option Tmp} {i : Nat} {ty : TypeId} {pos : String} {after : Array Edge} (hx : isNilP (a.eval (.tmp i)) = true) :
    stepPure TE a ⟨dst, .binOp .eql 103 (.tmp i) (.const (.pointer none)) 103, ty, pos, after, none⟩ = some (.raw (.bool true), []) := by
  have hx := isNilP_of hx
  have h1 : valAt a (.tmp i) = .pointer none := by simp [valAt, hx, toVal]
  have h2 : valAt a (.const (.pointer none)) = .pointer none := rfl
  have hall : (Op.operands (.binOp .eql 103 (.tmp i) (.const (.pointer none)) 103)).toList.all (fun x => (toVal (a.eval x)).isSome) = true := by
    show (List.all [.tmp i, .const (.pointer none)] (fun x => (toVal (a.eval x)).isSome)) = true
    simp only [List.all_cons, List.all_nil, hx]
    rfl
  have hr : pureRun TE.P (execOp (valAt a) ⟨dst, .binOp .eql 103 (.tmp i) (.const (.pointer none)) 103, ty, pos, after, none⟩) = some (.value (.bool true)) := by
    have he : execOp (valAt a) ⟨dst, .binOp .eql 103 (.tmp i) (.const (.pointer none)) 103, ty, pos, after, none⟩ = (do let r ← (do eqGuard .eql 103 (.tmp i) (.const (.pointer none)) (.pointer none) (.pointer none); binOp .eql 103 (.pointer none) (.pointer none)); pure (.value r)) := by
      simp only [execOp, h1, h2]
    rw [he]
    exact run_nn
  simp only [stepPure, hall, cond_true, hr]
  rfl
theorem eqS_nn {s : St} {d : Option (AV × List Nat)} : eqS TE s .eql 103 (.raw (.pointer none)) (.raw (.pointer none)) d = d := by kernel_rfl
theorem mi_status {n : Int} : mkIface TE 130 (.raw (.int .i64 n)) = some (.iface 130 (.raw (.int .i64 n))) := by kernel_rfl
theorem fail_no {s : St} (H : Ok TE Tryz.prog pr3) {n : Int} {kr kp : AV → St → Bool} (hk : kr (.tuple []) s = true) : (sem Tryz.prog).call 59 [.raw (.bool false), .raw (.int .i64 n)] s kr kp = true := by
  refine w_call H 7 fn_59 rfl rfl ?_
  repeat (first | with_reducible (refine w_one H ?_; constructor) | simp only [rB, rP, rQ, boolA, intA, resultA, resA, reduceIte, reduceCtorEq, Nat.reduceAdd, Nat.reduceLT, Nat.reduceEqDiff, UInt8.reduceToNat, Tryz.results59])
  exact hk
theorem fail_yes {s : St} (H : Ok TE Tryz.prog pr3) {n : Int} {kr kp : AV → St → Bool} (hk : kp (.iface 130 (.raw (.int .i64 n))) s = true) : (sem Tryz.prog).call 59 [.raw (.bool true), .raw (.int .i64 n)] s kr kp = true := by
  refine w_call H 7 fn_59 rfl rfl ?_
  repeat (first | with_reducible (refine w_one H ?_; constructor) | simp only [rB, rP, rQ, boolA, intA, resultA, resA, reduceIte, reduceCtorEq, Nat.reduceAdd, Nat.reduceLT, Nat.reduceEqDiff, UInt8.reduceToNat, mi_status, o_panicI])
  exact hk
theorem c3_join {r : Tasks} {a : Ac} {dst : Option Tmp} {s : St} {k : Ac → St → Bool} {kp : AV → St → Bool} {x y : List Nat} (h : Nat.ble (x.length + y.length) 1000000 = true) :
    callV pr3 r (.fn 90 []) [.str x, .str y] a dst s k kp = putK a dst (.str (joinP x y)) s k := by
  refine c_prim (pe3 (by decide)) ?_
  unfold pr3
  rw [add_ne (by decide)]
  unfold pr2
  rw [add_same]
  simp only [List.append_nil, joinPP, h, cond_true]
def pathT (T : Nodes) : Nat → Nat → Option (List Nat)
  | 0, _ => none
  | f + 1, i => match T i with
    | none => none
    | some nd => match nd.up with
      | none => some []
      | some u => match pathT T f u with
        | none => none
        | some p => bif Nat.ble (p.length + nd.name.length) 1000000 then some (joinP p nd.name) else none
theorem path_c {s : St} (H : Ok TE Tryz.prog pr3) {T : Nodes} (hT : RepT s T) : ∀ {f i : Nat} {p : List Nat} {kr kp : AV → St → Bool}, pathT T f i = some p → kr (.str p) s = true → (sem Tryz.prog).call 95 [.ptr i 0] s kr kp = true
  | 0, _, _, _, _, h, _ => by cases h
  | f + 1, i, p, kr, kp, h, hk => by
    simp only [pathT] at h
    cases hi : T i with
    | none => rw [hi] at h; cases h
    | some nd =>
      rw [hi] at h
      simp only at h
      have hn := (hT i nd hi).1
      refine w_call H 18 fn_95 rfl rfl ?_
      cases hu : nd.up with
      | none =>
        rw [hu] at h
        cases h
        repeat (first | with_reducible (refine w_one H ?_; constructor) | simp only [rB, rP, rQ, boolA, intA, resultA, resA, reduceIte, reduceCtorEq, Nat.reduceAdd, Nat.reduceLT, Nat.reduceEqDiff, UInt8.reduceToNat, pe3, pf3, fa_4, ld_103, hn, ndA, hu, upA, b_np, eqS_nn, pu_nn, nil_nil, Tryz.results95])
        exact hk
      | some u =>
        rw [hu] at h
        simp only at h
        cases hp : pathT T f u with
        | none => rw [hp] at h; cases h
        | some q =>
          rw [hp] at h
          simp only at h
          cases hb : Nat.ble (q.length + nd.name.length) 1000000 with
          | false => rw [hb] at h; cases h
          | true =>
            rw [hb] at h
            cases h
            have ih := @path_c s H T hT f u q
            have ej := fun {r a dst k kp} => c3_join (r := r) (a := a) (dst := dst) (s := s) (k := k) (kp := kp) hb
            repeat (first | with_reducible (refine w_one H ?_; constructor) | simp only [rB, rP, rQ, boolA, intA, resultA, resA, reduceIte, reduceCtorEq, Nat.reduceAdd, Nat.reduceLT, Nat.reduceEqDiff, UInt8.reduceToNat, pe3, pf3, fa_4, fa_5, ld_103, ld_9, hn, ndA, hu, upA, b_pp, eq_pn, ej, Tryz.results95] | (with_reducible refine w_plan H (i := 3) (.take 0 (.take 1 (.take 2 (.take 3 (.take 5 (.take 6 (.take 7 (.take 8 (.alt 4 [0, 1, 2, 3] (.alt 9 [0, 1, 2, 3, 4, 5, 6, 7, 8] (.take 10 (.done)) (.yes)) (.yes)))))))))) rfl (by kernel_rfl) ?_) | (with_reducible refine ih hp ?_))
            exact hk
end Go.AX
namespace Go.AX
open Go.Proofs Go.RowKit
set_option maxRecDepth 1000000
set_option linter.unusedSimpArgs false
def deepT (T : Nodes) : Nat → Nat → Option Nat
  | 0, _ => none
  | f + 1, i => match T i with
    | none => none
    | some nd => match nd.up with
      | none => some 0
      | some u => match deepT T f u with
        | none => none
        | some d => bif Nat.ble d 1000000 then some (d + 1) else none
theorem c3_clean {r : Tasks} {a : Ac} {dst : Option Tmp} {s : St} {k : Ac → St → Bool} {kp : AV → St → Bool} {x y : List Nat} (h1 : x.length ≤ 1000) (h2 : asciiB x = true) (h3 : asciiB y = true) :
    callV pr3 r (.fn 49 []) [.str x, .str y] a dst s k kp = putK a dst (outC (cleanL x y)) s k := by
  refine c_prim (pe3 (by decide)) ?_
  unfold pr3
  rw [add_ne (by decide)]
  unfold pr2
  rw [add_ne (by decide), add_same]
  simp only [List.append_nil, cleanLP, Nat.ble_eq.mpr h1, h2, h3, Bool.and_self, cond_true]
theorem c3_parts {r : Tasks} {a : Ac} {dst : Option Tmp} {s : St} {k : Ac → St → Bool} {kp : AV → St → Bool} {b : List Nat} (hb : b.length ≤ 1000) : callV pr3 r (.fn 92 []) [.str b] a dst s k kp = putK a dst (mkSl 9 (partsL b) s).1 (mkSl 9 (partsL b) s).2 k := by
  refine c_prim (pe3 (by decide)) ?_
  unfold pr3
  rw [add_ne (by decide)]
  unfold pr2
  rw [add_ne (by decide), add_ne (by decide)]
  unfold pr1
  rw [add_ne (by decide), add_same]
  simp only [List.append_nil, partsP, Nat.ble_eq.mpr hb, cond_true]
theorem cleanL_le {x y : List Nat} : (cleanL x y).1.length ≤ 140 := by
  unfold cleanL
  cases cleanB x <;> simp only [cond_true, cond_false, List.length_nil, Nat.zero_le]
  cases eqB y [] <;> simp only [cond_true, cond_false, List.length_nil, Nat.zero_le]
  cases Nat.blt 560 y.length <;> simp only [cond_true, cond_false, List.length_nil, Nat.zero_le]
  split
  · simp
  · rename_i way _
    cases Nat.blt 8 way.length <;> simp only [cond_true, cond_false, List.length_nil, Nat.zero_le]
    cases h : Nat.blt 140 (joinL [47] way).length <;> simp only [cond_true, cond_false, List.length_nil, Nat.zero_le]
    have : ¬ 140 < (joinL [47] way).length := fun hh => by rw [Nat.blt_eq.mpr hh] at h; cases h
    omega
def tcleanL (cwd b : List Nat) : List (List Nat) ⊕ Nat := match cleanL cwd b with
  | (p, c) => bif Nat.beq c 402 || Nat.beq c 403 then .inr 8 else bif Nat.beq c 0 then .inl (partsL p) else .inr 5
theorem tclean_c {s : St} (H : Ok TE Tryz.prog pr3) {T : Nodes} (hT : RepT s T) {f i : Nat} {cwd b : List Nat} {kr kp : AV → St → Bool} (hp : pathT T f i = some cwd) (h1 : cwd.length ≤ 1000) (h2 : asciiB cwd = true) (h3 : asciiB b = true)
    (hk : ∀ names, tcleanL cwd b = .inl names → kr (mkSl 9 names s).1 (mkSl 9 names s).2 = true) (hq : ∀ n : Nat, tcleanL cwd b = .inr n → kp (.iface 130 (.raw (.int .i64 (n : Int)))) s = true) :
    (sem Tryz.prog).call 105 [.ptr i 0, .str b] s kr kp = true := by
  refine w_call H 26 fn_105 rfl rfl ?_
  have ec := fun {r a dst k kp} => c3_clean (r := r) (a := a) (dst := dst) (s := s) (k := k) (kp := kp) h1 h2 h3
  have hl := cleanL_le (x := cwd) (y := b)
  unfold tcleanL at hk hq
  generalize hC : cleanL cwd b = C at *
  obtain ⟨p, c⟩ := C
  simp only at hk hq hl
  have ep := fun {r a dst k kp} => c3_parts (r := r) (a := a) (dst := dst) (s := s) (k := k) (kp := kp) (b := p) (by omega)
  by_cases q1 : c = 402
  · subst q1
    have e1 : (((402 : Nat) : Int) == 402) = true := rfl
    repeat (first | with_reducible (refine w_one H ?_; constructor) | simp only [rB, rP, rQ, boolA, intA, resultA, resA, reduceIte, reduceCtorEq, Nat.reduceAdd, Nat.reduceLT, Nat.reduceEqDiff, UInt8.reduceToNat, pe3, pf3, ec, outC, b_eqi, e1] | (with_reducible refine path_c H hT hp ?_) | (with_reducible refine fail_yes H ?_))
    exact hq 8 rfl
  have e1 : ((c : Int) == 402) = false := by
    rw [beq_eq_false_iff_ne]; omega
  by_cases q2 : c = 403
  · subst q2
    have e2 : (((403 : Nat) : Int) == 403) = true := rfl
    repeat (first | with_reducible (refine w_one H ?_; constructor) | simp only [rB, rP, rQ, boolA, intA, resultA, resA, reduceIte, reduceCtorEq, Nat.reduceAdd, Nat.reduceLT, Nat.reduceEqDiff, UInt8.reduceToNat, pe3, pf3, ec, outC, b_eqi, e1, e2] | (with_reducible refine path_c H hT hp ?_) | (with_reducible refine fail_yes H ?_))
    exact hq 8 rfl
  have e2 : ((c : Int) == 403) = false := by
    rw [beq_eq_false_iff_ne]; omega
  rw [beq_ne q1, beq_ne q2] at hk hq
  simp only [Bool.or_self, cond_false] at hk hq
  by_cases q3 : c = 0
  · subst q3
    have e3 : (((0 : Nat) : Int) != 0) = false := rfl
    repeat (first | with_reducible (refine w_one H ?_; constructor) | simp only [rB, rP, rQ, boolA, intA, resultA, resA, reduceIte, reduceCtorEq, Nat.reduceAdd, Nat.reduceLT, Nat.reduceEqDiff, UInt8.reduceToNat, pe3, pf3, ec, ep, outC, b_eqi, b_nei, e1, e2, e3, Tryz.results105] | (with_reducible refine path_c H hT hp ?_) | (with_reducible refine fail_no H ?_))
    exact hk _ rfl
  · have e3 : ((c : Int) != 0) = true := by
      rw [bne_iff_ne]; omega
    rw [beq_ne q3] at hq
    repeat (first | with_reducible (refine w_one H ?_; constructor) | simp only [rB, rP, rQ, boolA, intA, resultA, resA, reduceIte, reduceCtorEq, Nat.reduceAdd, Nat.reduceLT, Nat.reduceEqDiff, UInt8.reduceToNat, pe3, pf3, ec, outC, b_eqi, b_nei, e1, e2, e3] | (with_reducible refine path_c H hT hp ?_) | (with_reducible refine fail_no H ?_) | (with_reducible refine fail_yes H ?_))
    exact hq 5 rfl
end Go.AX
namespace Go.AX
open Go.Proofs Go.RowKit
set_option maxRecDepth 1000000
set_option linter.unusedSimpArgs false
def SlV (s : St) (V : AV) (names : List (List Nat)) : Prop := (V = .raw (.slice none 0 0) ∧ names = []) ∨ (∃ id off ci l z, V = .esl id off ci l z ∧ names = []) ∨
  ∃ id off ci cap ex cs fz, V = .slice id off names.length ci cap ex ∧ s.h.get id = some (.cells cs 9 fz) ∧ off + names.length ≤ cs.length ∧ (cs.drop off).take names.length = names.map .str ∧ names.length ≤ cap
theorem SlV.len {s : St} {V : AV} {names : List (List Nat)} (h : SlV s V names) : ∀ s', lenOpA TE s' [41] [V] = some (.raw (.int .i64 (names.length : Int))) := by
  intro s'
  rcases h with ⟨rfl, rfl⟩ | ⟨id, off, ci, l, z, rfl, rfl⟩ | ⟨id, off, ci, cap, ex, cs, fz, rfl, _⟩ <;> kernel_rfl
theorem SlV.ids {s : St} {V : AV} {names : List (List Nat)} (h : SlV s V names) : idsOf V = [] := by
  rcases h with ⟨rfl, rfl⟩ | ⟨id, off, ci, l, z, rfl, rfl⟩ | ⟨id, off, ci, cap, ex, cs, fz, rfl, _⟩ <;> rfl
theorem SlV.cells1 {s : St} {V : AV} {names : List (List Nat)} (h : SlV s V names) : V.cells = [V] ∧ V.one = true := by
  rcases h with ⟨rfl, rfl⟩ | ⟨id, off, ci, l, z, rfl, rfl⟩ | ⟨id, off, ci, cap, ex, cs, fz, rfl, _⟩ <;> exact ⟨rfl, rfl⟩
def Ext (s s' : St) : Prop := s.nx ≤ s'.nx ∧ ∀ i, i < s.nx → s'.h.get i = s.h.get i
theorem Ext.refl (s : St) : Ext s s := ⟨Nat.le_refl _, fun _ _ => rfl⟩
theorem Ext.trans {s s' s'' : St} (h : Ext s s') (h' : Ext s' s'') : Ext s s'' := ⟨Nat.le_trans h.1 h'.1, fun i hi => (h'.2 i (Nat.lt_of_lt_of_le hi h.1)).trans (h.2 i hi)⟩
theorem Ext.alloc (s : St) (o : AO) : Ext s (s.alloc o) := ⟨Nat.le_succ _, fun i hi => al_ne (by omega)⟩
def Below0 (s : St) : Prop := ∀ i o, s.h.get i = some o → i < s.nx
theorem SlV.ext {s s' : St} {V : AV} {names : List (List Nat)} (h : SlV s V names) (hb : Below0 s) (he : Ext s s') : SlV s' V names := by
  rcases h with h | h | ⟨id, off, ci, cap, ex, cs, fz, h1, h2, h3⟩
  · exact Or.inl h
  · exact Or.inr (Or.inl h)
  · exact Or.inr (Or.inr ⟨id, off, ci, cap, ex, cs, fz, h1, (he.2 id (hb id _ h2)).trans h2, h3⟩)
theorem SlV.mk {s : St} {names : List (List Nat)} : SlV (mkSl 9 names s).2 (mkSl 9 names s).1 names := by
  cases names with
  | nil => exact Or.inl ⟨rfl, rfl⟩
  | cons x l => exact Or.inr (Or.inr ⟨s.nx, 0, 0, (x :: l).length, false, (x :: l).map .str, 2, rfl, al_same, by simp, by rw [List.drop_zero, List.take_of_length_le (by simp)], Nat.le_refl _⟩)
theorem mkSl_ext {names : List (List Nat)} {s : St} : Ext s (mkSl 9 names s).2 := by
  cases names with
  | nil => exact Ext.refl s
  | cons x l => exact Ext.alloc s _
theorem mkSl_below {names : List (List Nat)} {s : St} (h : Below0 s) : Below0 (mkSl 9 names s).2 := by
  cases names with
  | nil => exact h
  | cons x l =>
    intro i o hi
    show i < s.nx + 1
    by_cases hn : i = s.nx
    · omega
    · have := h i o (by rw [← al_ne (s := s) (o := .cells ((x :: l).map .str) 9 2) hn]; exact hi)
      omega
theorem dropL_eq : ∀ {n : Nat} {l : List AV}, n ≤ l.length → dropL n l = some (l.drop n)
  | 0, _, _ => (rfl)
  | _ + 1, [], h => by simp at h
  | n + 1, x :: l, h => by simp only [dropL, dropL_eq (n := n) (l := l) (by simpa using h), List.drop_succ_cons]
theorem cutL_eq {off n : Nat} {l : List AV} (h : off + n ≤ l.length) : cutL off n l = some ((l.drop off).take n) := by
  simp only [cutL, dropL_eq (n := off) (l := l) (by omega), takeL_eq (n := n) (l := l.drop off) (by simp; omega)]
theorem SlV.first {s : St} {V : AV} {names : List (List Nat)} (h : SlV s V names) : firstA s 1 names.length V = some (names.map .str) ∧ lenA V = some names.length := by
  rcases h with ⟨rfl, rfl⟩ | ⟨id, off, ci, l, z, rfl, rfl⟩ | ⟨id, off, ci, cap, ex, cs, fz, rfl, h2, h3, h4, _⟩
  · exact ⟨rfl, rfl⟩
  · exact ⟨rfl, rfl⟩
  · exact ⟨by simp only [firstA, gc_of h2, Nat.mul_one, cutL_eq h3, h4], rfl⟩
theorem SlV.idx {s : St} {V : AV} {names : List (List Nat)} {p : List Nat} {j : Nat} (h : SlV s V names) (hp : names[j]? = some p) : ∃ id o, indexAddrA TE 41 V (.raw (.int .i64 (j : Int))) = some (.ptr id o) ∧ ldC s id o = some (.str p) ∧ (∃ ob, s.h.get id = some ob) := by
  have hj : j < names.length := (List.getElem?_eq_some_iff.1 hp).1
  rcases h with ⟨rfl, rfl⟩ | ⟨id, off, ci, l, z, rfl, rfl⟩ | ⟨id, off, ci, cap, ex, cs, fz, rfl, h2, h3, h4, _⟩
  · simp at hj
  · simp at hj
  · refine ⟨id, off + j, ?_, ?_, _, h2⟩
    · have e : indexAddrA TE 41 (.slice id off names.length ci cap ex) (.raw (.int .i64 (j : Int))) = (bif Nat.blt j names.length then some (.ptr id (off + j * 1)) else none) := by kernel_rfl
      rw [e, Nat.blt_eq.mpr hj]
      simp
    · simp only [ldC, gc_of h2]
      have : (names.map AV.str)[j]? = some (.str p) := by rw [List.getElem?_map, hp]; rfl
      rw [← h4, List.getElem?_take, if_pos hj, List.getElem?_drop] at this
      exact this
theorem SlV.tail {s : St} {V : AV} {p : List Nat} {l : List (List Nat)} (h : SlV s V (p :: l)) : ∃ V', sliceOpA TE 41 V (some (.raw (.int .i64 1))) none none = some V' ∧ SlV s V' l := by
  rcases h with ⟨_, h⟩ | ⟨id, off, ci, l', z, _, h⟩ | ⟨id, off, ci, cap, ex, cs, fz, rfl, h2, h3, h4, h5⟩
  · cases h
  · cases h
  · rw [so_sl, sb_lo (i := 1) no_1 (by simp) h5]
    simp only
    by_cases hc : 1 < cap
    · rw [Nat.blt_eq.mpr hc]
      refine ⟨_, rfl, Or.inr (Or.inr ⟨id, off + 1 * 1, ci + 1, cap - 1, ex, cs, fz, by simp, h2, by simp at h3 ⊢; omega, ?_, by simp at h5 ⊢; omega⟩)⟩
      cases hcs : cs.drop off with
      | nil => rw [hcs] at h4; simp at h4
      | cons x r =>
        rw [hcs] at h4
        simp only [List.length_cons, List.take_succ_cons, List.map_cons, List.cons.injEq] at h4
        have : cs.drop (off + 1 * 1) = r := by
          rw [Nat.one_mul, ← List.drop_drop, hcs]
          rfl
        rw [this]
        exact h4.2
    · have hl : l = [] := by simp at h5; cases l with | nil => rfl | cons _ _ => simp at h5; omega
      subst hl
      have : Nat.blt 1 cap = false := by rw [← Bool.not_eq_true, Nat.blt_eq]; exact hc
      rw [this]
      cases ex with
      | true => exact ⟨_, rfl, Or.inr (Or.inr ⟨id, off, ci, 0, true, cs, fz, rfl, h2, by simp at h3 ⊢; omega, by simp, by simp⟩)⟩
      | false => exact ⟨_, rfl, Or.inr (Or.inl ⟨id, off, ci, 1, 1, rfl, rfl⟩)⟩
theorem SlV.take {s : St} {V : AV} {names : List (List Nat)} {j : Nat} (h : SlV s V names) (hj : j ≤ names.length) : ∃ V', sliceOpA TE 41 V none (some (.raw (.int .i64 (j : Int)))) none = some V' ∧ SlV s V' (names.take j) := by
  rcases h with ⟨rfl, rfl⟩ | ⟨id, off, ci, l', z, rfl, rfl⟩ | ⟨id, off, ci, cap, ex, cs, fz, rfl, h2, h3, h4, h5⟩
  · simp only [List.length_nil, Nat.le_zero_eq] at hj
    subst hj
    exact ⟨.raw (.slice none 0 0), by kernel_rfl, Or.inl ⟨rfl, rfl⟩⟩
  · simp only [List.length_nil, Nat.le_zero_eq] at hj
    subst hj
    exact ⟨.esl id off ci l' z, by kernel_rfl, Or.inr (Or.inl ⟨_, _, _, _, _, rfl, rfl⟩)⟩
  · refine ⟨.slice id off j ci cap ex, ?_, Or.inr (Or.inr ⟨id, off, ci, cap, ex, cs, fz, ?_, h2, ?_, ?_, ?_⟩)⟩
    · rw [so_sl, sb_hi (i := j) no_cast (by omega)]
      simp
    · rw [List.length_take, Nat.min_eq_left hj]
    · rw [List.length_take]; omega
    · rw [List.length_take, Nat.min_eq_left hj, List.map_take, ← h4, List.take_take, Nat.min_eq_left hj]
    · rw [List.length_take]; omega
theorem cap_nil : capOpA TE [41] [.raw (.slice none 0 0)] = some (.raw (.int .i64 0)) := by kernel_rfl
theorem len_nil {s : St} : lenOpA TE s [41] [.raw (.slice none 0 0)] = some (.raw (.int .i64 0)) := by kernel_rfl
theorem so_nil : sliceOpA TE 41 (.raw (.slice none 0 0)) none (some (.raw (.int .i64 0))) none = some (.raw (.slice none 0 0)) := by kernel_rfl
theorem app_n {s : St} {n : Nat} (h0 : 0 < n) (hn : n ≤ 60000) : appendA TE s [41, 3] [.raw (.slice none 0 0), .raw (.int .i64 (n : Int))] = some (.slice s.nx 0 n 0 n false, s.alloc (.cells (repL [.str []] n) 9 2)) := by
  have e : appendA TE s [41, 3] [.raw (.slice none 0 0), .raw (.int .i64 (n : Int))] = (bif Nat.ble (n * 16) 1048576 && (Nat.ble n 1048576 && (Nat.blt 0 n && true)) then growA s 9 { desc := .string, size := 1, bytes := 16, zero := some (.string ⟨#[]⟩) } (.raw (.slice none 0 0)) n (repL [.str []] n) else none) := by kernel_rfl
  have e1 : Nat.ble (n * 16) 1048576 = true := Nat.ble_eq.mpr (by omega)
  have e5 : Nat.ble (n * 16) 134217728 = true := Nat.ble_eq.mpr (by omega)
  have e2 : Nat.ble n 1048576 = true := Nat.ble_eq.mpr (by omega)
  have e3 : Nat.blt 0 n = true := Nat.blt_eq.mpr h0
  have e4 : Nat.beq n 0 = false := beq_ne (by omega)
  rw [e, e1, e2, e3]
  simp only [Bool.and_self, cond_true, growA, e4, cond_false, e1, e2, e5]
theorem repL_len : ∀ (n : Nat), (repL [.str []] n).length = n
  | 0 => (rfl)
  | n + 1 => by simp [repL, repL_len n]
theorem grow_c {s : St} (H : Ok TE Tryz.prog pr3) {n : Nat} (hn : n ≤ 60000) {kr kp : AV → St → Bool} (hk : 0 < n → kr (.slice s.nx 0 0 0 n false) (s.alloc (.cells (repL [.str []] n) 9 2)) = true) (hk0 : n = 0 → kr (.raw (.slice none 0 0)) s = true) :
    (sem Tryz.prog).call 173 [.raw (.slice none 0 0), .raw (.int .i64 (n : Int))] s kr kp = true := by
  refine w_call H 27 fn_173 rfl rfl ?_
  have e1 : decide ((n : Int) < 0) = false := by simp
  have e2 : IntKind.i64.wrap (0 - 0) = 0 := rfl
  have e3 : IntKind.i64.wrap ((n : Int) - 0) = (n : Int) := by rw [Int.sub_zero]; exact wrap_nat (by omega)
  by_cases h0 : 0 < n
  · have e4 : decide ((n : Int) > 0) = true := by simp; omega
    have e5 := app_n (s := s) h0 hn
    have e6 : sliceOpA TE 41 (.slice s.nx 0 n 0 n false) none (some (.raw (.int .i64 0))) none = some (.slice s.nx 0 0 0 n false) := by
      rw [so_sl, sb_hi (i := 0) no_0 (by omega)]; simp
    repeat (first | with_reducible (refine w_one H ?_; constructor) | simp only [rB, rP, rQ, boolA, intA, resultA, resA, reduceIte, reduceCtorEq, Nat.reduceAdd, Nat.reduceLT, Nat.reduceEqDiff, UInt8.reduceToNat, pe3, pf3, cap_nil, len_nil, so_nil, b_lt, b_gt, b_minus, e1, e2, e3, e4, e5, e6, Tryz.results173])
    exact hk h0
  · have e4 : decide ((n : Int) > 0) = false := by simp; omega
    repeat (first | with_reducible (refine w_one H ?_; constructor) | simp only [rB, rP, rQ, boolA, intA, resultA, resA, reduceIte, reduceCtorEq, Nat.reduceAdd, Nat.reduceLT, Nat.reduceEqDiff, UInt8.reduceToNat, pe3, pf3, cap_nil, len_nil, so_nil, b_lt, b_gt, b_minus, e1, e2, e3, e4, Tryz.results173])
    exact hk0 (by omega)
theorem putL_app : ∀ {cs : List AV} {n : Nat} {xs : List AV}, n + xs.length ≤ cs.length → putL cs n xs = some (cs.take n ++ xs ++ cs.drop (n + xs.length))
  | cs, n, [], _ => by cases cs <;> cases n <;> simp [putL]
  | [], n, x :: xs, h => by simp at h
  | c :: cs, 0, x :: xs, h => by
    have := putL_app (cs := cs) (n := 0) (xs := xs) (by simp at h ⊢; omega)
    simp only [putL, this, List.take_zero, List.nil_append, Nat.zero_add, List.length_cons, List.drop_succ_cons, List.cons_append]
  | c :: cs, n + 1, x :: xs, h => by
    have := putL_app (cs := cs) (n := n) (xs := x :: xs) (by simp at h ⊢; omega)
    simp only [putL, this, List.take_succ_cons, List.cons_append]
    rw [show n + 1 + (x :: xs).length = (n + (x :: xs).length) + 1 from by simp; omega, List.drop_succ_cons]
theorem all_one : ∀ (l : List (List Nat)), (l.map AV.str).all AV.one = true
  | [] => (rfl)
  | x :: l => by simp only [List.map_cons, List.all_cons, one_str, all_one l, Bool.and_self]
theorem app_fill {s : St} {X : AV} {names : List (List Nat)} {id len cap : Nat} {cs : List AV} (h : SlV s X names) (hg : s.h.get id = some (.cells cs 9 2)) (hl : len + names.length ≤ cap) (hc : cs.length = cap) :
    appendA TE s [41, 41] [.slice id 0 len 0 cap false, X] = some (.slice id 0 (len + names.length) 0 cap false, { s with h := s.h.set id (.cells (cs.take len ++ names.map .str ++ cs.drop (len + names.length)) 9 2) }) := by
  obtain ⟨h1, h2⟩ := h.first
  rw [app_eq]
  simp only [h2, h1, List.length_map, Nat.mul_one, nb_self, all_one, Bool.and_self, cond_true, growA, gc_of hg, Nat.ble_eq.mpr hl, storeCellsA, Nat.zero_add, putL_app (cs := cs) (n := len) (xs := names.map .str) (by simp; omega)]
end Go.AX
namespace Go.AX
open Go.Proofs Go.RowKit
set_option maxRecDepth 1000000
set_option linter.unusedSimpArgs false
theorem len_2 {s : St} {q : Nat} : lenOpA TE s [233] [.slice q 0 2 0 2 true] = some (.raw (.int .i64 2)) := by kernel_rfl
theorem ia_0 {q : Nat} : indexAddrA TE 233 (.slice q 0 2 0 2 true) (.raw (.int .i64 0)) = some (.ptr q 0) := by kernel_rfl
theorem ia_1 {q : Nat} : indexAddrA TE 233 (.slice q 0 2 0 2 true) (.raw (.int .i64 1)) = some (.ptr q 1) := by kernel_rfl
theorem app_nil0 {s : St} {X : AV} (h : SlV s X []) : appendA TE s [41, 41] [.raw (.slice none 0 0), X] = some (.raw (.slice none 0 0), s) := by
  obtain ⟨h1, h2⟩ := h.first
  rw [app_eq]
  have h1 : firstA s 1 0 X = some [] := h1
  have h2 : lenA X = some 0 := h2
  simp only [h2, h1]
  rfl
theorem below_alloc {s : St} (h : Below0 s) (o : AO) : Below0 (s.alloc o) := by
  intro i o' hi
  show i < s.nx + 1
  by_cases hn : i = s.nx
  · omega
  · have := h i o' (by rw [← al_ne (s := s) (o := o) hn]; exact hi)
    omega
theorem below_set {s : St} (h : Below0 s) {j : Nat} (hj : j < s.nx) (o : AO) : Below0 { s with h := s.h.set j o } := by
  intro i o' hi
  show i < s.nx
  by_cases hn : i = j
  · omega
  · exact h i o' (by rw [← hs_ne (h := s.h) (o := o) hn]; exact hi)
theorem concat_c {s : St} (H : Ok TE Tryz.prog pr3) (hb : Below0 s) {V1 V2 : AV} {n1 n2 : List (List Nat)} {q : Nat} (h1 : SlV s V1 n1) (h2 : SlV s V2 n2) (hq : s.h.get q = some (.cells [V1, V2] 41 0)) (hn : n1.length + n2.length ≤ 60000)
    {kr kp : AV → St → Bool} (hk : ∀ V s', SlV s' V (n1 ++ n2) → Ext s s' → Below0 s' → kr V s' = true) : (sem Tryz.prog).call 139 [.slice q 0 2 0 2 true] s kr kp = true := by
  refine w_call H 36 fn_139 rfl rfl ?_
  have hqn := hb q _ hq
  have hqe : q ≠ s.nx := by omega
  have l1 := h1.len
  have l2 := h2.len
  have i1 := h1.ids
  have i2 := h2.ids
  have d0 : decide ((0 : Int) < 2) = true := rfl
  have d1 : decide ((1 : Int) < 2) = true := rfl
  have d2 : decide ((2 : Int) < 2) = false := rfl
  have w1 : IntKind.i64.wrap (0 + 1) = 1 := rfl
  have w2 : IntKind.i64.wrap (1 + 1) = 2 := rfl
  have s1 : IntKind.i64.wrap (0 + (n1.length : Int)) = (n1.length : Int) := by rw [Int.zero_add]; exact wrap_nat (by omega)
  have s2 : IntKind.i64.wrap ((n1.length : Int) + (n2.length : Int)) = ((n1.length + n2.length : Nat) : Int) := by
    rw [show (n1.length : Int) + (n2.length : Int) = ((n1.length + n2.length : Nat) : Int) from by simp]
    exact wrap_nat (by omega)
  have z1 : decide ((n1.length : Int) < 0) = false := by simp
  have z2 : decide (((n1.length + n2.length : Nat) : Int) < 0) = false := by simp; omega
  repeat (first | with_reducible (refine w_one H ?_; constructor) | simp only [rB, rP, rQ, boolA, intA, resultA, resA, reduceIte, reduceCtorEq, Nat.reduceAdd, Nat.reduceLT, Nat.reduceEqDiff, UInt8.reduceToNat, pe3, pf3, len_2, ia_0, ia_1, ld_41, hq, l1, l2, i1, i2, d0, d1, d2, w1, w2, s1, s2, z1, z2, b_lt, b_plus] | (with_reducible refine w_loop H ?_))
  refine grow_c H hn (fun h0 => ?_) (fun h0 => ?_)
  · have f1 := app_fill (s := s.alloc (.cells (repL [.str []] (n1.length + n2.length)) 9 2)) (id := s.nx) (len := 0) (cap := n1.length + n2.length) (h1.ext hb (Ext.alloc s _)) al_same (by omega) (repL_len _)
    have hb1 : Below0 (s.alloc (.cells (repL [.str []] (n1.length + n2.length)) 9 2)) := below_alloc hb _
    generalize hS1 : s.alloc (.cells (repL [.str []] (n1.length + n2.length)) 9 2) = S1 at *
    have hx1 : Ext s S1 := hS1 ▸ Ext.alloc s _
    have hn1 : S1.nx = s.nx + 1 := by rw [← hS1]; rfl
    rw [Nat.zero_add] at f1
    have q1 : S1.h.get q = some (.cells [V1, V2] 41 0) := (hx1.2 q hqn).trans hq
    generalize hS2 : ({ S1 with h := S1.h.set s.nx (.cells (List.take 0 (repL [.str []] (n1.length + n2.length)) ++ List.map AV.str n1 ++ List.drop n1.length (repL [.str []] (n1.length + n2.length))) 9 2) } : St) = S2 at f1
    have g2 : S2.h.get s.nx = some (.cells (List.take 0 (repL [.str []] (n1.length + n2.length)) ++ List.map AV.str n1 ++ List.drop n1.length (repL [.str []] (n1.length + n2.length))) 9 2) := by rw [← hS2]; exact hs_same
    have hx2 : Ext s S2 := ⟨by rw [← hS2]; show s.nx ≤ S1.nx; omega, fun i hi => by rw [← hS2]; exact (hs_ne (by omega)).trans (hx1.2 i hi)⟩
    have q2 : S2.h.get q = some (.cells [V1, V2] 41 0) := (hx2.2 q hqn).trans hq
    have f2 := app_fill (s := S2) (id := s.nx) (len := n1.length) (cap := n1.length + n2.length) (h2.ext hb hx2) g2 (Nat.le_refl _) (by simp [repL_len])
    repeat (first | with_reducible (refine w_one H ?_; constructor) | simp only [rB, rP, rQ, boolA, intA, resultA, resA, reduceIte, reduceCtorEq, Nat.reduceAdd, Nat.reduceLT, Nat.reduceEqDiff, UInt8.reduceToNat, pe3, pf3, len_2, ia_0, ia_1, ld_41, q1, q2, d0, d1, d2, w1, w2, b_lt, b_plus, i1, i2, f1, f2, Tryz.results139] | (with_reducible refine w_loop H ?_))
    refine hk _ _ (Or.inr (Or.inr ⟨s.nx, 0, 0, n1.length + n2.length, false, _, 2, by rw [List.length_append], hs_same, ?_, ?_, by rw [List.length_append]; exact Nat.le_refl _⟩)) ⟨?_, ?_⟩ ?_
    · simp [repL_len]
    · simp only [List.drop_zero, List.length_append, List.take_zero, List.nil_append, List.map_append]
      rw [List.take_left' (l₁ := List.map AV.str n1) (by simp)]
      exact List.take_left' (by simp)
    · exact hx2.1
    · intro i hi
      exact (hs_ne (by omega)).trans (hx2.2 i hi)
    · refine below_set ?_ ?_ _
      · rw [← hS2]; exact below_set hb1 (by omega) _
      · rw [← hS2]; show s.nx < S1.nx; omega
  · have n10 : n1 = [] := List.eq_nil_of_length_eq_zero (by omega)
    have n20 : n2 = [] := List.eq_nil_of_length_eq_zero (by omega)
    subst n10 n20
    have f1 := app_nil0 h1
    have f2 := app_nil0 h2
    repeat (first | with_reducible (refine w_one H ?_; constructor) | simp only [rB, rP, rQ, boolA, intA, resultA, resA, reduceIte, reduceCtorEq, Nat.reduceAdd, Nat.reduceLT, Nat.reduceEqDiff, UInt8.reduceToNat, pe3, pf3, len_2, ia_0, ia_1, ld_41, hq, d0, d1, d2, w1, w2, b_lt, b_plus, i1, i2, f1, f2, Tryz.results139] | (with_reducible refine w_loop H ?_))
    exact hk _ _ (Or.inl ⟨rfl, rfl⟩) (Ext.refl s) hb
end Go.AX
namespace Go.AX
open Go.Proofs Go.RowKit
set_option maxRecDepth 1000000
set_option linter.unusedSimpArgs false
def lookK (p : List Nat) : List (List Nat × Nat) → Option Nat
  | [] => none
  | (q, j) :: l => bif eqB p q then some j else lookK p l
def kidA : Option Nat → AV
  | some j => .ptr j 0
  | none => .raw (.pointer none)
theorem findK_kids {p : List Nat} : ∀ (l : List (List Nat × Nat)) (i : Nat), findK .string (.str p) (kidsA l) i = some (match lookK p l with | some j => some (i + (l.findIdx fun q => eqB p q.1), .ptr j 0) | none => none)
  | [], _ => (rfl)
  | (q, j) :: l, i => by
    simp only [kidsA, List.map_cons, findK, sameK, lookK]
    cases h : eqB p q with
    | true => simp [h, List.findIdx_cons]
    | false =>
      have ih := findK_kids (p := p) l (i + 1)
      simp only [kidsA] at ih
      simp only [ih, cond_false, List.findIdx_cons, h]
      cases lookK p l with
      | none => rfl
      | some _ => simp; omega
theorem lk_kid {s : St} {mp : Nat} {kids : List (List Nat × Nat)} {p : List Nat} (h : s.h.get mp = some (.map (kidsA kids))) : lookupA TE s 107 (.map mp) (.str p) false = some (kidA (lookK p kids)) := by
  have hz : zeroOf TE 103 = some (.raw (.pointer none)) := by kernel_rfl
  have e : lookupA TE s 107 (.map mp) (.str p) false = (match (some { desc := .string, size := 1, bytes := 16, zero := some (.string ⟨#[]⟩) } : Option TI), mapsA s (.map mp) with
      | some ki, some es =>
        bif keyOk ki.desc then
          match findK ki.desc (.str p) es 0 with
          | some (some (_, v)) => some (bif false then .tuple [v, boolA true] else v)
          | some none => match zeroOf TE 103 with
            | some z => some (bif false then .tuple [z, boolA false] else z)
            | none => none
          | none => none
        else none
      | _, _ => none) := by kernel_rfl
  rw [e]
  simp only [mapsA, h, findK_kids, keyOk, cond_true, cond_false, hz]
  cases lookK p kids <;> rfl
def walkT (T : Nodes) (root : Nat) (follow : Bool) : Nat → Nat → Nat → List (List Nat) → Option (Nat ⊕ Nat)
  | 0, _, _, _ => none
  | _ + 1, cur, _, [] => some (.inl cur)
  | f + 1, cur, hops, p :: rest => match T cur with
    | none => none
    | some nd => bif decide (nd.kind ≠ 1) then some (.inr 3) else match lookK p nd.kids with
      | none => some (.inr 1)
      | some kid => match T kid with
        | none => none
        | some kd => bif decide (kd.kind ≠ 3) || (rest.isEmpty && !follow) then walkT T root follow f kid hops rest
          else bif Nat.blt 7 hops then some (.inr 7)
          else match pathT T 20 cur with
            | none => none
            | some cw => bif Nat.ble cw.length 1000 && (asciiB cw && asciiB kd.data) then
              match tcleanL cw kd.data with
              | .inr n => some (.inr n)
              | .inl names => bif Nat.ble (names.length + rest.length) 50000 then walkT T root follow f root (hops + 1) (names ++ rest) else none
              else none
theorem RepT.ext {s s' : St} {T : Nodes} (h : RepT s T) (hb : Below0 s) (he : Ext s s') : RepT s' T := fun i nd hi =>
  ⟨(he.2 i (hb i _ (h i nd hi).1)).trans (h i nd hi).1, (he.2 _ (hb _ _ (h i nd hi).2)).trans (h i nd hi).2⟩
theorem bs_two {s : St} {V1 V2 : AV} (h1 : V1.cells = [V1]) (h2 : V2.cells = [V2]) : buildSliceA TE s 233 2 [(0, V1), (1, V2)] = some (.slice s.nx 0 2 0 2 true, s.alloc (.cells [V1, V2] 41 0)) := by
  have e : buildSliceA TE s 233 2 [(0, V1), (1, V2)] = (match fillA (fun i => some (i * 1, 1)) [.raw (.slice none 0 0), .raw (.slice none 0 0)] [(0, V1), (1, V2)] with
    | some cs => some (.slice s.nx 0 2 0 2 true, s.alloc (.cells cs 41 0))
    | none => none) := by kernel_rfl
  rw [e]
  simp only [fillA, h1, h2]
  rfl
theorem fr_0 {x : Nat} : fieldAddrA TE 106 (.ptr x 0) 0 = some (.ptr x 0) := by kernel_rfl
theorem fr_1 {x : Nat} : fieldAddrA TE 106 (.ptr x 0) 1 = some (.ptr x 1) := by kernel_rfl
theorem walk_c {s : St} (H : Ok TE Tryz.prog pr3) {T : Nodes} (hT : RepT s T) (hB : Below0 s) {x root : Nat} {tl : List AV} (hx : s.h.get x = some (.cells (.ptr root 0 :: tl) 106 0)) {f : Nat} {V : AV} {names : List (List Nat)} {follow : Bool} {out : Nat ⊕ Nat} (hV : SlV s V names) (hlen : names.length ≤ 50000)
    (hw : walkT T root follow f root 0 names = some out) {kr kp : AV → St → Bool} (hk : ∀ n s', out = .inl n → Ext s s' → Below0 s' → kr (.ptr n 0) s' = true) (hq : ∀ c s', out = .inr c → Ext s s' → Below0 s' → kp (.iface 130 (.raw (.int .i64 ((c : Nat) : Int)))) s' = true) :
    (sem Tryz.prog).call 104 [.ptr x 0, V, .raw (.bool follow)] s kr kp = true := by
  refine w_call H 70 fn_104 rfl rfl ?_
  repeat (first | with_reducible (refine w_one H ?_; constructor) | simp only [rB, rP, rQ, boolA, intA, resultA, resA, reduceIte, reduceCtorEq, Nat.reduceAdd, Nat.reduceLT, Nat.reduceEqDiff, UInt8.reduceToNat, pe3, pf3, fr_0, ld_103, hx])
  refine w_loop_ind H (fun n t s' => ∃ cur hops names V, tg t 0 = .ptr x 0 ∧ tg t 1 = V ∧ tg t 2 = .raw (.bool follow) ∧ tg t 7 = .ptr cur 0 ∧ tg t 8 = .raw (.int .i64 ((hops : Nat) : Int)) ∧ hops ≤ 8 ∧ names.length ≤ 50000 ∧ SlV s' V names ∧ Ext s s' ∧ Below0 s' ∧ walkT T root follow n cur hops names = some out)
    ⟨root, 0, names, V, by simp only [rB, rP, rQ, boolA, intA, resultA, resA, reduceIte, reduceCtorEq, Nat.reduceAdd, Nat.reduceLT, Nat.reduceEqDiff, UInt8.reduceToNat], by simp only [rB, rP, rQ, boolA, intA, resultA, resA, reduceIte, reduceCtorEq, Nat.reduceAdd, Nat.reduceLT, Nat.reduceEqDiff, UInt8.reduceToNat], by simp only [rB, rP, rQ, boolA, intA, resultA, resA, reduceIte, reduceCtorEq, Nat.reduceAdd, Nat.reduceLT, Nat.reduceEqDiff, UInt8.reduceToNat], by simp only [rB, rP, rQ, boolA, intA, resultA, resA, reduceIte, reduceCtorEq, Nat.reduceAdd, Nat.reduceLT, Nat.reduceEqDiff, UInt8.reduceToNat], by simp only [rB, rP, rQ, boolA, intA, resultA, resA, reduceIte, reduceCtorEq, Nat.reduceAdd, Nat.reduceLT, Nat.reduceEqDiff, UInt8.reduceToNat]; rfl, by omega, hlen, hV, Ext.refl s, hB, hw⟩ ?_
  clear hV hlen hw V names
  rintro n t s1 ih ⟨cur, hops, names, V, t0, t1, t2, t7, t8, hh, hlen, hV, hE, hB1, hw⟩
  have hT1 := hT.ext hB hE
  have hx1 := (hE.2 x (hB x _ hx)).trans hx
  cases n with
  | zero => cases hw
  | succ n =>
  have vl := hV.len
  have vi := hV.ids
  cases names with
  | nil =>
    simp only [walkT, Option.some.injEq] at hw
    have g0 : decide ((([] : List (List Nat)).length : Int) > 0) = false := rfl
    repeat (first | with_reducible (refine w_one H ?_; constructor) | simp only [rB, rP, rQ, boolA, intA, resultA, resA, reduceIte, reduceCtorEq, Nat.reduceAdd, Nat.reduceLT, Nat.reduceEqDiff, UInt8.reduceToNat, pe3, pf3, t0, t1, t2, t7, t8, vl, vi, b_gt, g0, Tryz.results104])
    exact hk cur s1 hw.symm hE hB1
  | cons p rest =>
  have g0 : decide (((p :: rest).length : Int) > 0) = true := by
    rw [decide_eq_true_eq]
    simp only [List.length_cons]
    omega
  simp only [walkT] at hw
  cases hc : T cur with
  | none => rw [hc] at hw; cases hw
  | some nd =>
  rw [hc] at hw
  simp only at hw
  obtain ⟨hn, hm⟩ := hT1 cur nd hc
  by_cases hd : nd.kind = 1
  · have k1 : (nd.kind != 1) = false := by rw [hd]; rfl
    rw [decide_eq_false (by simpa using hd)] at hw
    simp only [cond_false] at hw
    obtain ⟨id, o, x1, x2, ob, x3⟩ := hV.idx (p := p) (j := 0) rfl
    have x1 : indexAddrA TE 41 V (.raw (.int .i64 0)) = some (.ptr id o) := x1
    have x4 : idsIn s1 [id] = true := by simp [idsIn, x3]
    have lk := lk_kid (p := p) hm
    obtain ⟨V', y1, y2⟩ := hV.tail
    have x2' : ldO (s1.h.get id) o = some (.str p) := by rw [← ldC_o]; exact x2
    have x4' : ∀ b, inO (s1.h.get id) b = b := fun b => by rw [x3]; rfl
    cases hl : lookK p nd.kids with
    | none =>
      rw [hl] at hw lk
      simp only [Option.some.injEq] at hw
      repeat (first | with_reducible (refine w_one H ?_; constructor) | simp only [rB, rP, rQ, boolA, intA, resultA, resA, reduceIte, reduceCtorEq, Nat.reduceAdd, Nat.reduceLT, Nat.reduceEqDiff, UInt8.reduceToNat, pe3, pf3, t0, t1, t2, t7, t8, vl, vi, b_gt, g0, fa_0, ld_3, hn, ndA, b_nei, k1, fa_3, ld_107, x1, ld_9, x2', x4, hm, lk, x4', kidA, b_np, eqS_nn, pu_nn, nil_nil] | (with_reducible refine w_plan H (i := 5) (.take 0 (.take 1 (.take 2 (.take 3 (.take 4 (.take 5 (.take 6 (.take 7 (.take 8 (.done)))))))))) rfl (by kernel_rfl) ?_) | (with_reducible refine fail_no H ?_) | (with_reducible refine fail_yes H ?_))
      exact hq 1 s1 hw.symm hE hB1
    | some kid =>
    rw [hl] at hw lk
    simp only at hw
    cases hk2 : T kid with
    | none => rw [hk2] at hw; cases hw
    | some kd =>
    rw [hk2] at hw
    simp only at hw
    obtain ⟨hn2, hm2⟩ := hT1 kid kd hk2
    have vl2 := y2.len
    have vi2 := y2.ids
    by_cases h3 : kd.kind = 3
    · have k3 : (kd.kind != 3) = false := by rw [h3]; rfl
      rw [decide_eq_false (by simpa using h3), Bool.false_or] at hw
      by_cases hre : rest = [] ∧ follow = false
      · obtain ⟨hr0, hf0⟩ := hre
        have r0 : ((rest.length : Int) == 0) = true := by rw [hr0]; rfl
        rw [hr0, hf0] at hw
        simp only [List.isEmpty_nil, Bool.not_false, Bool.and_self, cond_true] at hw
        rw [← hr0, ← hf0] at hw
        repeat (first | with_reducible (refine w_one H ?_; constructor) | simp only [rB, rP, rQ, boolA, intA, resultA, resA, reduceIte, reduceCtorEq, Nat.reduceAdd, Nat.reduceLT, Nat.reduceEqDiff, UInt8.reduceToNat, pe3, pf3, t0, t1, t2, t7, t8, vl, vi, b_gt, g0, fa_0, ld_3, hn, ndA, b_nei, k1, fa_3, ld_107, x1, ld_9, x2', x4, hm, lk, x4', kidA, b_pp, eq_pn, y1, k3, hn2, vl2, vi2, b_eqi, r0, hf0] | (with_reducible refine w_plan H (i := 5) (.take 0 (.take 1 (.take 2 (.take 3 (.take 4 (.take 5 (.take 6 (.take 7 (.take 8 (.done)))))))))) rfl (by kernel_rfl) ?_) | (with_reducible refine fail_no H ?_))
        exact ih n _ _ (Nat.lt_succ_self n) ⟨kid, hops, rest, V', by simp only [rB, rP, rQ, boolA, intA, resultA, resA, reduceIte, reduceCtorEq, Nat.reduceAdd, Nat.reduceLT, Nat.reduceEqDiff, UInt8.reduceToNat, t0], by simp only [rB, rP, rQ, boolA, intA, resultA, resA, reduceIte, reduceCtorEq, Nat.reduceAdd, Nat.reduceLT, Nat.reduceEqDiff, UInt8.reduceToNat], by simp only [rB, rP, rQ, boolA, intA, resultA, resA, reduceIte, reduceCtorEq, Nat.reduceAdd, Nat.reduceLT, Nat.reduceEqDiff, UInt8.reduceToNat, t2], by simp only [rB, rP, rQ, boolA, intA, resultA, resA, reduceIte, reduceCtorEq, Nat.reduceAdd, Nat.reduceLT, Nat.reduceEqDiff, UInt8.reduceToNat], by simp only [rB, rP, rQ, boolA, intA, resultA, resA, reduceIte, reduceCtorEq, Nat.reduceAdd, Nat.reduceLT, Nat.reduceEqDiff, UInt8.reduceToNat, t8], hh, by simp only [List.length_cons] at hlen; omega, y2, hE, hB1, hw⟩
      · have hcond : (rest.isEmpty && !follow) = false := by
          cases rest with
          | nil => cases follow with | true => rfl | false => exact absurd ⟨rfl, rfl⟩ hre
          | cons _ _ => rfl
        rw [hcond] at hw
        simp only [cond_false] at hw
        have hw1 : IntKind.i64.wrap ((hops : Int) + 1) = ((hops + 1 : Nat) : Int) := by
          rw [show (hops : Int) + 1 = ((hops + 1 : Nat) : Int) from by simp]
          exact wrap_nat (by omega)
        have hlr : rest.length ≤ 50000 := by simp only [List.length_cons] at hlen; omega
        by_cases hr0 : rest = []
        · have hf1 : follow = true := by cases follow with | true => rfl | false => exact absurd ⟨hr0, rfl⟩ hre
          have r0 : ((rest.length : Int) == 0) = true := by rw [hr0]; rfl
          by_cases h8 : 7 < hops
          · rw [Nat.blt_eq.mpr h8] at hw
            simp only [cond_true, Option.some.injEq] at hw
            have g8 : decide (((hops + 1 : Nat) : Int) > 8) = true := by rw [decide_eq_true_eq]; omega
            repeat (first | with_reducible (refine w_one H ?_; constructor) | simp only [rB, rP, rQ, boolA, intA, resultA, resA, reduceIte, reduceCtorEq, Nat.reduceAdd, Nat.reduceLT, Nat.reduceEqDiff, UInt8.reduceToNat, pe3, pf3, t0, t1, t2, t7, t8, vl, vi, b_gt, g0, fa_0, ld_3, hn, ndA, b_nei, k1, fa_3, ld_107, x1, ld_9, x2', x4, hm, lk, x4', kidA, b_pp, eq_pn, y1, k3, hn2, vl2, vi2, b_eqi, b_plus, hw1, fa_2, r0, hf1, g8] | (with_reducible refine w_plan H (i := 5) (.take 0 (.take 1 (.take 2 (.take 3 (.take 4 (.take 5 (.take 6 (.take 7 (.take 8 (.done)))))))))) rfl (by kernel_rfl) ?_) | (with_reducible refine fail_no H ?_) | (with_reducible refine fail_yes H ?_))
            exact hq 7 s1 hw.symm hE hB1
          · have h8' : Nat.blt 7 hops = false := by rw [← Bool.not_eq_true, Nat.blt_eq]; exact h8
            rw [h8'] at hw
            simp only [cond_false] at hw
            have g8 : decide (((hops + 1 : Nat) : Int) > 8) = false := by rw [decide_eq_false_iff_not]; omega
            cases hpp : pathT T 20 cur with
            | none => rw [hpp] at hw; cases hw
            | some cw =>
            rw [hpp] at hw
            simp only at hw
            cases hcd : (Nat.ble cw.length 1000 && (asciiB cw && asciiB kd.data)) with
            | false => rw [hcd] at hw; cases hw
            | true =>
            rw [hcd] at hw
            simp only [cond_true] at hw
            simp only [Bool.and_eq_true] at hcd
            repeat (first | with_reducible (refine w_one H ?_; constructor) | simp only [rB, rP, rQ, boolA, intA, resultA, resA, reduceIte, reduceCtorEq, Nat.reduceAdd, Nat.reduceLT, Nat.reduceEqDiff, UInt8.reduceToNat, pe3, pf3, t0, t1, t2, t7, t8, vl, vi, b_gt, g0, fa_0, ld_3, hn, ndA, b_nei, k1, fa_3, ld_107, x1, ld_9, x2', x4, hm, lk, x4', kidA, b_pp, eq_pn, y1, k3, hn2, vl2, vi2, b_eqi, b_plus, hw1, fa_2, r0, hf1, g8] | (with_reducible refine w_plan H (i := 5) (.take 0 (.take 1 (.take 2 (.take 3 (.take 4 (.take 5 (.take 6 (.take 7 (.take 8 (.done)))))))))) rfl (by kernel_rfl) ?_) | (with_reducible refine fail_no H ?_))
            refine tclean_c H hT1 hpp (Nat.le_of_ble_eq_true hcd.1) hcd.2.1 hcd.2.2 (fun nm he => ?_) (fun c he => ?_)
            · rw [he] at hw
              simp only at hw
              cases hbd : Nat.ble (nm.length + rest.length) 50000 with
              | false => rw [hbd] at hw; cases hw
              | true =>
              rw [hbd] at hw
              simp only [cond_true] at hw
              have hbd := Nat.le_of_ble_eq_true hbd
              have hV1 := SlV.mk (s := s1) (names := nm)
              have hE2 := mkSl_ext (s := s1) (names := nm)
              have hB2 := mkSl_below (names := nm) hB1
              generalize (mkSl 9 nm s1).1 = V1 at *
              generalize (mkSl 9 nm s1).2 = s2 at *
              have y2' := y2.ext hB1 hE2
              have bt := bs_two (s := s2) hV1.cells1.1 y2.cells1.1
              repeat (first | with_reducible (refine w_one H ?_; constructor) | simp only [rB, rP, rQ, boolA, intA, resultA, resA, reduceIte, reduceCtorEq, Nat.reduceAdd, Nat.reduceLT, Nat.reduceEqDiff, UInt8.reduceToNat, pe3, pf3, t0, t1, t2, t7, t8, vl, vi, b_gt, g0, fa_0, ld_3, hn, ndA, b_nei, k1, fa_3, ld_107, x1, ld_9, x2', x4, hm, lk, x4', kidA, b_pp, eq_pn, y1, k3, hn2, vl2, vi2, b_eqi, b_plus, hw1, fa_2, r0, hf1, bt])
              refine concat_c H (below_alloc hB2 _) (hV1.ext hB2 (Ext.alloc s2 _)) (y2'.ext hB2 (Ext.alloc s2 _)) al_same (by omega) (fun V4 s4 q1 q2 q3 => ?_)
              have hE4 := hE.trans (hE2.trans ((Ext.alloc s2 _).trans q2))
              have hx4 := (hE4.2 x (hB x _ hx)).trans hx
              repeat (first | with_reducible (refine w_one H ?_; constructor) | simp only [rB, rP, rQ, boolA, intA, resultA, resA, reduceIte, reduceCtorEq, Nat.reduceAdd, Nat.reduceLT, Nat.reduceEqDiff, UInt8.reduceToNat, pe3, pf3, t0, t1, t2, t7, t8, fr_0, ld_103, hx4])
              exact ih n _ _ (Nat.lt_succ_self n) ⟨root, hops + 1, nm ++ rest, V4, by simp only [rB, rP, rQ, boolA, intA, resultA, resA, reduceIte, reduceCtorEq, Nat.reduceAdd, Nat.reduceLT, Nat.reduceEqDiff, UInt8.reduceToNat, t0], by simp only [rB, rP, rQ, boolA, intA, resultA, resA, reduceIte, reduceCtorEq, Nat.reduceAdd, Nat.reduceLT, Nat.reduceEqDiff, UInt8.reduceToNat], by simp only [rB, rP, rQ, boolA, intA, resultA, resA, reduceIte, reduceCtorEq, Nat.reduceAdd, Nat.reduceLT, Nat.reduceEqDiff, UInt8.reduceToNat, t2], by simp only [rB, rP, rQ, boolA, intA, resultA, resA, reduceIte, reduceCtorEq, Nat.reduceAdd, Nat.reduceLT, Nat.reduceEqDiff, UInt8.reduceToNat], by simp only [rB, rP, rQ, boolA, intA, resultA, resA, reduceIte, reduceCtorEq, Nat.reduceAdd, Nat.reduceLT, Nat.reduceEqDiff, UInt8.reduceToNat, t8], by omega, by rw [List.length_append]; omega, q1, hE4, q3, hw⟩
            · rw [he] at hw
              simp only [Option.some.injEq] at hw
              repeat (first | with_reducible (refine w_one H ?_; constructor) | simp only [rB, rP, rQ, boolA, intA, resultA, resA, reduceIte, reduceCtorEq, Nat.reduceAdd, Nat.reduceLT, Nat.reduceEqDiff, UInt8.reduceToNat, pe3, pf3, t0])
              exact hq c s1 hw.symm hE hB1
        · have r0 : ((rest.length : Int) == 0) = false := by
            rw [beq_eq_false_iff_ne]
            intro h
            exact hr0 (List.eq_nil_of_length_eq_zero (by omega))
          by_cases h8 : 7 < hops
          · rw [Nat.blt_eq.mpr h8] at hw
            simp only [cond_true, Option.some.injEq] at hw
            have g8 : decide (((hops + 1 : Nat) : Int) > 8) = true := by rw [decide_eq_true_eq]; omega
            repeat (first | with_reducible (refine w_one H ?_; constructor) | simp only [rB, rP, rQ, boolA, intA, resultA, resA, reduceIte, reduceCtorEq, Nat.reduceAdd, Nat.reduceLT, Nat.reduceEqDiff, UInt8.reduceToNat, pe3, pf3, t0, t1, t2, t7, t8, vl, vi, b_gt, g0, fa_0, ld_3, hn, ndA, b_nei, k1, fa_3, ld_107, x1, ld_9, x2', x4, hm, lk, x4', kidA, b_pp, eq_pn, y1, k3, hn2, vl2, vi2, b_eqi, b_plus, hw1, fa_2, r0, g8] | (with_reducible refine w_plan H (i := 5) (.take 0 (.take 1 (.take 2 (.take 3 (.take 4 (.take 5 (.take 6 (.take 7 (.take 8 (.done)))))))))) rfl (by kernel_rfl) ?_) | (with_reducible refine fail_no H ?_) | (with_reducible refine fail_yes H ?_))
            exact hq 7 s1 hw.symm hE hB1
          · have h8' : Nat.blt 7 hops = false := by rw [← Bool.not_eq_true, Nat.blt_eq]; exact h8
            rw [h8'] at hw
            simp only [cond_false] at hw
            have g8 : decide (((hops + 1 : Nat) : Int) > 8) = false := by rw [decide_eq_false_iff_not]; omega
            cases hpp : pathT T 20 cur with
            | none => rw [hpp] at hw; cases hw
            | some cw =>
            rw [hpp] at hw
            simp only at hw
            cases hcd : (Nat.ble cw.length 1000 && (asciiB cw && asciiB kd.data)) with
            | false => rw [hcd] at hw; cases hw
            | true =>
            rw [hcd] at hw
            simp only [cond_true] at hw
            simp only [Bool.and_eq_true] at hcd
            repeat (first | with_reducible (refine w_one H ?_; constructor) | simp only [rB, rP, rQ, boolA, intA, resultA, resA, reduceIte, reduceCtorEq, Nat.reduceAdd, Nat.reduceLT, Nat.reduceEqDiff, UInt8.reduceToNat, pe3, pf3, t0, t1, t2, t7, t8, vl, vi, b_gt, g0, fa_0, ld_3, hn, ndA, b_nei, k1, fa_3, ld_107, x1, ld_9, x2', x4, hm, lk, x4', kidA, b_pp, eq_pn, y1, k3, hn2, vl2, vi2, b_eqi, b_plus, hw1, fa_2, r0, g8] | (with_reducible refine w_plan H (i := 5) (.take 0 (.take 1 (.take 2 (.take 3 (.take 4 (.take 5 (.take 6 (.take 7 (.take 8 (.done)))))))))) rfl (by kernel_rfl) ?_) | (with_reducible refine fail_no H ?_))
            refine tclean_c H hT1 hpp (Nat.le_of_ble_eq_true hcd.1) hcd.2.1 hcd.2.2 (fun nm he => ?_) (fun c he => ?_)
            · rw [he] at hw
              simp only at hw
              cases hbd : Nat.ble (nm.length + rest.length) 50000 with
              | false => rw [hbd] at hw; cases hw
              | true =>
              rw [hbd] at hw
              simp only [cond_true] at hw
              have hbd := Nat.le_of_ble_eq_true hbd
              have hV1 := SlV.mk (s := s1) (names := nm)
              have hE2 := mkSl_ext (s := s1) (names := nm)
              have hB2 := mkSl_below (names := nm) hB1
              generalize (mkSl 9 nm s1).1 = V1 at *
              generalize (mkSl 9 nm s1).2 = s2 at *
              have y2' := y2.ext hB1 hE2
              have bt := bs_two (s := s2) hV1.cells1.1 y2.cells1.1
              repeat (first | with_reducible (refine w_one H ?_; constructor) | simp only [rB, rP, rQ, boolA, intA, resultA, resA, reduceIte, reduceCtorEq, Nat.reduceAdd, Nat.reduceLT, Nat.reduceEqDiff, UInt8.reduceToNat, pe3, pf3, t0, t1, t2, t7, t8, vl, vi, b_gt, g0, fa_0, ld_3, hn, ndA, b_nei, k1, fa_3, ld_107, x1, ld_9, x2', x4, hm, lk, x4', kidA, b_pp, eq_pn, y1, k3, hn2, vl2, vi2, b_eqi, b_plus, hw1, fa_2, r0, bt])
              refine concat_c H (below_alloc hB2 _) (hV1.ext hB2 (Ext.alloc s2 _)) (y2'.ext hB2 (Ext.alloc s2 _)) al_same (by omega) (fun V4 s4 q1 q2 q3 => ?_)
              have hE4 := hE.trans (hE2.trans ((Ext.alloc s2 _).trans q2))
              have hx4 := (hE4.2 x (hB x _ hx)).trans hx
              repeat (first | with_reducible (refine w_one H ?_; constructor) | simp only [rB, rP, rQ, boolA, intA, resultA, resA, reduceIte, reduceCtorEq, Nat.reduceAdd, Nat.reduceLT, Nat.reduceEqDiff, UInt8.reduceToNat, pe3, pf3, t0, t1, t2, t7, t8, fr_0, ld_103, hx4])
              exact ih n _ _ (Nat.lt_succ_self n) ⟨root, hops + 1, nm ++ rest, V4, by simp only [rB, rP, rQ, boolA, intA, resultA, resA, reduceIte, reduceCtorEq, Nat.reduceAdd, Nat.reduceLT, Nat.reduceEqDiff, UInt8.reduceToNat, t0], by simp only [rB, rP, rQ, boolA, intA, resultA, resA, reduceIte, reduceCtorEq, Nat.reduceAdd, Nat.reduceLT, Nat.reduceEqDiff, UInt8.reduceToNat], by simp only [rB, rP, rQ, boolA, intA, resultA, resA, reduceIte, reduceCtorEq, Nat.reduceAdd, Nat.reduceLT, Nat.reduceEqDiff, UInt8.reduceToNat, t2], by simp only [rB, rP, rQ, boolA, intA, resultA, resA, reduceIte, reduceCtorEq, Nat.reduceAdd, Nat.reduceLT, Nat.reduceEqDiff, UInt8.reduceToNat], by simp only [rB, rP, rQ, boolA, intA, resultA, resA, reduceIte, reduceCtorEq, Nat.reduceAdd, Nat.reduceLT, Nat.reduceEqDiff, UInt8.reduceToNat, t8], by omega, by rw [List.length_append]; omega, q1, hE4, q3, hw⟩
            · rw [he] at hw
              simp only [Option.some.injEq] at hw
              repeat (first | with_reducible (refine w_one H ?_; constructor) | simp only [rB, rP, rQ, boolA, intA, resultA, resA, reduceIte, reduceCtorEq, Nat.reduceAdd, Nat.reduceLT, Nat.reduceEqDiff, UInt8.reduceToNat, pe3, pf3, t0])
              exact hq c s1 hw.symm hE hB1
    · have k3 : (kd.kind != 3) = true := by rw [bne_iff_ne]; exact h3
      rw [decide_eq_true h3, Bool.true_or] at hw
      simp only [cond_true] at hw
      repeat (first | with_reducible (refine w_one H ?_; constructor) | simp only [rB, rP, rQ, boolA, intA, resultA, resA, reduceIte, reduceCtorEq, Nat.reduceAdd, Nat.reduceLT, Nat.reduceEqDiff, UInt8.reduceToNat, pe3, pf3, t0, t1, t2, t7, t8, vl, vi, b_gt, g0, fa_0, ld_3, hn, ndA, b_nei, k1, fa_3, ld_107, x1, ld_9, x2', x4, hm, lk, x4', kidA, b_pp, eq_pn, y1, k3, hn2, vl2, vi2] | (with_reducible refine w_plan H (i := 5) (.take 0 (.take 1 (.take 2 (.take 3 (.take 4 (.take 5 (.take 6 (.take 7 (.take 8 (.done)))))))))) rfl (by kernel_rfl) ?_) | (with_reducible refine fail_no H ?_))
      exact ih n _ _ (Nat.lt_succ_self n) ⟨kid, hops, rest, V', by simp only [rB, rP, rQ, boolA, intA, resultA, resA, reduceIte, reduceCtorEq, Nat.reduceAdd, Nat.reduceLT, Nat.reduceEqDiff, UInt8.reduceToNat, t0], by simp only [rB, rP, rQ, boolA, intA, resultA, resA, reduceIte, reduceCtorEq, Nat.reduceAdd, Nat.reduceLT, Nat.reduceEqDiff, UInt8.reduceToNat], by simp only [rB, rP, rQ, boolA, intA, resultA, resA, reduceIte, reduceCtorEq, Nat.reduceAdd, Nat.reduceLT, Nat.reduceEqDiff, UInt8.reduceToNat, t2], by simp only [rB, rP, rQ, boolA, intA, resultA, resA, reduceIte, reduceCtorEq, Nat.reduceAdd, Nat.reduceLT, Nat.reduceEqDiff, UInt8.reduceToNat], by simp only [rB, rP, rQ, boolA, intA, resultA, resA, reduceIte, reduceCtorEq, Nat.reduceAdd, Nat.reduceLT, Nat.reduceEqDiff, UInt8.reduceToNat, t8], hh, by simp only [List.length_cons] at hlen; omega, y2, hE, hB1, hw⟩
  · have k1 : (nd.kind != 1) = true := by rw [bne_iff_ne]; exact hd
    rw [decide_eq_true hd] at hw
    simp only [cond_true, Option.some.injEq] at hw
    repeat (first | with_reducible (refine w_one H ?_; constructor) | simp only [rB, rP, rQ, boolA, intA, resultA, resA, reduceIte, reduceCtorEq, Nat.reduceAdd, Nat.reduceLT, Nat.reduceEqDiff, UInt8.reduceToNat, pe3, pf3, t0, t1, t2, t7, t8, vl, vi, b_gt, g0, fa_0, ld_3, hn, ndA, b_nei, k1] | (with_reducible refine fail_yes H ?_))
    exact hq 3 s1 hw.symm hE hB1
end Go.AX
namespace Go.AX
open Go.Proofs Go.RowKit
set_option maxRecDepth 1000000
set_option linter.unusedSimpArgs false
def namesT (T : Nodes) (cwd : Nat) (b : List Nat) : Option (List (List Nat) ⊕ Nat) := match pathT T 20 cwd with
  | none => none
  | some cw => bif Nat.ble cw.length 1000 && (asciiB cw && asciiB b) then
    match tcleanL cw b with
    | .inr n => some (.inr n)
    | .inl names => bif Nat.ble names.length 50000 then some (.inl names) else none
    else none
def findT (T : Nodes) (root cwd : Nat) (b : List Nat) (follow : Bool) : Option (Nat ⊕ Nat) := match namesT T cwd b with
  | none => none
  | some (.inr n) => some (.inr n)
  | some (.inl names) => walkT T root follow 200 root 0 names
def placeT (T : Nodes) (root cwd : Nat) (b : List Nat) : Option ((Nat × List Nat) ⊕ Nat) := match namesT T cwd b with
  | none => none
  | some (.inr n) => some (.inr n)
  | some (.inl names) => match names[names.length - 1]? with
    | none => some (.inr 5)
    | some nm => match walkT T root true 200 root 0 (names.take (names.length - 1)) with
      | none => none
      | some (.inr n) => some (.inr n)
      | some (.inl u) => match T u with
        | none => none
        | some ud => bif decide (ud.kind ≠ 1) then some (.inr 3) else some (.inl (u, nm))
theorem namesT_c {s : St} (H : Ok TE Tryz.prog pr3) {T : Nodes} (hT : RepT s T) (hB : Below0 s) {cwd : Nat} {b : List Nat} {out : List (List Nat) ⊕ Nat} (hn : namesT T cwd b = some out) {kr kp : AV → St → Bool}
    (hk : ∀ names V s', out = .inl names → names.length ≤ 50000 → SlV s' V names → Ext s s' → Below0 s' → kr V s' = true) (hq : ∀ c : Nat, out = .inr c → kp (.iface 130 (.raw (.int .i64 (c : Int)))) s = true) :
    (sem Tryz.prog).call 105 [.ptr cwd 0, .str b] s kr kp = true := by
  unfold namesT at hn
  cases hp : pathT T 20 cwd with
  | none => rw [hp] at hn; cases hn
  | some cw =>
  rw [hp] at hn
  simp only at hn
  cases hc : (Nat.ble cw.length 1000 && (asciiB cw && asciiB b)) with
  | false => rw [hc] at hn; cases hn
  | true =>
  rw [hc] at hn
  simp only [cond_true] at hn
  simp only [Bool.and_eq_true] at hc
  refine tclean_c H hT hp (Nat.le_of_ble_eq_true hc.1) hc.2.1 hc.2.2 (fun nm he => ?_) (fun c he => ?_)
  · rw [he] at hn
    simp only at hn
    cases hb : Nat.ble nm.length 50000 with
    | false => rw [hb] at hn; cases hn
    | true =>
      rw [hb] at hn
      simp only [cond_true, Option.some.injEq] at hn
      exact hk nm _ _ hn.symm (Nat.le_of_ble_eq_true hb) SlV.mk mkSl_ext (mkSl_below hB)
  · rw [he] at hn
    simp only [Option.some.injEq] at hn
    exact hq c hn.symm
theorem find_c {s : St} (H : Ok TE Tryz.prog pr3) {T : Nodes} (hT : RepT s T) (hB : Below0 s) {x root cwd : Nat} {tl : List AV} (hx : s.h.get x = some (.cells (.ptr root 0 :: .ptr cwd 0 :: tl) 106 0)) {b : List Nat} {follow : Bool} {out : Nat ⊕ Nat} (hf : findT T root cwd b follow = some out)
    {kr kp : AV → St → Bool} (hk : ∀ n s', out = .inl n → Ext s s' → Below0 s' → kr (.ptr n 0) s' = true) (hq : ∀ c s', out = .inr c → Ext s s' → Below0 s' → kp (.iface 130 (.raw (.int .i64 ((c : Nat) : Int)))) s' = true) :
    (sem Tryz.prog).call 58 [.ptr x 0, .str b, .raw (.bool follow)] s kr kp = true := by
  refine w_call H 16 fn_58 rfl rfl ?_
  unfold findT at hf
  cases hn : namesT T cwd b with
  | none => rw [hn] at hf; cases hf
  | some o =>
  rw [hn] at hf
  repeat (first | with_reducible (refine w_one H ?_; constructor) | simp only [rB, rP, rQ, boolA, intA, resultA, resA, reduceIte, reduceCtorEq, Nat.reduceAdd, Nat.reduceLT, Nat.reduceEqDiff, UInt8.reduceToNat, pe3, pf3, fr_1, ld_103, hx])
  refine namesT_c H hT hB hn (fun nm V s1 he hl hV hE hB1 => ?_) (fun c he => ?_)
  · subst he
    simp only at hf
    repeat (first | with_reducible (refine w_one H ?_; constructor) | simp only [rB, rP, rQ, boolA, intA, resultA, resA, reduceIte, reduceCtorEq, Nat.reduceAdd, Nat.reduceLT, Nat.reduceEqDiff, UInt8.reduceToNat, pe3, pf3])
    refine walk_c H (hT.ext hB hE) hB1 ((hE.2 x (hB x _ hx)).trans hx) hV hl hf (fun n s2 h1 h2 h3 => ?_) (fun c s2 h1 h2 h3 => ?_)
    · repeat (first | with_reducible (refine w_one H ?_; constructor) | simp only [rB, rP, rQ, boolA, intA, resultA, resA, reduceIte, reduceCtorEq, Nat.reduceAdd, Nat.reduceLT, Nat.reduceEqDiff, UInt8.reduceToNat, pe3, pf3, Tryz.results58])
      exact hk n s2 h1 (hE.trans h2) h3
    · repeat (first | with_reducible (refine w_one H ?_; constructor) | simp only [rB, rP, rQ, boolA, intA, resultA, resA, reduceIte, reduceCtorEq, Nat.reduceAdd, Nat.reduceLT, Nat.reduceEqDiff, UInt8.reduceToNat, pe3, pf3])
      exact hq c s2 h1 (hE.trans h2) h3
  · subst he
    simp only [Option.some.injEq] at hf
    repeat (first | with_reducible (refine w_one H ?_; constructor) | simp only [rB, rP, rQ, boolA, intA, resultA, resA, reduceIte, reduceCtorEq, Nat.reduceAdd, Nat.reduceLT, Nat.reduceEqDiff, UInt8.reduceToNat, pe3, pf3])
    exact hq c s hf.symm (Ext.refl s) hB
end Go.AX
namespace Go.AX
open Go.Proofs Go.RowKit
set_option maxRecDepth 1000000
set_option linter.unusedSimpArgs false
structure Cl where
  op : Int
  path : List Nat
  path2 : List Nat
  fd : Int
  off : Int
  num : Int
  mode : Int
  data : List Nat
def clL (c : Cl) : List AV := [.raw (.int .i64 c.op), .str c.path, .str c.path2, .raw (.int .i64 c.fd), .raw (.int .i64 c.off), .raw (.int .i64 c.num), .raw (.int .i64 c.mode), .str c.data]
def anL (status num kind mode : Int) (data : List Nat) (names : AV) : List AV := [.raw (.int .i64 status), .raw (.int .i64 num), .raw (.int .i64 kind), .raw (.int .i64 mode), .str data, names]
def nilS : AV := .raw (.slice none 0 0)
theorem fc_0 {x : Nat} : fieldAddrA TE 47 (.ptr x 0) 0 = some (.ptr x 0) := by kernel_rfl
theorem fc_1 {x : Nat} : fieldAddrA TE 47 (.ptr x 0) 1 = some (.ptr x 1) := by kernel_rfl
theorem fc_4 {x : Nat} : fieldAddrA TE 47 (.ptr x 0) 4 = some (.ptr x 4) := by kernel_rfl
theorem fc_5 {x : Nat} : fieldAddrA TE 47 (.ptr x 0) 5 = some (.ptr x 5) := by kernel_rfl
theorem all_an {s : St} : allocA TE s 43 = some (.ptr s.nx 0, s.alloc (.cells (anL 0 0 0 0 [] nilS) 43 0)) := by
  have : zeroOf TE 43 = some (.agg (anL 0 0 0 0 [] nilS)) := by kernel_rfl
  simp only [allocA, this]; rfl
theorem size_an : sizeT TE 43 = 6 := by kernel_rfl
theorem agg_an : (match TE.info 43 with | some ti => isAggD ti.desc && Nat.beq ti.size 6 | none => false) = true := by kernel_rfl
theorem agg_cl : (match TE.info 47 with | some ti => isAggD ti.desc && Nat.beq ti.size 8 | none => false) = true := by kernel_rfl
def stA (s : St) (x : Nat) (c : Option AO) (vs : List AV) : Option St := match c with
  | some (.cells cs el fz) => match putL cs 0 vs with
    | some cs' => some { s with h := s.h.set x (.cells cs' el fz) }
    | none => none
  | _ => none
theorem st_an {s : St} {x : Nat} {st n k m : Int} {d : List Nat} {N : AV} (hN : N.one = true) : storeA TE s 43 (.ptr x 0) (.agg (anL st n k m d N)) = stA s x (s.h.get x) (anL st n k m d N) := by
  have hs := size_an
  unfold sizeT at hs
  cases ht : TE.info 43 with
  | none => rw [ht] at hs; cases hs
  | some ti =>
    rw [ht] at hs
    simp only at hs
    have hall : (anL st n k m d N).all AV.one = true := by simp [anL, List.all_cons, one_raw_int, one_str, hN]
    simp only [storeA, ht, hs, cells_agg, storeCellsA, hall]
    show (bif true then _ else _) = _
    simp only [cond_true, stA, getCells]
    cases s.h.get x with
    | none => rfl
    | some y => cases y <;> rfl
theorem stA_an {s : St} {x el fz : Nat} {a b c d : Int} {e : List Nat} {M : AV} {st n k m : Int} {f : List Nat} {N : AV} : stA s x (some (.cells (anL a b c d e M) el fz)) (anL st n k m f N) = some { s with h := s.h.set x (.cells (anL st n k m f N) el fz) } := (rfl)
theorem one_nilS : nilS.one = true := (rfl)
def ldG (n : Nat) (o : Option AO) : Option AV := match o with
  | some (.cells cs _ _) => match cutL 0 n cs with
    | some l => some (.agg l)
    | none => none
  | some (.old cs) => match cutL 0 n cs with
    | some l => some (.agg l)
    | none => none
  | _ => none
theorem ldG_gen {t n x : Nat} {s : St} (hs : (match TE.info t with | some ti => isAggD ti.desc && Nat.beq ti.size n | none => false) = true) : loadA TE s t (.ptr x 0) = ldG n (s.h.get x) := by
  cases ht : TE.info t with
  | none => rw [ht] at hs; cases hs
  | some ti =>
    rw [ht] at hs
    simp only [Bool.and_eq_true] at hs
    have h2 := Nat.eq_of_beq_eq_true hs.2
    simp only [loadA, ht, ldG, getCells, oldL]
    cases s.h.get x with
    | none => rfl
    | some y =>
      cases y with
      | cells cs el fz =>
        simp only [hs.1, cond_true, h2]
        rfl
      | old cs =>
        simp only [hs.1, cond_true, h2]
        rfl
      | _ => rfl
theorem ld_an {s : St} {x : Nat} : loadA TE s 43 (.ptr x 0) = ldG 6 (s.h.get x) := ldG_gen agg_an
theorem ld_cl {s : St} {x : Nat} : loadA TE s 47 (.ptr x 0) = ldG 8 (s.h.get x) := ldG_gen agg_cl
theorem ldG_an {a b c d : Int} {e : List Nat} {M : AV} {el fz : Nat} : ldG 6 (some (.cells (anL a b c d e M) el fz)) = some (.agg (anL a b c d e M)) := (rfl)
theorem ldG_cl {a0 a1 a2 a3 a4 a5 a6 a7 : AV} {el fz : Nat} : ldG 8 (some (.cells [a0, a1, a2, a3, a4, a5, a6, a7] el fz)) = some (.agg [a0, a1, a2, a3, a4, a5, a6, a7]) := (rfl)
def readT (data : List Nat) (off num : Int) : List Nat ⊕ Nat := bif decide (off < 0) || (decide (num < 0) || decide (num > 512)) then .inr 5 else
  .inl ((data.drop (min off.toNat data.length)).take (min num.toNat (data.length - min off.toNat data.length)))
theorem bd_rd {d : List Nat} {n : Int} : buildA TE 43 [(4, .str d), (1, .raw (.int .i64 n))] = some (.agg (anL 0 n 0 0 d nilS)) := by kernel_rfl
theorem read_c {s : St} (H : Ok TE Tryz.prog pr3) (hB : Below0 s) {i : Nat} {nd : Nd} (hn : s.h.get i = some (ndA nd)) (hl : nd.data.length ≤ 1000000) {c : Cl} {kr kp : AV → St → Bool}
    (hk : ∀ d s', readT nd.data c.off c.num = .inl d → Ext s s' → Below0 s' → kr (.agg (anL 0 (d.length : Int) 0 0 d nilS)) s' = true) (hq : ∀ n s', readT nd.data c.off c.num = .inr n → Ext s s' → Below0 s' → kp (.iface 130 (.raw (.int .i64 ((n : Nat) : Int)))) s' = true) :
    (sem Tryz.prog).call 96 [.ptr i 0, .agg (clL c)] s kr kp = true := by
  refine w_call H 50 fn_96 rfl rfl ?_
  have hi := hB i _ hn
  have n1 : s.nx ≠ s.nx + 1 := by omega
  have n2 : s.nx + 1 ≠ s.nx := by omega
  have n3 : i ≠ s.nx := by omega
  have n4 : i ≠ s.nx + 1 := by omega
  have m1 : (s.nx = s.nx + 1) = False := by simp
  have m2 : (s.nx + 1 = s.nx) = False := by simp
  have m3 : (i = s.nx) = False := by simp [n3]
  have m4 : (i = s.nx + 1) = False := by simp [n4]
  have hE : Ext s ((s.alloc (.cells (clL c) 47 0)).alloc (.cells (anL 0 0 0 0 [] nilS) 43 0)) := (Ext.alloc s _).trans (Ext.alloc _ _)
  have hB2 := below_alloc (below_alloc hB (.cells (clL c) 47 0)) (.cells (anL 0 0 0 0 [] nilS) 43 0)
  unfold readT at hk hq
  by_cases b1 : c.off < 0
  · rw [decide_eq_true b1, Bool.true_or] at hq
    have e1 := decide_eq_true b1
    repeat (first | with_reducible (refine w_one H ?_; constructor) | simp only [rB, rP, rQ, boolA, intA, resultA, resA, reduceIte, reduceCtorEq, Nat.reduceAdd, Nat.reduceLT, Nat.reduceEqDiff, UInt8.reduceToNat, pe3, pf3, all_an, cells_agg, fc_4, fc_5, clL, ld_3, m1, m2, b_lt, b_gt, e1] | (with_reducible refine fail_yes H ?_))
    exact hq 5 _ rfl hE hB2
  have e1 := decide_eq_false b1
  rw [e1, Bool.false_or] at hq hk
  by_cases b2 : c.num < 0
  · rw [decide_eq_true b2, Bool.true_or] at hq
    have e2 := decide_eq_true b2
    repeat (first | with_reducible (refine w_one H ?_; constructor) | simp only [rB, rP, rQ, boolA, intA, resultA, resA, reduceIte, reduceCtorEq, Nat.reduceAdd, Nat.reduceLT, Nat.reduceEqDiff, UInt8.reduceToNat, pe3, pf3, all_an, cells_agg, fc_4, fc_5, clL, ld_3, m1, m2, b_lt, b_gt, e1, e2] | (with_reducible refine fail_yes H ?_))
    exact hq 5 _ rfl hE hB2
  have e2 := decide_eq_false b2
  rw [e2, Bool.false_or] at hq hk
  by_cases b3 : c.num > 512
  · rw [decide_eq_true b3] at hq
    have e3 := decide_eq_true b3
    repeat (first | with_reducible (refine w_one H ?_; constructor) | simp only [rB, rP, rQ, boolA, intA, resultA, resA, reduceIte, reduceCtorEq, Nat.reduceAdd, Nat.reduceLT, Nat.reduceEqDiff, UInt8.reduceToNat, pe3, pf3, all_an, cells_agg, fc_4, fc_5, clL, ld_3, m1, m2, b_lt, b_gt, e1, e2, e3] | (with_reducible refine fail_yes H ?_))
    exact hq 5 _ rfl hE hB2
  have e3 := decide_eq_false b3
  rw [e3] at hk
  simp only [cond_false] at hk
  clear hq
  obtain ⟨o, ho⟩ : ∃ o, min c.off.toNat nd.data.length = o := ⟨_, rfl⟩
  obtain ⟨n, hn'⟩ : ∃ n, min c.num.toNat (nd.data.length - o) = n := ⟨_, rfl⟩
  rw [ho, hn'] at hk
  have j1 : (if (nd.data.length : Int) < c.off then (nd.data.length : Int) else c.off) = (o : Int) := by split <;> omega
  have j2 : IntKind.i64.wrap ((nd.data.length : Int) - (o : Int)) = ((nd.data.length - o : Nat) : Int) := by
    rw [show (nd.data.length : Int) - (o : Int) = ((nd.data.length - o : Nat) : Int) from by omega]
    exact wrap_nat (by omega)
  have j3 : (if ((nd.data.length - o : Nat) : Int) < c.num then ((nd.data.length - o : Nat) : Int) else c.num) = (n : Int) := by split <;> omega
  have j4 := sb_lo (n := nd.data.length) (m := nd.data.length) (no_cast (k := .i64) (n := o)) (by omega) (Nat.le_refl _)
  have j5 : ((nd.data.drop o).take (nd.data.length - o)) = nd.data.drop o := List.take_of_length_le (by simp)
  have j6 := sb_hi (n := (nd.data.drop o).length) (m := (nd.data.drop o).length) (no_cast (k := .i64) (n := n)) (by simp; omega)
  have hq1 : ∀ x : List Nat, List.take (n - 0) (List.drop 0 x) = x.take n := fun x => by simp
  repeat (first | with_reducible (refine w_one H ?_; constructor) | simp only [rB, rP, rQ, boolA, intA, resultA, resA, reduceIte, reduceCtorEq, Nat.reduceAdd, Nat.reduceLT, Nat.reduceEqDiff, UInt8.reduceToNat, pe3, pf3, all_an, cells_agg, fc_4, fc_5, fa_2, clL, ld_3, ld_9, hn, ndA, m1, m2, m3, m4, b_lt, b_gt, b_minus, e1, e2, e3, j1, j2, j3, len_str, sl_str, j4, j5, j6, hq1, bd_rd, st_an, stA_an, one_nilS, ld_an, ldG_an, Tryz.results96] | (with_reducible refine fail_no H ?_) | (with_reducible refine w_plan H (i := 2) (.take 0 (.take 1 (.take 2 (.take 3 (.take 4 (.take 5 (.take 6 (.take 7 (.take 8 (.done)))))))))) rfl (by kernel_rfl) ?_) | (with_reducible refine w_plan H (i := 3) (.take 0 (.take 1 (.take 2 (.take 3 (.take 4 (.take 5 (.take 6 (.take 7 (.take 8 (.take 9 (.take 10 (.take 11 (.take 12 (.take 13 (.take 14 (.take 15 (.take 16 (.take 17 (.done))))))))))))))))))) rfl (by kernel_rfl) ?_))
  refine hk _ _ rfl ⟨Nat.le_trans (Nat.le_succ _) (Nat.le_succ _), fun j hj => ?_⟩ (below_set hB2 (by show s.nx + 1 < s.nx + 1 + 1; omega) _)
  exact (hs_ne (by omega)).trans (hE.2 j hj)
end Go.AX
namespace Go.AX
open Go.Proofs Go.RowKit
set_option maxRecDepth 1000000
set_option linter.unusedSimpArgs false
def sizedL (data : List Nat) (n : Nat) : List Nat := bif Nat.ble n data.length then data.take n else data ++ repB [0] (n - data.length)
def writeT (data : List Nat) (off : Int) (wd : List Nat) : List Nat ⊕ Nat := bif decide (off < 0) || Nat.blt 512 wd.length then .inr 5 else bif decide (off > 1024 - (wd.length : Int)) then .inr 9 else
  bif Nat.blt 0 wd.length then .inl (sizedL data off.toNat ++ wd ++ data.drop (min data.length (off.toNat + wd.length))) else .inl data
def Turned (s s' : St) (i : Nat) (o : AO) : Prop := s.nx ≤ s'.nx ∧ s'.h.get i = some o ∧ ∀ j, j < s.nx → j ≠ i → s'.h.get j = s.h.get j
end Go.AX
namespace Go.AX
open Go.Proofs Go.RowKit
set_option maxRecDepth 1000000
set_option linter.unusedSimpArgs false
def sortK (kids : List (List Nat × Nat)) : Option (List (List Nat)) := bif incB (sortL (kids.map (·.1))) && Nat.ble (sortL (kids.map (·.1))).length 1000000 && shortL (sortL (kids.map (·.1))) then some (sortL (kids.map (·.1))) else none
theorem keysL_kids : ∀ (l : List (List Nat × Nat)), keysL (kidsA l) = some (l.map (·.1))
  | [] => (rfl)
  | (q, j) :: l => by
    have ih := keysL_kids l
    simp only [kidsA] at ih
    simp only [kidsA, List.map_cons, keysL, ih]
theorem insSort_ne {x : List Nat} : ∀ {l : List (List Nat)}, insSort x l ≠ []
  | [] => by simp [insSort]
  | y :: l => by simp only [insSort]; cases ltB x y <;> simp
theorem c3_sorted {r : Tasks} {a : Ac} {dst : Option Tmp} {s : St} {k : Ac → St → Bool} {kp : AV → St → Bool} {id mp el : Nat} {kids : List (List Nat × Nat)} {names : List (List Nat)} (h1 : s.h.get id = some (.cells [.map mp] el 0)) (h2 : s.h.get mp = some (.map (kidsA kids))) (h3 : sortK kids = some names) :
    callV pr3 r (.fn 133 []) [.fn 168 [.ptr id 0]] a dst s k kp = putK a dst (mkSl 9 names s).1 (mkSl 9 names s).2 k := by
  refine c_prim (pe3 (by decide)) ?_
  unfold pr3
  rw [add_ne (by decide)]
  unfold pr2
  rw [add_ne (by decide), add_ne (by decide)]
  unfold pr1
  rw [add_ne (by decide), add_ne (by decide)]
  show (match s.h.get id with
      | some (.cells [.map m] _ 0) => match s.h.get m with
        | some (.map es) => match keysL es with
          | some [] => some (AV.raw (.slice none 0 0), s)
          | some ks => sortedA pn s (sortL ks)
          | none => none
        | _ => none
      | _ => none) = _
  rw [h1]
  simp only [h2, keysL_kids]
  unfold sortK at h3
  cases kids with
  | nil =>
    cases h3
    rfl
  | cons q l =>
    simp only [List.map_cons] at h3 ⊢
    generalize hS : sortL (q.1 :: l.map (·.1)) = S at h3 ⊢
    have hne : S ≠ [] := by rw [← hS]; exact insSort_ne
    cases hc : (incB S && Nat.ble S.length 1000000 && shortL S) with
    | false => rw [hc] at h3; cases h3
    | true =>
      rw [hc] at h3
      simp only [cond_true, Option.some.injEq] at h3
      subst h3
      simp only [sortedA, hc, cond_true, mkSl_ne hne]
      rfl
theorem keys_c {s : St} (H : Ok TE Tryz.prog pr3) {mp : Nat} {kr kp : AV → St → Bool} (hk : kr (.fn 168 [.ptr s.nx 0]) (s.alloc (.cells [.map mp] 107 0)) = true) :
    (sem Tryz.prog).call 134 [.map mp] s kr kp = true := by
  refine w_call H 4 fn_134 rfl rfl ?_
  repeat (first | with_reducible (refine w_one H ?_; constructor) | simp only [rB, rP, rQ, boolA, intA, resultA, resA, reduceIte, reduceCtorEq, Nat.reduceAdd, Nat.reduceLT, Nat.reduceEqDiff, UInt8.reduceToNat, Tryz.results134])
  exact hk
theorem names_c {s : St} (H : Ok TE Tryz.prog pr3) (hB : Below0 s) {i : Nat} {nd : Nd} (hn : NRep s i nd) {names : List (List Nat)} (h3 : sortK nd.kids = some names) {kr kp : AV → St → Bool} (hk : ∀ V s', SlV s' V names → Ext s s' → Below0 s' → kr V s' = true) :
    (sem Tryz.prog).call 89 [.ptr i 0] s kr kp = true := by
  refine w_call H 9 fn_89 rfl rfl ?_
  have hn1 := hn.1
  have hmp := hB _ _ hn.2
  have es := fun {r a dst k kp} => c3_sorted (r := r) (a := a) (dst := dst) (k := k) (kp := kp) (s := s.alloc (.cells [.map nd.mp] 107 0)) (id := s.nx) (mp := nd.mp) al_same ((al_ne (by omega)).trans hn.2) h3
  repeat (first | with_reducible (refine w_one H ?_; constructor) | simp only [rB, rP, rQ, boolA, intA, resultA, resA, reduceIte, reduceCtorEq, Nat.reduceAdd, Nat.reduceLT, Nat.reduceEqDiff, UInt8.reduceToNat, pe3, pf3, fa_3, ld_107, hn1, ndA] | (with_reducible refine keys_c H ?_))
  repeat (first | with_reducible (refine w_one H ?_; constructor) | simp only [rB, rP, rQ, boolA, intA, resultA, resA, reduceIte, reduceCtorEq, Nat.reduceAdd, Nat.reduceLT, Nat.reduceEqDiff, UInt8.reduceToNat, pe3, pf3, es, Tryz.results89])
  exact hk _ _ SlV.mk ((Ext.alloc s _).trans mkSl_ext) (mkSl_below (below_alloc hB _))
end Go.AX
namespace Go.AX
open Go.Proofs Go.RowKit
set_option maxRecDepth 1000000
set_option linter.unusedSimpArgs false
theorem bd_na {V : AV} (h : V.cells = [V]) : buildA TE 43 [(5, V)] = some (.agg (anL 0 0 0 0 [] V)) := by
  have hz : ∀ W : AV, buildA TE 43 [(5, W)] = (bif Nat.beq W.cells.length 1 && true then (match putL (anL 0 0 0 0 [] nilS) 5 W.cells with | some cs => some (.agg cs) | none => none) else none) := by
    intro W
    have : buildA TE 43 [(5, W)] = (match (bif Nat.beq W.cells.length 1 && true then (match putL (anL 0 0 0 0 [] nilS) 5 W.cells with | some cs' => some cs' | none => none) else none) with | some cs => some (.agg cs) | none => none) := by kernel_rfl
    rw [this]
    cases Nat.beq W.cells.length 1
    · rfl
    · simp only [Bool.and_self, cond_true]
      cases putL (anL 0 0 0 0 [] nilS) 5 W.cells <;> rfl
  rw [hz, h]
  rfl
def statT (nd : Nd) : Int := bif decide (nd.kind = 1) then (nd.kids.length : Int) else (nd.data.length : Int)
end Go.AX
namespace Go.AX
open Go.Proofs Go.RowKit
set_option maxRecDepth 1000000
set_option linter.unusedSimpArgs false
theorem SlV.setA {s : St} {V : AV} {names : List (List Nat)} (h : SlV s V names) {j : Nat} {st n k m : Int} {d : List Nat} {N : AV} {o : AO} (hj : s.h.get j = some (.cells (anL st n k m d N) 43 0)) : SlV { s with h := s.h.set j o } V names := by
  rcases h with h | h | ⟨id, off, ci, cap, ex, cs, fz, h1, h2, h3⟩
  · exact Or.inl h
  · exact Or.inr (Or.inl h)
  · refine Or.inr (Or.inr ⟨id, off, ci, cap, ex, cs, fz, h1, (hs_ne ?_).trans h2, h3⟩)
    intro hh
    rw [hh, hj] at h2
    simp at h2
theorem look2_c {s : St} (H : Ok TE Tryz.prog pr3) {T : Nodes} (hT : RepT s T) (hB : Below0 s) {x root cwd : Nat} {tl : List AV} (hx : s.h.get x = some (.cells (.ptr root 0 :: .ptr cwd 0 :: tl) 106 0)) {c : Cl} (hop : c.op = 2) {out : Nat ⊕ Nat} (hf : findT T root cwd c.path true = some out) (ht : ∀ n, out = .inl n → ∃ nd, T n = some nd) (hl : ∀ n nd, T n = some nd → nd.data.length ≤ 1000000)
    {kr kp : AV → St → Bool} (hk4 : ∀ n nd s', out = .inl n → T n = some nd → nd.kind = 1 → Ext s s' → Below0 s' → kp (.iface 130 (.raw (.int .i64 4))) s' = true)
    (hk : ∀ n nd d s', out = .inl n → T n = some nd → nd.kind ≠ 1 → readT nd.data c.off c.num = .inl d → Ext s s' → Below0 s' → kr (.agg (anL 0 (d.length : Int) 0 0 d nilS)) s' = true)
    (hk5 : ∀ n nd e s', out = .inl n → T n = some nd → nd.kind ≠ 1 → readT nd.data c.off c.num = .inr e → Ext s s' → Below0 s' → kp (.iface 130 (.raw (.int .i64 ((e : Nat) : Int)))) s' = true)
    (hq : ∀ n s', out = .inr n → Ext s s' → Below0 s' → kp (.iface 130 (.raw (.int .i64 ((n : Nat) : Int)))) s' = true) :
    (sem Tryz.prog).call 53 [.ptr x 0, .agg (clL c)] s kr kp = true := by
  refine w_call H 81 fn_53 rfl rfl ?_
  have m1 : (s.nx = s.nx + 1) = False := by simp
  have m2 : (s.nx + 1 = s.nx) = False := by simp
  have hE : Ext s ((s.alloc (.cells (clL c) 47 0)).alloc (.cells (anL 0 0 0 0 [] nilS) 43 0)) := (Ext.alloc s _).trans (Ext.alloc _ _)
  have hB2 := below_alloc (below_alloc hB (.cells (clL c) 47 0)) (.cells (anL 0 0 0 0 [] nilS) 43 0)
  have hT2 := hT.ext hB hE
  have hx2 := (hE.2 x (hB x _ hx)).trans hx
  have o1 : ((2 : Int) == 2) = true := rfl
  have o2 : ((2 : Int) == 3) = false := rfl
  have o3 : ((2 : Int) == 1) = false := rfl
  have ecl : clL c = [.raw (.int .i64 2), .str c.path, .str c.path2, .raw (.int .i64 c.fd), .raw (.int .i64 c.off), .raw (.int .i64 c.num), .raw (.int .i64 c.mode), .str c.data] := by unfold clL; rw [hop]
  rw [ecl] at hE hB2 hT2 hx2 ⊢
  repeat (first | with_reducible (refine w_one H ?_; constructor) | simp only [rB, rP, rQ, boolA, intA, resultA, resA, reduceIte, reduceCtorEq, Nat.reduceAdd, Nat.reduceLT, Nat.reduceEqDiff, UInt8.reduceToNat, pe3, pf3, all_an, cells_agg, fc_0, fc_1, ld_3, ld_9, m1, m2, b_eqi, o1, o2])
  refine find_c H hT2 hB2 hx2 hf (fun n s1 h1 h2 h3 => ?_) (fun n s1 h1 h2 h3 => ?_)
  · obtain ⟨nd, hnd⟩ := ht n h1
    obtain ⟨hn, hm⟩ := (hT2.ext hB2 h2) n nd hnd
    have c0 : s1.h.get s.nx = some (.cells [.raw (.int .i64 2), .str c.path, .str c.path2, .raw (.int .i64 c.fd), .raw (.int .i64 c.off), .raw (.int .i64 c.num), .raw (.int .i64 c.mode), .str c.data] 47 0) := (h2.2 s.nx (by show s.nx < s.nx + 1 + 1; omega)).trans ((al_ne (by show s.nx ≠ s.nx + 1; omega)).trans al_same)
    have c1 : s1.h.get (s.nx + 1) = some (.cells (anL 0 0 0 0 [] nilS) 43 0) := (h2.2 (s.nx + 1) (by show s.nx + 1 < s.nx + 1 + 1; omega)).trans al_same
    have hlt := h3 _ _ c1
    have hE1 := hE.trans h2
    have fin : ∀ (s2 : St) o, Ext s1 s2 → Ext s { s2 with h := s2.h.set (s.nx + 1) o } := fun s2 o he => ⟨Nat.le_trans hE1.1 he.1, fun j hj => (hs_ne (by omega)).trans ((hE1.trans he).2 j hj)⟩
    by_cases hd : nd.kind = 1
    · have k1 : (nd.kind == 1) = true := by rw [hd]; rfl
      repeat (first | with_reducible (refine w_one H ?_; constructor) | simp only [rB, rP, rQ, boolA, intA, resultA, resA, reduceIte, reduceCtorEq, Nat.reduceAdd, Nat.reduceLT, Nat.reduceEqDiff, UInt8.reduceToNat, pe3, pf3, fc_0, ld_3, ld_9, c0, c1, b_eqi, b_nei, o1, o2, o3, fa_0, fa_1, fa_2, fa_3, hn, ndA, k1] | (with_reducible refine fail_yes H ?_))
      exact hk4 n nd s1 h1 hnd hd hE1 h3
    · have k1 : (nd.kind == 1) = false := by rw [beq_eq_false_iff_ne]; exact hd
      repeat (first | with_reducible (refine w_one H ?_; constructor) | simp only [rB, rP, rQ, boolA, intA, resultA, resA, reduceIte, reduceCtorEq, Nat.reduceAdd, Nat.reduceLT, Nat.reduceEqDiff, UInt8.reduceToNat, pe3, pf3, fc_0, ld_3, ld_9, c0, c1, b_eqi, b_nei, o1, o2, o3, fa_0, fa_1, fa_2, fa_3, hn, ndA, k1, ld_cl, ldG_cl] | (with_reducible refine fail_no H ?_))
      rw [← ecl]
      refine read_c H h3 hn (hl n nd hnd) (fun d s2 r1 r2 r3 => ?_) (fun e s2 r1 r2 r3 => ?_)
      · have c2 := (r2.2 _ hlt).trans c1
        repeat (first | with_reducible (refine w_one H ?_; constructor) | simp only [rB, rP, rQ, boolA, intA, resultA, resA, reduceIte, reduceCtorEq, Nat.reduceAdd, Nat.reduceLT, Nat.reduceEqDiff, UInt8.reduceToNat, pe3, pf3, c2, st_an, stA_an, one_nilS, ld_an, ldG_an, Tryz.results53])
        exact hk n nd d _ h1 hnd hd r1 (fin s2 _ r2) (below_set r3 (r3 _ _ c2) _)
      · repeat (first | with_reducible (refine w_one H ?_; constructor) | simp only [rB, rP, rQ, boolA, intA, resultA, resA, reduceIte, reduceCtorEq, Nat.reduceAdd, Nat.reduceLT, Nat.reduceEqDiff, UInt8.reduceToNat, pe3, pf3])
        exact hk5 n nd e s2 h1 hnd hd r1 (hE1.trans r2) r3
  · repeat (first | with_reducible (refine w_one H ?_; constructor) | simp only [rB, rP, rQ, boolA, intA, resultA, resA, reduceIte, reduceCtorEq, Nat.reduceAdd, Nat.reduceLT, Nat.reduceEqDiff, UInt8.reduceToNat, pe3, pf3])
    exact hq n s1 h1 (hE.trans h2) h3
theorem look3_c {s : St} (H : Ok TE Tryz.prog pr3) {T : Nodes} (hT : RepT s T) (hB : Below0 s) {x root cwd : Nat} {tl : List AV} (hx : s.h.get x = some (.cells (.ptr root 0 :: .ptr cwd 0 :: tl) 106 0)) {c : Cl} (hop : c.op = 3) {out : Nat ⊕ Nat} (hf : findT T root cwd c.path true = some out) (ht : ∀ n, out = .inl n → ∃ nd, T n = some nd) (hs : ∀ n nd, T n = some nd → ∃ nm, sortK nd.kids = some nm)
    {kr kp : AV → St → Bool} (hk3 : ∀ n nd s', out = .inl n → T n = some nd → nd.kind ≠ 1 → Ext s s' → Below0 s' → kp (.iface 130 (.raw (.int .i64 3))) s' = true)
    (hk : ∀ n nd nm V s', out = .inl n → T n = some nd → nd.kind = 1 → sortK nd.kids = some nm → SlV s' V nm → Ext s s' → Below0 s' → kr (.agg (anL 0 0 0 0 [] V)) s' = true)
    (hq : ∀ n s', out = .inr n → Ext s s' → Below0 s' → kp (.iface 130 (.raw (.int .i64 ((n : Nat) : Int)))) s' = true) :
    (sem Tryz.prog).call 53 [.ptr x 0, .agg (clL c)] s kr kp = true := by
  refine w_call H 81 fn_53 rfl rfl ?_
  have m1 : (s.nx = s.nx + 1) = False := by simp
  have m2 : (s.nx + 1 = s.nx) = False := by simp
  have hE : Ext s ((s.alloc (.cells (clL c) 47 0)).alloc (.cells (anL 0 0 0 0 [] nilS) 43 0)) := (Ext.alloc s _).trans (Ext.alloc _ _)
  have hB2 := below_alloc (below_alloc hB (.cells (clL c) 47 0)) (.cells (anL 0 0 0 0 [] nilS) 43 0)
  have hT2 := hT.ext hB hE
  have hx2 := (hE.2 x (hB x _ hx)).trans hx
  have o1 : ((3 : Int) == 2) = false := rfl
  have o2 : ((3 : Int) == 3) = true := rfl
  have o3 : ((3 : Int) == 1) = false := rfl
  have ecl : clL c = [.raw (.int .i64 3), .str c.path, .str c.path2, .raw (.int .i64 c.fd), .raw (.int .i64 c.off), .raw (.int .i64 c.num), .raw (.int .i64 c.mode), .str c.data] := by unfold clL; rw [hop]
  rw [ecl] at hE hB2 hT2 hx2 ⊢
  repeat (first | with_reducible (refine w_one H ?_; constructor) | simp only [rB, rP, rQ, boolA, intA, resultA, resA, reduceIte, reduceCtorEq, Nat.reduceAdd, Nat.reduceLT, Nat.reduceEqDiff, UInt8.reduceToNat, pe3, pf3, all_an, cells_agg, fc_0, fc_1, ld_3, ld_9, m1, m2, b_eqi, o1, o2])
  refine find_c H hT2 hB2 hx2 hf (fun n s1 h1 h2 h3 => ?_) (fun n s1 h1 h2 h3 => ?_)
  · obtain ⟨nd, hnd⟩ := ht n h1
    obtain ⟨hn, hm⟩ := (hT2.ext hB2 h2) n nd hnd
    have c0 : s1.h.get s.nx = some (.cells [.raw (.int .i64 3), .str c.path, .str c.path2, .raw (.int .i64 c.fd), .raw (.int .i64 c.off), .raw (.int .i64 c.num), .raw (.int .i64 c.mode), .str c.data] 47 0) := (h2.2 s.nx (by show s.nx < s.nx + 1 + 1; omega)).trans ((al_ne (by show s.nx ≠ s.nx + 1; omega)).trans al_same)
    have c1 : s1.h.get (s.nx + 1) = some (.cells (anL 0 0 0 0 [] nilS) 43 0) := (h2.2 (s.nx + 1) (by show s.nx + 1 < s.nx + 1 + 1; omega)).trans al_same
    have hlt := h3 _ _ c1
    have hE1 := hE.trans h2
    have fin : ∀ (s2 : St) o, Ext s1 s2 → Ext s { s2 with h := s2.h.set (s.nx + 1) o } := fun s2 o he => ⟨Nat.le_trans hE1.1 he.1, fun j hj => (hs_ne (by omega)).trans ((hE1.trans he).2 j hj)⟩
    by_cases hd : nd.kind = 1
    · have k1 : (nd.kind != 1) = false := by rw [hd]; rfl
      repeat (first | with_reducible (refine w_one H ?_; constructor) | simp only [rB, rP, rQ, boolA, intA, resultA, resA, reduceIte, reduceCtorEq, Nat.reduceAdd, Nat.reduceLT, Nat.reduceEqDiff, UInt8.reduceToNat, pe3, pf3, fc_0, ld_3, ld_9, c0, c1, b_eqi, b_nei, o1, o2, o3, fa_0, fa_1, fa_2, fa_3, hn, ndA, k1] | (with_reducible refine fail_no H ?_))
      obtain ⟨nm, hnm⟩ := hs n nd hnd
      refine names_c H h3 ⟨hn, hm⟩ hnm (fun V s2 r1 r2 r3 => ?_)
      have c2 := (r2.2 _ hlt).trans c1
      have bn := bd_na r1.cells1.1
      repeat (first | with_reducible (refine w_one H ?_; constructor) | simp only [rB, rP, rQ, boolA, intA, resultA, resA, reduceIte, reduceCtorEq, Nat.reduceAdd, Nat.reduceLT, Nat.reduceEqDiff, UInt8.reduceToNat, pe3, pf3, c2, bn, st_an r1.cells1.2, stA_an, ld_an, ldG_an, Tryz.results53])
      refine hk n nd nm V _ h1 hnd hd hnm ?_ (fin s2 _ r2) (below_set r3 (r3 _ _ c2) _)
      exact r1.setA c2
    · have k1 : (nd.kind != 1) = true := by rw [bne_iff_ne]; exact hd
      repeat (first | with_reducible (refine w_one H ?_; constructor) | simp only [rB, rP, rQ, boolA, intA, resultA, resA, reduceIte, reduceCtorEq, Nat.reduceAdd, Nat.reduceLT, Nat.reduceEqDiff, UInt8.reduceToNat, pe3, pf3, fc_0, ld_3, ld_9, c0, c1, b_eqi, b_nei, o1, o2, o3, fa_0, fa_1, fa_2, fa_3, hn, ndA, k1] | (with_reducible refine fail_yes H ?_))
      exact hk3 n nd s1 h1 hnd hd hE1 h3
  · repeat (first | with_reducible (refine w_one H ?_; constructor) | simp only [rB, rP, rQ, boolA, intA, resultA, resA, reduceIte, reduceCtorEq, Nat.reduceAdd, Nat.reduceLT, Nat.reduceEqDiff, UInt8.reduceToNat, pe3, pf3])
    exact hq n s1 h1 (hE.trans h2) h3
end Go.AX
namespace Go.AX
open Go.Proofs Go.RowKit
set_option maxRecDepth 1000000
set_option linter.unusedSimpArgs false
end Go.AX
namespace Go.AX
open Go.Proofs Go.RowKit
set_option maxRecDepth 1000000
set_option linter.unusedSimpArgs false
def eraseK (p : List Nat) : List (List Nat × Nat) → List (List Nat × Nat)
  | [] => []
  | (q, j) :: l => bif eqB p q then l else (q, j) :: eraseK p l
def Chg (s s' : St) (l : List (Nat × AO)) : Prop := s.nx ≤ s'.nx ∧ (∀ q ∈ l, s'.h.get q.1 = some q.2) ∧ ∀ j, j < s.nx → (∀ q ∈ l, j ≠ q.1) → s'.h.get j = s.h.get j
end Go.AX
