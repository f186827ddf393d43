import Derived.Test.YtliabkjjnkemlaaGreatSB3
set_option linter.unusedVariables false
set_option linter.unusedSimpArgs false
set_option linter.defProp false
namespace Go.AX
open Go.Proofs Go.RowKit
set_option maxRecDepth 1000000
set_option linter.unusedSimpArgs false
structure Nd where
  kind : Int
  mode : Int
  data : List Nat
  kids : List (List Nat × Nat)
  up : Option Nat
  name : List Nat
  mp : Nat
def upA : Option Nat → AV
  | none => .raw (.pointer none)
  | some u => .ptr u 0
def kidsA (l : List (List Nat × Nat)) : List (AV × AV) := l.map fun q => (.str q.1, .ptr q.2 0)
def ndA (nd : Nd) : AO := .cells [.raw (.int .i64 nd.kind), .raw (.int .i64 nd.mode), .str nd.data, .map nd.mp, upA nd.up, .str nd.name] 59 0
def NRep (s : St) (i : Nat) (nd : Nd) : Prop := s.h.get i = some (ndA nd) ∧ s.h.get nd.mp = some (.map (kidsA nd.kids))
abbrev Nodes := Nat → Option Nd
def RepT (s : St) (T : Nodes) : Prop := ∀ i nd, T i = some nd → NRep s i nd
theorem fa_0 {x o : Nat} : fieldAddrA TE 59 (.ptr x o) 0 = some (.ptr x (o + 0)) := by kernel_rfl
theorem fa_1 {x o : Nat} : fieldAddrA TE 59 (.ptr x o) 1 = some (.ptr x (o + 1)) := by kernel_rfl
theorem fa_2 {x o : Nat} : fieldAddrA TE 59 (.ptr x o) 2 = some (.ptr x (o + 2)) := by kernel_rfl
theorem fa_3 {x o : Nat} : fieldAddrA TE 59 (.ptr x o) 3 = some (.ptr x (o + 3)) := by kernel_rfl
theorem fa_4 {x o : Nat} : fieldAddrA TE 59 (.ptr x o) 4 = some (.ptr x (o + 4)) := by kernel_rfl
theorem fa_5 {x o : Nat} : fieldAddrA TE 59 (.ptr x o) 5 = some (.ptr x (o + 5)) := by kernel_rfl
theorem b_pp {i j : Nat} {u : AV} : binFast .eql (.ptr i j) u = none := (rfl)
theorem b_np {u : AV} : binFast .eql (.raw (.pointer none)) u = none := (rfl)
theorem b_ppn {i j : Nat} {u : AV} : binFast .neq (.ptr i j) u = none := (rfl)
theorem b_npn {u : AV} : binFast .neq (.raw (.pointer none)) u = none := (rfl)
theorem eq_pn {s : St} {i j : Nat} {d : Option (AV × List Nat)} : eqS TE s .eql 50 (.ptr i j) (.raw (.pointer none)) d = some (.raw (.bool false), []) := by kernel_rfl
def isNilP : AV → Bool
  | .raw (.pointer none) => true
  | _ => false
theorem nil_nil : isNilP (.raw (.pointer none)) = true := (rfl)
theorem isNilP_of {v : AV} (h : isNilP v = true) : v = .raw (.pointer none) := by
  unfold isNilP at h
  split at h
  · rfl
  · cases h
theorem run_nn {i : Nat} : pureRun TE.P (do let r ← (do eqGuard .eql 50 (.tmp i) (.const (.pointer none)) (.pointer none) (.pointer none); binOp .eql 50 (.pointer none) (.pointer none)); pure (Next.value r)) = some (.value (.bool true)) := by kernel_rfl
theorem pu_nn {a : Ac} {dst : Option Tmp} {i : Nat} {ty : TypeId} {pos : String} {after : Array Edge} (hx : isNilP (a.eval (.tmp i)) = true) :
    stepPure TE a ⟨dst, .binOp .eql 50 (.tmp i) (.const (.pointer none)) 50, ty, pos, after, none⟩ = some (.raw (.bool true), []) := by
  have hx := isNilP_of hx
  have h1 : valAt a (.tmp i) = .pointer none := by simp [valAt, hx, toVal]
  have h2 : valAt a (.const (.pointer none)) = .pointer none := rfl
  have hall : (Op.operands (.binOp .eql 50 (.tmp i) (.const (.pointer none)) 50)).toList.all (fun x => (toVal (a.eval x)).isSome) = true := by
    show (List.all [.tmp i, .const (.pointer none)] (fun x => (toVal (a.eval x)).isSome)) = true
    simp only [List.all_cons, List.all_nil, hx]
    rfl
  have hr : pureRun TE.P (execOp (valAt a) ⟨dst, .binOp .eql 50 (.tmp i) (.const (.pointer none)) 50, ty, pos, after, none⟩) = some (.value (.bool true)) := by
    have he : execOp (valAt a) ⟨dst, .binOp .eql 50 (.tmp i) (.const (.pointer none)) 50, ty, pos, after, none⟩ = (do let r ← (do eqGuard .eql 50 (.tmp i) (.const (.pointer none)) (.pointer none) (.pointer none); binOp .eql 50 (.pointer none) (.pointer none)); pure (.value r)) := by
      simp only [execOp, h1, h2]
    rw [he]
    exact run_nn
  simp only [stepPure, hall, cond_true, hr]
  rfl
theorem eqS_nn {s : St} {d : Option (AV × List Nat)} : eqS TE s .eql 50 (.raw (.pointer none)) (.raw (.pointer none)) d = d := by kernel_rfl
theorem c3_join {r : Tasks} {a : Ac} {dst : Option Tmp} {s : St} {k : Ac → St → Bool} {kp : AV → St → Bool} {x y : List Nat} (h : Nat.ble (x.length + y.length) 1000000 = true) :
    callV pr3 r (.fn 53 []) [.str x, .str y] a dst s k kp = putK a dst (.str (joinP x y)) s k := by
  refine c_prim (pe3 (by decide)) ?_
  unfold pr3
  rw [add_ne (by decide)]
  unfold pr2
  rw [add_same]
  simp only [List.append_nil, joinPP, h, cond_true]
def pathT (T : Nodes) : Nat → Nat → Option (List Nat)
  | 0, _ => none
  | f + 1, i => match T i with
    | none => none
    | some nd => match nd.up with
      | none => some []
      | some u => match pathT T f u with
        | none => none
        | some p => bif Nat.ble (p.length + nd.name.length) 1000000 then some (joinP p nd.name) else none
theorem path_c {s : St} (H : Ok TE Tryz.prog pr3) {T : Nodes} (hT : RepT s T) : ∀ {f i : Nat} {p : List Nat} {kr kp : AV → St → Bool}, pathT T f i = some p → kr (.str p) s = true → (sem Tryz.prog).call 33 [.ptr i 0] s kr kp = true
  | 0, _, _, _, _, h, _ => by cases h
  | f + 1, i, p, kr, kp, h, hk => by
    simp only [pathT] at h
    cases hi : T i with
    | none => rw [hi] at h; cases h
    | some nd =>
      rw [hi] at h
      simp only at h
      have hn := (hT i nd hi).1
      refine w_call H 18 fn_33 rfl rfl ?_
      cases hu : nd.up with
      | none =>
        rw [hu] at h
        cases h
        repeat (first | with_reducible (refine w_one H ?_; constructor) | simp only [rB, rP, rQ, boolA, intA, resultA, resA, reduceIte, reduceCtorEq, Nat.reduceAdd, Nat.reduceLT, Nat.reduceEqDiff, UInt8.reduceToNat, pe3, pf3, fa_4, ld_50, hn, ndA, hu, upA, b_np, eqS_nn, pu_nn, nil_nil, Tryz.results33])
        exact hk
      | some u =>
        rw [hu] at h
        simp only at h
        cases hp : pathT T f u with
        | none => rw [hp] at h; cases h
        | some q =>
          rw [hp] at h
          simp only at h
          cases hb : Nat.ble (q.length + nd.name.length) 1000000 with
          | false => rw [hb] at h; cases h
          | true =>
            rw [hb] at h
            cases h
            have ih := @path_c s H T hT f u q
            have ej := fun {r a dst k kp} => c3_join (r := r) (a := a) (dst := dst) (s := s) (k := k) (kp := kp) hb
            repeat (first | with_reducible (refine w_one H ?_; constructor) | simp only [rB, rP, rQ, boolA, intA, resultA, resA, reduceIte, reduceCtorEq, Nat.reduceAdd, Nat.reduceLT, Nat.reduceEqDiff, UInt8.reduceToNat, pe3, pf3, fa_4, fa_5, ld_50, ld_9, hn, ndA, hu, upA, b_pp, eq_pn, ej, Tryz.results33] | (with_reducible refine w_plan H (i := 3) (.take 0 (.take 1 (.take 2 (.take 3 (.take 5 (.take 6 (.take 7 (.take 8 (.alt 4 [0, 1, 2, 3] (.alt 9 [0, 1, 2, 3, 4, 5, 6, 7, 8] (.take 10 (.done)) (.yes)) (.yes)))))))))) rfl (by kernel_rfl) ?_) | (with_reducible refine ih hp ?_))
            exact hk
end Go.AX
namespace Go.AX
open Go.Proofs Go.RowKit
set_option maxRecDepth 1000000
set_option linter.unusedSimpArgs false
def deepT (T : Nodes) : Nat → Nat → Option Nat
  | 0, _ => none
  | f + 1, i => match T i with
    | none => none
    | some nd => match nd.up with
      | none => some 0
      | some u => match deepT T f u with
        | none => none
        | some d => bif Nat.ble d 1000000 then some (d + 1) else none
theorem c3_clean {r : Tasks} {a : Ac} {dst : Option Tmp} {s : St} {k : Ac → St → Bool} {kp : AV → St → Bool} {x y : List Nat} (h1 : x.length ≤ 1000) (h2 : asciiB x = true) (h3 : asciiB y = true) :
    callV pr3 r (.fn 43 []) [.str x, .str y] a dst s k kp = putK a dst (outC (cleanL x y)) s k := by
  refine c_prim (pe3 (by decide)) ?_
  unfold pr3
  rw [add_ne (by decide)]
  unfold pr2
  rw [add_ne (by decide), add_same]
  simp only [List.append_nil, cleanLP, Nat.ble_eq.mpr h1, h2, h3, Bool.and_self, cond_true]
theorem c3_parts {r : Tasks} {a : Ac} {dst : Option Tmp} {s : St} {k : Ac → St → Bool} {kp : AV → St → Bool} {b : List Nat} (hb : b.length ≤ 1000) : callV pr3 r (.fn 62 []) [.str b] a dst s k kp = putK a dst (mkSl 9 (partsL b) s).1 (mkSl 9 (partsL b) s).2 k := by
  refine c_prim (pe3 (by decide)) ?_
  unfold pr3
  rw [add_ne (by decide)]
  unfold pr2
  rw [add_ne (by decide), add_ne (by decide)]
  unfold pr1
  rw [add_ne (by decide), add_same]
  simp only [List.append_nil, partsP, Nat.ble_eq.mpr hb, cond_true]
theorem cleanL_le {x y : List Nat} : (cleanL x y).1.length ≤ 140 := by
  unfold cleanL
  cases cleanB x <;> simp only [cond_true, cond_false, List.length_nil, Nat.zero_le]
  cases eqB y [] <;> simp only [cond_true, cond_false, List.length_nil, Nat.zero_le]
  cases Nat.blt 560 y.length <;> simp only [cond_true, cond_false, List.length_nil, Nat.zero_le]
  split
  · simp
  · rename_i way _
    cases Nat.blt 8 way.length <;> simp only [cond_true, cond_false, List.length_nil, Nat.zero_le]
    cases h : Nat.blt 140 (joinL [47] way).length <;> simp only [cond_true, cond_false, List.length_nil, Nat.zero_le]
    have : ¬ 140 < (joinL [47] way).length := fun hh => by rw [Nat.blt_eq.mpr hh] at h; cases h
    omega
def tcleanL (cwd b : List Nat) : List (List Nat) ⊕ Nat := match cleanL cwd b with
  | (p, c) => bif Nat.beq c 402 || Nat.beq c 403 then .inr 8 else bif Nat.beq c 0 then .inl (partsL p) else .inr 5
end Go.AX
namespace Go.AX
open Go.Proofs Go.RowKit
set_option maxRecDepth 1000000
set_option linter.unusedSimpArgs false
def SlV (s : St) (V : AV) (names : List (List Nat)) : Prop := (V = .raw (.slice none 0 0) ∧ names = []) ∨ (∃ id off ci l z, V = .esl id off ci l z ∧ names = []) ∨
  ∃ id off ci cap ex cs fz, V = .slice id off names.length ci cap ex ∧ s.h.get id = some (.cells cs 9 fz) ∧ off + names.length ≤ cs.length ∧ (cs.drop off).take names.length = names.map .str ∧ names.length ≤ cap
theorem SlV.len {s : St} {V : AV} {names : List (List Nat)} (h : SlV s V names) : ∀ s', lenOpA TE s' [41] [V] = some (.raw (.int .i64 (names.length : Int))) := by
  intro s'
  rcases h with ⟨rfl, rfl⟩ | ⟨id, off, ci, l, z, rfl, rfl⟩ | ⟨id, off, ci, cap, ex, cs, fz, rfl, _⟩ <;> kernel_rfl
theorem SlV.ids {s : St} {V : AV} {names : List (List Nat)} (h : SlV s V names) : idsOf V = [] := by
  rcases h with ⟨rfl, rfl⟩ | ⟨id, off, ci, l, z, rfl, rfl⟩ | ⟨id, off, ci, cap, ex, cs, fz, rfl, _⟩ <;> rfl
theorem SlV.cells1 {s : St} {V : AV} {names : List (List Nat)} (h : SlV s V names) : V.cells = [V] ∧ V.one = true := by
  rcases h with ⟨rfl, rfl⟩ | ⟨id, off, ci, l, z, rfl, rfl⟩ | ⟨id, off, ci, cap, ex, cs, fz, rfl, _⟩ <;> exact ⟨rfl, rfl⟩
def Ext (s s' : St) : Prop := s.nx ≤ s'.nx ∧ ∀ i, i < s.nx → s'.h.get i = s.h.get i
theorem Ext.refl (s : St) : Ext s s := ⟨Nat.le_refl _, fun _ _ => rfl⟩
theorem Ext.trans {s s' s'' : St} (h : Ext s s') (h' : Ext s' s'') : Ext s s'' := ⟨Nat.le_trans h.1 h'.1, fun i hi => (h'.2 i (Nat.lt_of_lt_of_le hi h.1)).trans (h.2 i hi)⟩
theorem Ext.alloc (s : St) (o : AO) : Ext s (s.alloc o) := ⟨Nat.le_succ _, fun i hi => al_ne (by omega)⟩
def Below0 (s : St) : Prop := ∀ i o, s.h.get i = some o → i < s.nx
theorem SlV.ext {s s' : St} {V : AV} {names : List (List Nat)} (h : SlV s V names) (hb : Below0 s) (he : Ext s s') : SlV s' V names := by
  rcases h with h | h | ⟨id, off, ci, cap, ex, cs, fz, h1, h2, h3⟩
  · exact Or.inl h
  · exact Or.inr (Or.inl h)
  · exact Or.inr (Or.inr ⟨id, off, ci, cap, ex, cs, fz, h1, (he.2 id (hb id _ h2)).trans h2, h3⟩)
theorem SlV.mk {s : St} {names : List (List Nat)} : SlV (mkSl 9 names s).2 (mkSl 9 names s).1 names := by
  cases names with
  | nil => exact Or.inl ⟨rfl, rfl⟩
  | cons x l => exact Or.inr (Or.inr ⟨s.nx, 0, 0, (x :: l).length, false, (x :: l).map .str, 2, rfl, al_same, by simp, by rw [List.drop_zero, List.take_of_length_le (by simp)], Nat.le_refl _⟩)
theorem mkSl_ext {names : List (List Nat)} {s : St} : Ext s (mkSl 9 names s).2 := by
  cases names with
  | nil => exact Ext.refl s
  | cons x l => exact Ext.alloc s _
theorem mkSl_below {names : List (List Nat)} {s : St} (h : Below0 s) : Below0 (mkSl 9 names s).2 := by
  cases names with
  | nil => exact h
  | cons x l =>
    intro i o hi
    show i < s.nx + 1
    by_cases hn : i = s.nx
    · omega
    · have := h i o (by rw [← al_ne (s := s) (o := .cells ((x :: l).map .str) 9 2) hn]; exact hi)
      omega
theorem dropL_eq : ∀ {n : Nat} {l : List AV}, n ≤ l.length → dropL n l = some (l.drop n)
  | 0, _, _ => (rfl)
  | _ + 1, [], h => by simp at h
  | n + 1, x :: l, h => by simp only [dropL, dropL_eq (n := n) (l := l) (by simpa using h), List.drop_succ_cons]
theorem cutL_eq {off n : Nat} {l : List AV} (h : off + n ≤ l.length) : cutL off n l = some ((l.drop off).take n) := by
  simp only [cutL, dropL_eq (n := off) (l := l) (by omega), takeL_eq (n := n) (l := l.drop off) (by simp; omega)]
theorem SlV.first {s : St} {V : AV} {names : List (List Nat)} (h : SlV s V names) : firstA s 1 names.length V = some (names.map .str) ∧ lenA V = some names.length := by
  rcases h with ⟨rfl, rfl⟩ | ⟨id, off, ci, l, z, rfl, rfl⟩ | ⟨id, off, ci, cap, ex, cs, fz, rfl, h2, h3, h4, _⟩
  · exact ⟨rfl, rfl⟩
  · exact ⟨rfl, rfl⟩
  · exact ⟨by simp only [firstA, gc_of h2, Nat.mul_one, cutL_eq h3, h4], rfl⟩
theorem SlV.idx {s : St} {V : AV} {names : List (List Nat)} {p : List Nat} {j : Nat} (h : SlV s V names) (hp : names[j]? = some p) : ∃ id o, indexAddrA TE 41 V (.raw (.int .i64 (j : Int))) = some (.ptr id o) ∧ ldC s id o = some (.str p) ∧ (∃ ob, s.h.get id = some ob) := by
  have hj : j < names.length := (List.getElem?_eq_some_iff.1 hp).1
  rcases h with ⟨rfl, rfl⟩ | ⟨id, off, ci, l, z, rfl, rfl⟩ | ⟨id, off, ci, cap, ex, cs, fz, rfl, h2, h3, h4, _⟩
  · simp at hj
  · simp at hj
  · refine ⟨id, off + j, ?_, ?_, _, h2⟩
    · have e : indexAddrA TE 41 (.slice id off names.length ci cap ex) (.raw (.int .i64 (j : Int))) = (bif Nat.blt j names.length then some (.ptr id (off + j * 1)) else none) := by kernel_rfl
      rw [e, Nat.blt_eq.mpr hj]
      simp
    · simp only [ldC, gc_of h2]
      have : (names.map AV.str)[j]? = some (.str p) := by rw [List.getElem?_map, hp]; rfl
      rw [← h4, List.getElem?_take, if_pos hj, List.getElem?_drop] at this
      exact this
theorem SlV.tail {s : St} {V : AV} {p : List Nat} {l : List (List Nat)} (h : SlV s V (p :: l)) : ∃ V', sliceOpA TE 41 V (some (.raw (.int .i64 1))) none none = some V' ∧ SlV s V' l := by
  rcases h with ⟨_, h⟩ | ⟨id, off, ci, l', z, _, h⟩ | ⟨id, off, ci, cap, ex, cs, fz, rfl, h2, h3, h4, h5⟩
  · cases h
  · cases h
  · rw [so_sl, sb_lo (i := 1) no_1 (by simp) h5]
    simp only
    by_cases hc : 1 < cap
    · rw [Nat.blt_eq.mpr hc]
      refine ⟨_, rfl, Or.inr (Or.inr ⟨id, off + 1 * 1, ci + 1, cap - 1, ex, cs, fz, by simp, h2, by simp at h3 ⊢; omega, ?_, by simp at h5 ⊢; omega⟩)⟩
      cases hcs : cs.drop off with
      | nil => rw [hcs] at h4; simp at h4
      | cons x r =>
        rw [hcs] at h4
        simp only [List.length_cons, List.take_succ_cons, List.map_cons, List.cons.injEq] at h4
        have : cs.drop (off + 1 * 1) = r := by
          rw [Nat.one_mul, ← List.drop_drop, hcs]
          rfl
        rw [this]
        exact h4.2
    · have hl : l = [] := by simp at h5; cases l with | nil => rfl | cons _ _ => simp at h5; omega
      subst hl
      have : Nat.blt 1 cap = false := by rw [← Bool.not_eq_true, Nat.blt_eq]; exact hc
      rw [this]
      cases ex with
      | true => exact ⟨_, rfl, Or.inr (Or.inr ⟨id, off, ci, 0, true, cs, fz, rfl, h2, by simp at h3 ⊢; omega, by simp, by simp⟩)⟩
      | false => exact ⟨_, rfl, Or.inr (Or.inl ⟨id, off, ci, 1, 1, rfl, rfl⟩)⟩
theorem SlV.take {s : St} {V : AV} {names : List (List Nat)} {j : Nat} (h : SlV s V names) (hj : j ≤ names.length) : ∃ V', sliceOpA TE 41 V none (some (.raw (.int .i64 (j : Int)))) none = some V' ∧ SlV s V' (names.take j) := by
  rcases h with ⟨rfl, rfl⟩ | ⟨id, off, ci, l', z, rfl, rfl⟩ | ⟨id, off, ci, cap, ex, cs, fz, rfl, h2, h3, h4, h5⟩
  · simp only [List.length_nil, Nat.le_zero_eq] at hj
    subst hj
    exact ⟨.raw (.slice none 0 0), by kernel_rfl, Or.inl ⟨rfl, rfl⟩⟩
  · simp only [List.length_nil, Nat.le_zero_eq] at hj
    subst hj
    exact ⟨.esl id off ci l' z, by kernel_rfl, Or.inr (Or.inl ⟨_, _, _, _, _, rfl, rfl⟩)⟩
  · refine ⟨.slice id off j ci cap ex, ?_, Or.inr (Or.inr ⟨id, off, ci, cap, ex, cs, fz, ?_, h2, ?_, ?_, ?_⟩)⟩
    · rw [so_sl, sb_hi (i := j) no_cast (by omega)]
      simp
    · rw [List.length_take, Nat.min_eq_left hj]
    · rw [List.length_take]; omega
    · rw [List.length_take, Nat.min_eq_left hj, List.map_take, ← h4, List.take_take, Nat.min_eq_left hj]
    · rw [List.length_take]; omega
end Go.AX
namespace Go.AX
open Go.Proofs Go.RowKit
set_option maxRecDepth 1000000
set_option linter.unusedSimpArgs false
theorem below_alloc {s : St} (h : Below0 s) (o : AO) : Below0 (s.alloc o) := by
  intro i o' hi
  show i < s.nx + 1
  by_cases hn : i = s.nx
  · omega
  · have := h i o' (by rw [← al_ne (s := s) (o := o) hn]; exact hi)
    omega
theorem below_set {s : St} (h : Below0 s) {j : Nat} (hj : j < s.nx) (o : AO) : Below0 { s with h := s.h.set j o } := by
  intro i o' hi
  show i < s.nx
  by_cases hn : i = j
  · omega
  · exact h i o' (by rw [← hs_ne (h := s.h) (o := o) hn]; exact hi)
end Go.AX
namespace Go.AX
open Go.Proofs Go.RowKit
set_option maxRecDepth 1000000
set_option linter.unusedSimpArgs false
def lookK (p : List Nat) : List (List Nat × Nat) → Option Nat
  | [] => none
  | (q, j) :: l => bif eqB p q then some j else lookK p l
def kidA : Option Nat → AV
  | some j => .ptr j 0
  | none => .raw (.pointer none)
theorem findK_kids {p : List Nat} : ∀ (l : List (List Nat × Nat)) (i : Nat), findK .string (.str p) (kidsA l) i = some (match lookK p l with | some j => some (i + (l.findIdx fun q => eqB p q.1), .ptr j 0) | none => none)
  | [], _ => (rfl)
  | (q, j) :: l, i => by
    simp only [kidsA, List.map_cons, findK, sameK, lookK]
    cases h : eqB p q with
    | true => simp [h, List.findIdx_cons]
    | false =>
      have ih := findK_kids (p := p) l (i + 1)
      simp only [kidsA] at ih
      simp only [ih, cond_false, List.findIdx_cons, h]
      cases lookK p l with
      | none => rfl
      | some _ => simp; omega
theorem lk_kid {s : St} {mp : Nat} {kids : List (List Nat × Nat)} {p : List Nat} (h : s.h.get mp = some (.map (kidsA kids))) : lookupA TE s 54 (.map mp) (.str p) false = some (kidA (lookK p kids)) := by
  have hz : zeroOf TE 50 = some (.raw (.pointer none)) := by kernel_rfl
  have e : lookupA TE s 54 (.map mp) (.str p) false = (match (some { desc := .string, size := 1, bytes := 16, zero := some (.string ⟨#[]⟩) } : Option TI), mapsA s (.map mp) with
      | some ki, some es =>
        bif keyOk ki.desc then
          match findK ki.desc (.str p) es 0 with
          | some (some (_, v)) => some (bif false then .tuple [v, boolA true] else v)
          | some none => match zeroOf TE 50 with
            | some z => some (bif false then .tuple [z, boolA false] else z)
            | none => none
          | none => none
        else none
      | _, _ => none) := by kernel_rfl
  rw [e]
  simp only [mapsA, h, findK_kids, keyOk, cond_true, cond_false, hz]
  cases lookK p kids <;> rfl
def walkT (T : Nodes) (root : Nat) (follow : Bool) : Nat → Nat → Nat → List (List Nat) → Option (Nat ⊕ Nat)
  | 0, _, _, _ => none
  | _ + 1, cur, _, [] => some (.inl cur)
  | f + 1, cur, hops, p :: rest => match T cur with
    | none => none
    | some nd => bif decide (nd.kind ≠ 1) then some (.inr 3) else match lookK p nd.kids with
      | none => some (.inr 1)
      | some kid => match T kid with
        | none => none
        | some kd => bif decide (kd.kind ≠ 3) || (rest.isEmpty && !follow) then walkT T root follow f kid hops rest
          else bif Nat.blt 7 hops then some (.inr 7)
          else match pathT T 20 cur with
            | none => none
            | some cw => bif Nat.ble cw.length 1000 && (asciiB cw && asciiB kd.data) then
              match tcleanL cw kd.data with
              | .inr n => some (.inr n)
              | .inl names => bif Nat.ble (names.length + rest.length) 50000 then walkT T root follow f root (hops + 1) (names ++ rest) else none
              else none
theorem RepT.ext {s s' : St} {T : Nodes} (h : RepT s T) (hb : Below0 s) (he : Ext s s') : RepT s' T := fun i nd hi =>
  ⟨(he.2 i (hb i _ (h i nd hi).1)).trans (h i nd hi).1, (he.2 _ (hb _ _ (h i nd hi).2)).trans (h i nd hi).2⟩
end Go.AX
namespace Go.AX
open Go.Proofs Go.RowKit
set_option maxRecDepth 1000000
set_option linter.unusedSimpArgs false
def namesT (T : Nodes) (cwd : Nat) (b : List Nat) : Option (List (List Nat) ⊕ Nat) := match pathT T 20 cwd with
  | none => none
  | some cw => bif Nat.ble cw.length 1000 && (asciiB cw && asciiB b) then
    match tcleanL cw b with
    | .inr n => some (.inr n)
    | .inl names => bif Nat.ble names.length 50000 then some (.inl names) else none
    else none
def findT (T : Nodes) (root cwd : Nat) (b : List Nat) (follow : Bool) : Option (Nat ⊕ Nat) := match namesT T cwd b with
  | none => none
  | some (.inr n) => some (.inr n)
  | some (.inl names) => walkT T root follow 200 root 0 names
def placeT (T : Nodes) (root cwd : Nat) (b : List Nat) : Option ((Nat × List Nat) ⊕ Nat) := match namesT T cwd b with
  | none => none
  | some (.inr n) => some (.inr n)
  | some (.inl names) => match names[names.length - 1]? with
    | none => some (.inr 5)
    | some nm => match walkT T root true 200 root 0 (names.take (names.length - 1)) with
      | none => none
      | some (.inr n) => some (.inr n)
      | some (.inl u) => match T u with
        | none => none
        | some ud => bif decide (ud.kind ≠ 1) then some (.inr 3) else some (.inl (u, nm))
end Go.AX
namespace Go.AX
open Go.Proofs Go.RowKit
set_option maxRecDepth 1000000
set_option linter.unusedSimpArgs false
structure Cl where
  op : Int
  path : List Nat
  path2 : List Nat
  fd : Int
  off : Int
  num : Int
  mode : Int
  data : List Nat
def nilS : AV := .raw (.slice none 0 0)
def stA (s : St) (x : Nat) (c : Option AO) (vs : List AV) : Option St := match c with
  | some (.cells cs el fz) => match putL cs 0 vs with
    | some cs' => some { s with h := s.h.set x (.cells cs' el fz) }
    | none => none
  | _ => none
def ldG (n : Nat) (o : Option AO) : Option AV := match o with
  | some (.cells cs _ _) => match cutL 0 n cs with
    | some l => some (.agg l)
    | none => none
  | some (.old cs) => match cutL 0 n cs with
    | some l => some (.agg l)
    | none => none
  | _ => none
theorem ldG_gen {t n x : Nat} {s : St} (hs : (match TE.info t with | some ti => isAggD ti.desc && Nat.beq ti.size n | none => false) = true) : loadA TE s t (.ptr x 0) = ldG n (s.h.get x) := by
  cases ht : TE.info t with
  | none => rw [ht] at hs; cases hs
  | some ti =>
    rw [ht] at hs
    simp only [Bool.and_eq_true] at hs
    have h2 := Nat.eq_of_beq_eq_true hs.2
    simp only [loadA, ht, ldG, getCells, oldL]
    cases s.h.get x with
    | none => rfl
    | some y =>
      cases y with
      | cells cs el fz =>
        simp only [hs.1, cond_true, h2]
        rfl
      | old cs =>
        simp only [hs.1, cond_true, h2]
        rfl
      | _ => rfl
end Go.AX
namespace Go.AX
open Go.Proofs Go.RowKit
set_option maxRecDepth 1000000
set_option linter.unusedSimpArgs false
def Turned (s s' : St) (i : Nat) (o : AO) : Prop := s.nx ≤ s'.nx ∧ s'.h.get i = some o ∧ ∀ j, j < s.nx → j ≠ i → s'.h.get j = s.h.get j
end Go.AX
namespace Go.AX
open Go.Proofs Go.RowKit
set_option maxRecDepth 1000000
set_option linter.unusedSimpArgs false
def sortK (kids : List (List Nat × Nat)) : Option (List (List Nat)) := bif incB (sortL (kids.map (·.1))) && Nat.ble (sortL (kids.map (·.1))).length 1000000 && shortL (sortL (kids.map (·.1))) then some (sortL (kids.map (·.1))) else none
theorem keysL_kids : ∀ (l : List (List Nat × Nat)), keysL (kidsA l) = some (l.map (·.1))
  | [] => (rfl)
  | (q, j) :: l => by
    have ih := keysL_kids l
    simp only [kidsA] at ih
    simp only [kidsA, List.map_cons, keysL, ih]
theorem insSort_ne {x : List Nat} : ∀ {l : List (List Nat)}, insSort x l ≠ []
  | [] => by simp [insSort]
  | y :: l => by simp only [insSort]; cases ltB x y <;> simp
theorem c3_sorted {r : Tasks} {a : Ac} {dst : Option Tmp} {s : St} {k : Ac → St → Bool} {kp : AV → St → Bool} {id mp el : Nat} {kids : List (List Nat × Nat)} {names : List (List Nat)} (h1 : s.h.get id = some (.cells [.map mp] el 0)) (h2 : s.h.get mp = some (.map (kidsA kids))) (h3 : sortK kids = some names) :
    callV pr3 r (.fn 75 []) [.fn 89 [.ptr id 0]] a dst s k kp = putK a dst (mkSl 9 names s).1 (mkSl 9 names s).2 k := by
  refine c_prim (pe3 (by decide)) ?_
  unfold pr3
  rw [add_ne (by decide)]
  unfold pr2
  rw [add_ne (by decide), add_ne (by decide)]
  unfold pr1
  rw [add_ne (by decide), add_ne (by decide)]
  show (match s.h.get id with
      | some (.cells [.map m] _ 0) => match s.h.get m with
        | some (.map es) => match keysL es with
          | some [] => some (AV.raw (.slice none 0 0), s)
          | some ks => sortedA pn s (sortL ks)
          | none => none
        | _ => none
      | _ => none) = _
  rw [h1]
  simp only [h2, keysL_kids]
  unfold sortK at h3
  cases kids with
  | nil =>
    cases h3
    rfl
  | cons q l =>
    simp only [List.map_cons] at h3 ⊢
    generalize hS : sortL (q.1 :: l.map (·.1)) = S at h3 ⊢
    have hne : S ≠ [] := by rw [← hS]; exact insSort_ne
    cases hc : (incB S && Nat.ble S.length 1000000 && shortL S) with
    | false => rw [hc] at h3; cases h3
    | true =>
      rw [hc] at h3
      simp only [cond_true, Option.some.injEq] at h3
      subst h3
      simp only [sortedA, hc, cond_true, mkSl_ne hne]
      rfl
theorem keys_c {s : St} (H : Ok TE Tryz.prog pr3) {mp : Nat} {kr kp : AV → St → Bool} (hk : kr (.fn 89 [.ptr s.nx 0]) (s.alloc (.cells [.map mp] 54 0)) = true) :
    (sem Tryz.prog).call 76 [.map mp] s kr kp = true := by
  refine w_call H 4 fn_76 rfl rfl ?_
  repeat (first | with_reducible (refine w_one H ?_; constructor) | simp only [rB, rP, rQ, boolA, intA, resultA, resA, reduceIte, reduceCtorEq, Nat.reduceAdd, Nat.reduceLT, Nat.reduceEqDiff, UInt8.reduceToNat, Tryz.results76])
  exact hk
theorem names_c {s : St} (H : Ok TE Tryz.prog pr3) (hB : Below0 s) {i : Nat} {nd : Nd} (hn : NRep s i nd) {names : List (List Nat)} (h3 : sortK nd.kids = some names) {kr kp : AV → St → Bool} (hk : ∀ V s', SlV s' V names → Ext s s' → Below0 s' → kr V s' = true) :
    (sem Tryz.prog).call 52 [.ptr i 0] s kr kp = true := by
  refine w_call H 9 fn_52 rfl rfl ?_
  have hn1 := hn.1
  have hmp := hB _ _ hn.2
  have es := fun {r a dst k kp} => c3_sorted (r := r) (a := a) (dst := dst) (k := k) (kp := kp) (s := s.alloc (.cells [.map nd.mp] 54 0)) (id := s.nx) (mp := nd.mp) al_same ((al_ne (by omega)).trans hn.2) h3
  repeat (first | with_reducible (refine w_one H ?_; constructor) | simp only [rB, rP, rQ, boolA, intA, resultA, resA, reduceIte, reduceCtorEq, Nat.reduceAdd, Nat.reduceLT, Nat.reduceEqDiff, UInt8.reduceToNat, pe3, pf3, fa_3, ld_54, hn1, ndA] | (with_reducible refine keys_c H ?_))
  repeat (first | with_reducible (refine w_one H ?_; constructor) | simp only [rB, rP, rQ, boolA, intA, resultA, resA, reduceIte, reduceCtorEq, Nat.reduceAdd, Nat.reduceLT, Nat.reduceEqDiff, UInt8.reduceToNat, pe3, pf3, es, Tryz.results52])
  exact hk _ _ SlV.mk ((Ext.alloc s _).trans mkSl_ext) (mkSl_below (below_alloc hB _))
end Go.AX
namespace Go.AX
open Go.Proofs Go.RowKit
set_option maxRecDepth 1000000
set_option linter.unusedSimpArgs false
end Go.AX
namespace Go.AX
open Go.Proofs Go.RowKit
set_option maxRecDepth 1000000
set_option linter.unusedSimpArgs false
end Go.AX
namespace Go.AX
open Go.Proofs Go.RowKit
set_option maxRecDepth 1000000
set_option linter.unusedSimpArgs false
end Go.AX
namespace Go.AX
open Go.Proofs Go.RowKit
set_option maxRecDepth 1000000
set_option linter.unusedSimpArgs false
def eraseK (p : List Nat) : List (List Nat × Nat) → List (List Nat × Nat)
  | [] => []
  | (q, j) :: l => bif eqB p q then l else (q, j) :: eraseK p l
def Chg (s s' : St) (l : List (Nat × AO)) : Prop := s.nx ≤ s'.nx ∧ (∀ q ∈ l, s'.h.get q.1 = some q.2) ∧ ∀ j, j < s.nx → (∀ q ∈ l, j ≠ q.1) → s'.h.get j = s.h.get j
end Go.AX
