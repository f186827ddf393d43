import Derived.Test.YtnaelolekokhbaaGreatAxLib
import Derived.RowKit3
import Derived.Below
import Derived.ChangeSame
namespace Go.AX
open Go.RowKit Go.ChangeShapes Go.WideShapes
variable {P : Program}

theorem evens_get {α : Type} : ∀ (l : List α) (i : Nat), (evens l)[i]? = l[2 * i]?
  | [], _ => by simp [evens]
  | [a], 0 => rfl
  | [a], i + 1 => by simp [evens, show 2 * (i + 1) = (2 * i + 1) + 1 from by omega]
  | a :: b :: l, 0 => rfl
  | a :: b :: l, i + 1 => by
    rw [show 2 * (i + 1) = 2 * i + 1 + 1 from by omega]
    simp only [evens, List.getElem?_cons_succ]
    exact evens_get l i

theorem ofListF_get {α : Type} : ∀ (f : Nat) (l : List α) (i : Nat) (x : α), (Tr.ofListF f l).get i = some x → l[i]? = some x
  | 0, _, _, _, h => by simp [Tr.ofListF, Tr.get] at h
  | _ + 1, [], _, _, h => by simp [Tr.ofListF, Tr.get] at h
  | f + 1, a :: l, i, x, h => by
    simp only [Tr.ofListF, Tr.get] at h
    cases h0 : Nat.beq i 0 with
    | true =>
      have := Nat.eq_of_beq_eq_true h0
      subst this
      simpa using h
    | false =>
      have hi := Nat.ne_of_beq_eq_false h0
      rw [h0] at h
      simp only [cond_false] at h
      cases h1 : Nat.beq (i % 2) 1 with
      | true =>
        have := Nat.eq_of_beq_eq_true h1
        rw [h1] at h
        simp only [cond_true] at h
        have := ofListF_get f _ _ _ h
        rw [evens_get] at this
        obtain ⟨j, rfl⟩ : ∃ j, i = j + 1 := ⟨i - 1, by omega⟩
        rw [List.getElem?_cons_succ, ← this]
        congr 1
        omega
      | false =>
        have := Nat.ne_of_beq_eq_false h1
        rw [h1] at h
        simp only [cond_false] at h
        have := ofListF_get f _ _ _ h
        rw [evens_get, List.getElem?_drop] at this
        obtain ⟨j, rfl⟩ : ∃ j, i = j + 1 := ⟨i - 1, by omega⟩
        rw [List.getElem?_cons_succ, ← this]
        congr 1
        omega

def tyChk (P : Program) : Bool := P.types.toList.all fun i => match i.desc with
  | .named _ u => (P.info? u).isSome
  | _ => true
def fnChk (P : Program) : Bool := P.funcs.toList.all fun g => g.body.isNone || !(g.name == "runtime.NumGoroutine")

theorem progOk (h1 : tyChk P = true) (h2 : fnChk P = true) (h3 : P.follows .mixedOrders = true) : ProgOk (envOf P) P := {
  prog := rfl
  mixed := h3
  fn := fun f g h => by
    have := ofListF_get _ _ _ _ h
    simpa using this
  named := fun f g h hb => by
    have := ofListF_get _ _ _ _ h
    have hm := List.mem_of_getElem? this
    have := List.all_eq_true.1 h2 g hm
    rw [Bool.or_eq_true] at this
    rcases this with this | this
    · cases hg : g.body with
      | none => rw [hg] at hb; cases hb
      | some c => rw [hg] at this; cases this
    · simpa using this
  ty := fun t ti h => by
    have h := ofListF_get _ _ _ _ h
    simp only [List.getElem?_map, Option.map_eq_some_iff] at h
    obtain ⟨i, hi, rfl⟩ := h
    have hi' : P.types[t]? = some i := by simpa using hi
    have hinf : P.info? t = some i := by
      unfold Tables.info?
      rw [if_pos (Array.getElem?_eq_some_iff.1 hi').1]
      exact hi'
    refine ⟨i, hinf, ?_, rfl, rfl, rfl⟩
    have hchk := List.all_eq_true.1 h1 i (List.mem_of_getElem? hi)
    unfold Program.underlying
    rw [hinf]
    obtain ⟨desc, b1, b2, b3, b4, b5, b6, b7, b8, b9⟩ := i
    cases desc with
    | named n u =>
      simp only at hchk
      simp only [tiOf]
      cases hu : P.info? u with
      | none => rw [hu] at hchk; cases hchk
      | some j => rfl
    | _ => rfl }

theorem sim0 (w : World) : Sim w (fun _ => none) { h := .e, nx := 0 } w :=
  ⟨fun _ _ h => (by simp [Tr.get] at h), fun _ _ _ _ _ _ h => (by simp [Tr.get] at h), fun _ _ h => (by cases h), Below.refl _ w⟩

/-- A row's end: what it hands back holds no address; what lay below stands. -/
theorem post_of_below {H : Type} {enc : TypeId × Value → H} {f : Func} {s : ChangeSpec} {apart fresh handsOn again : Bool} {W W' : World} {args : Array Value} {v : Value} {ds gs : List (DataW H)} {before pa pv : List MemPlace}
    (hW : DataW.Whole enc P f.params.toList s.vars apart W args.toList ds gs before)
    (hres : ∀ (b : Nat) (sp : Nat → Bool) (hd : Bool), DataW.TrodAll enc P W' b sp hd f.resultTypes.toList (v.resultList f.resultTypes.size) (s.fn H (ds ++ gs)).results [])
    (hargs : ∀ sp : Nat → Bool, (∀ p ∈ before, sp p.block = true) → DataW.TrodAll enc P W' 0 sp true f.params.toList args.toList (s.fn H (ds ++ gs)).args pa)
    (hvars : ∀ sp : Nat → Bool, (∀ p ∈ before, sp p.block = true) → DataW.TrodVars enc P W' sp s.vars (s.fn H (ds ++ gs)).vars pv)
    (hps : before = pa ++ pv) (hb : Below W.heap.size W W')
    (hok : ∀ (j : Nat) (t : TypeId) (r : Value), f.resultTypes[j]? = some t → (v.resultList f.resultTypes.size)[j]? = some r → Value.okWide P W' .any 0 t r) :
    s.post enc P f apart fresh handsOn again W args v W' := by
  have hlt := hW.lt
  have hold : ∀ p ∈ before, (fun b => decide (b < W.heap.size)) p.block = true := fun p hp => by simpa using hW.lt p hp
  refine ⟨ds, gs, before, [], pa, pv, hW, hres _ _ _, hargs _ hold, hvars _ hold, World.keptBut_mono (fun p hp => ⟨hp, ?_⟩) (hb.frame (· ∈ before)), fun _ => ?_⟩
  · rw [hps, List.mem_append] at hp
    exact Or.inr hp
  · obtain ⟨_, _, _, _, _, hz, hn⟩ := hW
    refine ⟨hok, _, _, ([] ++ pa) ++ pv, ⟨[] ++ pa, pv, trodAll_append (hargs _ (fun _ _ => rfl)) (hres _ _ _), hvars _ (fun _ _ => rfl), rfl, ?_, ?_⟩, ?_⟩
    · intro b off hp
      have hp' : MemPlace.cell b off ∈ before := by rw [hps]; simpa using hp
      rw [hb.frozen (hlt _ hp')]
      exact hz b off hp'
    · intro ha
      have := hn ha
      rw [hps] at this
      simpa using this
    · intro p hp _
      rw [hps]
      simpa using hp

theorem runs_sound {p : PN} (hP : ProgOk (envOf P) P) (hL : LibOk P p) {fuel f : Nat} {args : List AV} {Args : List Value} (hv : VRels (fun _ => none) args Args) (h : runs P p fuel f args = true) (w : World) :
    Calls P f Args.toArray w fun e w' => e = .returned (.bool true) ∧ Below w.heap.size w w' := by
  have key := (ev_sound hP (prims_ok hL) fuel).call (R := fun V w' => V = .bool true ∧ Below w.heap.size w w') (Rp := fun _ _ => False) h hv (sim0 w) (fun E' v s V w' _ hv hs hk => ?_) (fun _ _ _ _ _ _ _ _ h => by cases h)
  · refine (callsIn_wide (n := 0)).1 (CallsIn.mono key.2 fun en w' he => ?_)
    cases en with
    | returned V => exact ⟨by rw [he.1], he.2⟩
    | panicked ch => obtain ⟨_, _, hh⟩ := he; exact hh.elim
    | outgrown => exact he.elim
  · refine ⟨?_, hs.below⟩
    unfold isTrue at hk
    split at hk
    · rename_i b
      simp only [VRel] at hv
      subst hk hv
      rfl
    · cases hk
end Go.AX
