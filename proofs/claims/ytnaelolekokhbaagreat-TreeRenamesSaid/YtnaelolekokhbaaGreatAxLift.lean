import Derived.Test.YtnaelolekokhbaaGreatAxPlan
namespace Go.AX
open Go.RowKit
variable {P : Program} {w0 : World} {E : Em} {s : St} {w : World}

def st0 : St := { h := .e, nx := 0 }
theorem nx0 : st0.nx = 0 := (rfl)

theorem Sim.addP (h : Sim w0 E s w) {w' : World} (hb : Below w.heap.size w w') {P0 : Nat × Nat × Nat} (hg : w.heap.size ≤ P0.1) {o : AO} {O : Obj} (hO : w'.heap[P0.1]? = some O) (ho : ORel (E.put s.nx P0) P0 o O) :
    Sim w0 (E.put s.nx P0) (s.alloc o) w' := by
  have hle := Em.le_put E s.nx P0 h.free
  have h' := h.grown hb
  have lt : ∀ {id o' p}, s.h.get id = some o' → E id = some p → p.1 < w.heap.size := fun {id o' p} hi hp => by
    obtain ⟨q, O', hq, hO', _, _⟩ := h.obj id o' hi
    rw [hp] at hq; cases hq
    exact (Array.getElem?_eq_some_iff.1 hO').1
  have old : ∀ {id o'}, (s.alloc o).h.get id = some o' → id ≠ s.nx → s.h.get id = some o' := fun {id o'} hi hne => by
    simp only [St.alloc, Tr.get_set] at hi
    rw [if_neg hne] at hi
    exact hi
  have olds : ∀ {id p}, (E.put s.nx P0) id = some p → id ≠ s.nx → E id = some p := fun {id p} hp hne => by
    unfold Em.put at hp
    rw [if_neg hne] at hp
    exact hp
  refine ⟨fun id o' ho' => ?_, fun id id' o1 o2 p p' h1 h2 e1 e2 hp => ?_, fun id p hp => ?_, h'.below⟩
  · by_cases hid : id = s.nx
    · subst hid
      simp only [St.alloc, Tr.get_set, if_true, Option.some.injEq] at ho'
      subst ho'
      exact ⟨_, O, Em.put_same _ _ _, hO, ho, Nat.le_trans h.below.size hg⟩
    · obtain ⟨q, O', hq, hO', hr, hB⟩ := h'.obj id o' (old ho' hid)
      exact ⟨q, O', hle _ _ hq, hO', hr.mono hle, hB⟩
  · by_cases hid : id = s.nx
    · by_cases hid' : id' = s.nx
      · rw [hid, hid']
      · subst hid
        rw [Em.put_same] at e1
        cases e1
        have := lt (old h2 hid') (olds e2 hid')
        omega
    · by_cases hid' : id' = s.nx
      · subst hid'
        rw [Em.put_same] at e2
        cases e2
        have := lt (old h1 hid) (olds e1 hid)
        omega
      · exact h.inj _ _ _ _ _ _ (old h1 hid) (old h2 hid') (olds e1 hid) (olds e2 hid') hp
  · by_cases hid : id = s.nx
    · subst hid; simp [St.alloc]
    · have := h.fresh id p (olds hp hid); simp only [St.alloc]; omega


/-! ### A run in an empty memory, at any memory -/
def flat1 : AV → Bool
  | .raw _ => true
  | .str _ => true
  | _ => false
def flatA : AV → Bool
  | .tuple vs => vs.all flat1
  | v => flat1 v
theorem flat1_rel {E E' : Em} {v : AV} {V : Value} (hf : flat1 v = true) (h : VRel E v V) : VRel E' v V := by
  cases v <;> first | (simp [flat1] at hf; done) | (simpa [VRel] using h)
theorem flats_rel {E E' : Em} : ∀ {vs : List AV} {L : List Value}, vs.all flat1 = true → VRels E vs L → VRels E' vs L
  | [], _, _, h => by simpa [VRels] using h
  | v :: vs, L, hf, h => by
    simp only [VRels] at h ⊢
    simp only [List.all_cons, Bool.and_eq_true] at hf
    obtain ⟨V, Vs, h1, h2, h3⟩ := h
    exact ⟨V, Vs, flat1_rel hf.1 h1, flats_rel hf.2 h2, h3⟩
theorem flatA_rel {E E' : Em} {v : AV} {V : Value} (hf : flatA v = true) (h : VRel E v V) : VRel E' v V := by
  cases v with
  | tuple vs =>
    simp only [VRel] at h ⊢
    obtain ⟨C, h1, h2⟩ := h
    exact ⟨C, flats_rel hf h1, h2⟩
  | _ => exact flat1_rel hf h

/-- What a call from an empty memory yields is yielded from any memory. -/
theorem lift_call {f : FuncId} {args : List AV} {Q : AV → St → Prop} (ha : args.all flat1 = true) (h : ∀ kr kp : AV → St → Bool, (∀ v s', Q v s' → kr v s' = true) → (sem P).call f args st0 kr kp = true)
    {Args : List Value} (hv : VRels E args Args) : Enters P f ∧ CallsIn (FW none) 0 P f Args.toArray w fun en w' => ∃ V v s' E', en = .returned V ∧ Q v s' ∧ VRel E' v V ∧ Sim w E' s' w' := by
  have key := sem_call.1 (h (fun v s' => @decide (Q v s') (Classical.propDecidable _)) (fun _ _ => false) (fun v s' hq => @decide_eq_true _ (Classical.propDecidable _) hq))
    w w (fun _ => none) Args (fun V w' => ∃ v s' E', Q v s' ∧ VRel E' v V ∧ Sim w E' s' w') (fun _ _ => False) (flats_rel ha hv) (sim0 w)
    (fun E' v s' V w' _ g2 g3 g4 => ⟨v, s', E', @of_decide_eq_true _ (Classical.propDecidable _) g4, g2, g3⟩) (fun _ _ _ _ _ _ _ _ g => by cases g)
  refine ⟨key.1, CallsIn.mono key.2 fun en w' he => ?_⟩
  cases en with
  | returned V => obtain ⟨v, s', E', h1, h2, h3⟩ := he; exact ⟨V, v, s', E', rfl, h1, h2, h3⟩
  | panicked ch => obtain ⟨_, _, hh⟩ := he; exact hh.elim
  | outgrown => exact he.elim

theorem lift_flat {f : FuncId} {args : List AV} {v : AV} (ha : args.all flat1 = true) (hf : flatA v = true) (h : ∀ kr kp : AV → St → Bool, (∀ s', kr v s' = true) → (sem P).call f args st0 kr kp = true)
    {Args : List Value} (hv : VRels E args Args) (hs : Sim w0 E s w) : Enters P f ∧ CallsIn (FW none) 0 P f Args.toArray w fun en w' => ∃ V E', en = .returned V ∧ E.le E' ∧ VRel E' v V ∧ Sim w0 E' s w' := by
  obtain ⟨h1, h2⟩ := lift_call (w := w) (Q := fun v' _ => v' = v) ha (fun kr kp hk => h kr kp (fun s' => hk v s' rfl)) hv
  refine ⟨h1, CallsIn.mono h2 ?_⟩
  rintro en w' ⟨V, v', s', E', rfl, rfl, hV, hS⟩
  exact ⟨V, E, rfl, Em.le_refl E, flatA_rel hf hV, hs.grown hS.below⟩

/-- A slice of texts. -/
def SlR (ty : Nat) (F : Nat → Prop) (s : St) (V : AV) (names : List (List Nat)) : Prop := (V = .raw (.slice none 0 0) ∧ names = []) ∨
  ∃ id cap cs, V = .slice id 0 names.length 0 cap false ∧ F id ∧ id < s.nx ∧ s.h.get id = some (.cells cs ty 2) ∧ cs.length = cap ∧ names.length ≤ cap ∧ cs.take names.length = names.map .str
/-- The slice, as it is made. -/
def mkSl (ty : Nat) (names : List (List Nat)) (s : St) : AV × St := match names with
  | [] => (.raw (.slice none 0 0), s)
  | _ :: _ => (.slice s.nx 0 names.length 0 names.length false, s.alloc (.cells (names.map .str) ty 2))
/-- Nil, or not: a slice that has come to hold nothing may be either. -/
theorem lift_slice {f ty : Nat} {args : List AV} {names : List (List Nat)} (hn : names ≠ []) (ha : args.all flat1 = true) (h : ∀ kr kp : AV → St → Bool, (∀ V s', SlR ty (fun _ => True) s' V names → kr V s' = true) → (sem P).call f args st0 kr kp = true)
    {Args : List Value} (hv : VRels E args Args) (hs : Sim w0 E s w) : Enters P f ∧ CallsIn (FW none) 0 P f Args.toArray w fun en w' => ∃ V E', en = .returned V ∧ E.le E' ∧ VRel E' (mkSl ty names s).1 V ∧ Sim w0 E' (mkSl ty names s).2 w' := by
  obtain ⟨h1, h2⟩ := lift_call (w := w) (Q := fun V s' => SlR ty (fun _ => True) s' V names) ha h hv
  refine ⟨h1, CallsIn.mono h2 ?_⟩
  rintro en w' ⟨V, v, s', E', rfl, hq, hV, hS⟩
  rcases hq with ⟨_, hq⟩ | ⟨id, cap, cs, rfl, _, _, g1, g2, g3, g4⟩
  · exact absurd hq hn
  · have hmk : mkSl ty names s = (.slice s.nx 0 names.length 0 names.length false, s.alloc (.cells (names.map .str) ty 2)) := by
      cases names with
      | nil => exact absurd rfl hn
      | cons _ _ => rfl
    rw [hmk]
    simp only [VRel] at hV
    obtain ⟨p, hp, rfl, hl, hcap⟩ := hV
    have hcap : cap ≤ p.2.2 - 0 := by simpa using hcap
    obtain ⟨p', O, hp', hO, hr, hge⟩ := hS.obj id _ g1
    rw [hp] at hp'
    cases hp'
    refine ⟨_, E.put s.nx p, rfl, Em.le_put E s.nx p hs.free, ?_, hs.addP hS.below hge hO ?_⟩
    · simp only [VRel]
      exact ⟨p, Em.put_same _ _ _, rfl, Nat.le_refl _, fun _ => by omega⟩
    · simp only [ORel] at hr ⊢
      obtain ⟨C, fz, rfl, hc, hfr⟩ := hr
      refine ⟨C, fz, rfl, fun i v hi => ?_, hfr⟩
      have hi' : cs[i]? = some v := by
        have hlt : i < names.length := by
          have := (List.getElem?_eq_some_iff.1 hi).1
          simpa using this
        rw [← g4, List.getElem?_take] at hi
        rw [if_pos hlt] at hi
        exact hi
      obtain ⟨V, k1, k2⟩ := hc i v hi'
      refine ⟨V, k1, flat1_rel ?_ k2⟩
      rw [List.getElem?_map, Option.map_eq_some_iff] at hi
      obtain ⟨x, _, rfl⟩ := hi
      rfl

/-! ### One more function with a contract -/
def Prims.add (pr : Prims) (g : FuncId) (f : List AV → St → Option (AV × St)) : Prims := { ext := pr.ext, fn := fun h args s => bif Nat.beq h g then f args s else pr.fn h args s }
theorem prims_add {pr : Prims} {g : FuncId} {f : List AV → St → Option (AV × St)} (h : PrimsOk P pr)
    (hg : ∀ {args : List AV} {s s' : St} {v : AV} {w0 w : World} {E : Em} {Args : List Value}, f args s = some (v, s') → VRels E args Args → Sim w0 E s w →
      Enters P g ∧ CallsIn (FW none) 0 P g Args.toArray w fun en w' => ∃ V E', en = .returned V ∧ E.le E' ∧ VRel E' v V ∧ Sim w0 E' s' w') : PrimsOk P (pr.add g f) := by
  refine ⟨fun h1 h2 h3 => h.ext h1 h2 h3, fun {g' args s s' v w0 w E Args} h1 h2 h3 => ?_⟩
  simp only [Prims.add] at h1
  cases hb : Nat.beq g' g with
  | true =>
    rw [hb] at h1
    have := Nat.eq_of_beq_eq_true hb
    subst this
    exact hg h1 h2 h3
  | false =>
    rw [hb] at h1
    exact h.fn h1 h2 h3
theorem add_ext {pr : Prims} {g h : FuncId} {f : List AV → St → Option (AV × St)} {args : List AV} : (pr.add g f).ext h args s = pr.ext h args s := (rfl)
theorem add_ne {pr : Prims} {g h : FuncId} {f : List AV → St → Option (AV × St)} {args : List AV} (hn : h ≠ g) : (pr.add g f).fn h args s = pr.fn h args s := by
  have : Nat.beq h g = false := by
    cases hb : Nat.beq h g with
    | false => rfl
    | true => exact absurd (Nat.eq_of_beq_eq_true hb) hn
  simp only [Prims.add, this, cond_false]
theorem add_same {pr : Prims} {g : FuncId} {f : List AV → St → Option (AV × St)} {args : List AV} : (pr.add g f).fn g args s = f args s := by simp [Prims.add]
end Go.AX
