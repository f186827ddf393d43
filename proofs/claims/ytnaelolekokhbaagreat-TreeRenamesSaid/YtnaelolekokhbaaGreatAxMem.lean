import Derived.Test.YtnaelolekokhbaaGreatAxRel
namespace Go.AX
open Go.RowKit

/-- The world stands for the memory. w0: the world in which the call began. -/
structure Sim (w0 : World) (E : Em) (s : St) (w : World) : Prop where
  obj : ∀ id o, s.h.get id = some o → ∃ p O, E id = some p ∧ w.heap[p.1]? = some O ∧ ORel E p o O ∧ w0.heap.size ≤ p.1
  inj : ∀ id id' o o' p p', s.h.get id = some o → s.h.get id' = some o' → E id = some p → E id' = some p' → p.1 = p'.1 → id = id'
  fresh : ∀ id p, E id = some p → id < s.nx
  below : Below w0.heap.size w0 w

variable {w0 : World} {E : Em} {s : St} {w : World}

theorem Sim.free (h : Sim w0 E s w) : E s.nx = none := by
  cases he : E s.nx with
  | none => rfl
  | some p => exact absurd (h.fresh _ _ he) (Nat.lt_irrefl _)

theorem Sim.freeH (h : Sim w0 E s w) : s.h.get s.nx = none := by
  cases hg : s.h.get s.nx with
  | none => rfl
  | some o => obtain ⟨p, O, hp, _⟩ := h.obj _ _ hg; exact absurd (h.fresh _ _ hp) (Nat.lt_irrefl _)

theorem Sim.drew (h : Sim w0 E s w) : Sim w0 E s { w with drawn := w.drawn + 1 } :=
  ⟨h.obj, h.inj, h.fresh, ⟨h.below.os, h.below.tape, h.below.output, h.below.size, h.below.block⟩⟩

/-- A new block's place. -/
def Em.put (E : Em) (id : Nat) (p : Nat × Nat × Nat) : Em := fun i => if i = id then some p else E i
theorem Em.le_put (E : Em) (id : Nat) (p : Nat × Nat × Nat) (h : E id = none) : E.le (E.put id p) := fun i q hq => by
  unfold Em.put
  rw [if_neg (by rintro rfl; rw [h] at hq; cases hq)]
  exact hq
theorem Em.put_same (E : Em) (id : Nat) (p : Nat × Nat × Nat) : E.put id p id = some p := by simp [Em.put]

/-- A new block. -/
theorem Sim.alloc (h : Sim w0 E s w) {o : AO} {O : Obj} {K : Nat} (ho : ORel (E.put s.nx (w.heap.size, 0, K)) (w.heap.size, 0, K) o O) :
    Sim w0 (E.put s.nx (w.heap.size, 0, K)) (s.alloc o) (w.alloc O) := by
  have hle := Em.le_put E s.nx (w.heap.size, 0, K) h.free
  have hB : w0.heap.size ≤ w.heap.size := h.below.size
  refine ⟨fun id o' ho' => ?_, fun id id' o1 o2 p p' h1 h2 e1 e2 hp => ?_, fun id p hp => ?_, h.below.alloc hB O⟩
  · simp only [St.alloc, Tr.get_set] at ho'
    by_cases hid : id = s.nx
    · subst hid
      simp only [if_true, Option.some.injEq] at ho'
      subst ho'
      exact ⟨_, O, Em.put_same _ _ _, World.alloc_heap_new w O, ho, hB⟩
    · rw [if_neg hid] at ho'
      obtain ⟨p, O', hp, hO, hr, hb⟩ := h.obj id o' ho'
      refine ⟨p, O', hle _ _ hp, ?_, hr.mono hle, hb⟩
      rw [Below.heap_alloc _ _ _ (Array.getElem?_eq_some_iff.1 hO).1]; exact hO
  · simp only [St.alloc, Tr.get_set] at h1 h2
    by_cases hid : id = s.nx <;> by_cases hid' : id' = s.nx
    · rw [hid, hid']
    · rw [if_neg hid'] at h2
      subst hid
      rw [Em.put_same] at e1; cases e1
      obtain ⟨q, O', hq, hO, _⟩ := h.obj id' o2 h2
      rw [hle _ _ hq] at e2; cases e2
      have := (Array.getElem?_eq_some_iff.1 hO).1
      simp at hp; omega
    · rw [if_neg hid] at h1
      subst hid'
      rw [Em.put_same] at e2; cases e2
      obtain ⟨q, O', hq, hO, _⟩ := h.obj id o1 h1
      rw [hle _ _ hq] at e1; cases e1
      have := (Array.getElem?_eq_some_iff.1 hO).1
      simp at hp; omega
    · rw [if_neg hid] at h1; rw [if_neg hid'] at h2
      have f1 : E id = some p := by unfold Em.put at e1; rwa [if_neg hid] at e1
      have f2 : E id' = some p' := by unfold Em.put at e2; rwa [if_neg hid'] at e2
      exact h.inj _ _ _ _ _ _ h1 h2 f1 f2 hp
  · unfold Em.put at hp
    show id < s.nx + 1
    by_cases hid : id = s.nx
    · omega
    · rw [if_neg hid] at hp; have := h.fresh _ _ hp; omega

/-- w' is w, but for block b, which holds O. -/
structure Puts (w w' : World) (b : Nat) (O : Obj) : Prop where
  same : ∀ k, k ≠ b → w'.heap[k]? = w.heap[k]?
  new : w'.heap[b]? = some O
  size : w'.heap.size = w.heap.size
  os : w'.os = w.os
  tape : w'.tape = w.tape
  output : w'.output = w.output

/-- A block is turned. -/
theorem Sim.puts (h : Sim w0 E s w) {id : Nat} {o o' : AO} {p : Nat × Nat × Nat} {w' : World} {O' : Obj} (hg : s.h.get id = some o) (hp : E id = some p) (hw : Puts w w' p.1 O') (ho : ORel E p o' O') :
    Sim w0 E { s with h := s.h.set id o' } w' := by
  obtain ⟨q, O, hq, hO, _, hb⟩ := h.obj id o hg
  rw [hp] at hq; cases hq
  refine ⟨fun i o1 h1 => ?_, fun i i' o1 o2 p1 p2 h1 h2 e1 e2 he => ?_, fun i q hq => h.fresh i q hq, ?_⟩
  · simp only [Tr.get_set] at h1
    by_cases hi : i = id
    · subst hi
      simp only [if_true, Option.some.injEq] at h1
      subst h1
      exact ⟨p, O', hp, hw.new, ho, hb⟩
    · rw [if_neg hi] at h1
      obtain ⟨q, O1, hq, hO1, hr, hb1⟩ := h.obj i o1 h1
      refine ⟨q, O1, hq, ?_, hr, hb1⟩
      rw [hw.same _ (fun e => hi (h.inj _ _ _ _ _ _ h1 hg hq hp e))]; exact hO1
  · simp only [Tr.get_set] at h1 h2
    have g : ∀ {j o1}, (if j = id then some o' else s.h.get j) = some o1 → ∃ o3, s.h.get j = some o3 := fun {j o1} hj => by
      by_cases hji : j = id
      · exact ⟨o, by rw [hji]; exact hg⟩
      · rw [if_neg hji] at hj; exact ⟨_, hj⟩
    obtain ⟨o3, h3⟩ := g h1
    obtain ⟨o4, h4⟩ := g h2
    exact h.inj _ _ _ _ _ _ h3 h4 e1 e2 he
  · exact ⟨hw.os.trans h.below.os, hw.tape.trans h.below.tape, hw.output.trans h.below.output, by rw [hw.size]; exact h.below.size,
      fun k hk => (hw.same k (by omega)).trans (h.below.block k hk)⟩

/-- A block is turned, and goes by a new name from now on, the old one gone. -/
theorem Sim.moved (h : Sim w0 E s w) {id : Nat} {o o' : AO} {p p' : Nat × Nat × Nat} {w' : World} {O' : Obj} (hg : s.h.get id = some o) (hp : E id = some p) (hpp : p'.1 = p.1) (hw : Puts w w' p.1 O')
    (ho : ORel (E.put s.nx p') p' o' O') : Sim w0 (E.put s.nx p') { h := (s.h.del id).set s.nx o', nx := s.nx + 1 } w' := by
  have hle := Em.le_put E s.nx p' h.free
  obtain ⟨q, O, hq, hO, _, hb⟩ := h.obj id o hg
  rw [hp] at hq; cases hq
  have old : ∀ {i : Nat} {o1 : AO}, i ≠ s.nx → ((s.h.del id).set s.nx o').get i = some o1 → i ≠ id ∧ s.h.get i = some o1 := fun {i o1} hi h1 => by
    rw [Tr.get_set, if_neg hi, Tr.get_del] at h1
    by_cases hid : i = id
    · rw [if_pos hid] at h1; cases h1
    · rw [if_neg hid] at h1; exact ⟨hid, h1⟩
  have ne : ∀ {i : Nat} {o1 : AO} {q : Nat × Nat × Nat}, i ≠ id → s.h.get i = some o1 → E i = some q → q.1 ≠ p.1 := fun hi h1 hq he => hi (h.inj _ _ _ _ _ _ h1 hg hq hp he)
  refine ⟨fun i o1 h1 => ?_, fun i i' o1 o2 p1 p2 h1 h2 e1 e2 he => ?_, fun i q hq => ?_, ?_⟩
  · by_cases hi : i = s.nx
    · subst hi
      rw [Tr.get_set, if_pos rfl] at h1
      cases h1
      exact ⟨p', O', Em.put_same _ _ _, by rw [hpp]; exact hw.new, ho, by rw [hpp]; exact hb⟩
    · obtain ⟨hid, h1⟩ := old hi h1
      obtain ⟨q, O1, hq, hO1, hr, hb1⟩ := h.obj i o1 h1
      exact ⟨q, O1, hle _ _ hq, by rw [hw.same _ (ne hid h1 hq)]; exact hO1, hr.mono hle, hb1⟩
  · by_cases hi : i = s.nx <;> by_cases hi' : i' = s.nx
    · rw [hi, hi']
    · subst hi
      rw [Em.put_same] at e1; cases e1
      obtain ⟨hid, h2⟩ := old hi' h2
      have f2 : E i' = some p2 := by unfold Em.put at e2; rwa [if_neg hi'] at e2
      exact absurd (he.symm.trans hpp) (ne hid h2 f2)
    · subst hi'
      rw [Em.put_same] at e2; cases e2
      obtain ⟨hid, h1⟩ := old hi h1
      have f1 : E i = some p1 := by unfold Em.put at e1; rwa [if_neg hi] at e1
      exact absurd (he.trans hpp) (ne hid h1 f1)
    · obtain ⟨_, h1⟩ := old hi h1
      obtain ⟨_, h2⟩ := old hi' h2
      have f1 : E i = some p1 := by unfold Em.put at e1; rwa [if_neg hi] at e1
      have f2 : E i' = some p2 := by unfold Em.put at e2; rwa [if_neg hi'] at e2
      exact h.inj _ _ _ _ _ _ h1 h2 f1 f2 he
  · unfold Em.put at hq
    show i < s.nx + 1
    by_cases hi : i = s.nx
    · omega
    · rw [if_neg hi] at hq; have := h.fresh _ _ hq; omega
  · exact ⟨hw.os.trans h.below.os, hw.tape.trans h.below.tape, hw.output.trans h.below.output, by rw [hw.size]; exact h.below.size,
      fun k hk => (hw.same k (by omega)).trans (h.below.block k hk)⟩

/-- A name goes. -/
theorem Sim.del (h : Sim w0 E s w) (id : Nat) : Sim w0 E { s with h := s.h.del id } w := by
  have old : ∀ {i : Nat} {o1 : AO}, (s.h.del id).get i = some o1 → s.h.get i = some o1 := fun {i o1} h1 => by
    rw [Tr.get_del] at h1
    by_cases hid : i = id
    · rw [if_pos hid] at h1; cases h1
    · rwa [if_neg hid] at h1
  exact ⟨fun i o1 h1 => h.obj i o1 (old h1), fun i i' o1 o2 p1 p2 h1 h2 => h.inj i i' o1 o2 p1 p2 (old h1) (old h2), h.fresh, h.below⟩

/-- Memory told more weakly. -/
theorem Sim.weak {s' : St} (h : Sim w0 E s w) (hn : s'.nx = s.nx) (ho : ∀ i o', s'.h.get i = some o' → ∃ o, s.h.get i = some o ∧ ∀ p O, ORel E p o O → ORel E p o' O) : Sim w0 E s' w := by
  refine ⟨fun i o' h' => ?_, fun i j o1 o2 p1 p2 h1 h2 => ?_, fun i p hp => by rw [hn]; exact h.fresh i p hp, h.below⟩
  · obtain ⟨o, hg, hw⟩ := ho i o' h'
    obtain ⟨p, O, hp, hO, hr, hb⟩ := h.obj i o hg
    exact ⟨p, O, hp, hO, hw p O hr, hb⟩
  · obtain ⟨o3, h3, _⟩ := ho i o1 h1
    obtain ⟨o4, h4, _⟩ := ho j o2 h2
    exact h.inj i j o3 o4 p1 p2 h3 h4

/-! ### Cells -/
theorem getCells_some {id : Nat} {cs : List AV} {el : TypeId} {fz : Nat} (h : getCells s id = some (cs, el, fz)) : s.h.get id = some (.cells cs el fz) := by
  unfold getCells at h
  split at h
  · rename_i heq; simp only [Option.some.injEq, Prod.mk.injEq] at h; obtain ⟨rfl, rfl, rfl⟩ := h; exact heq
  · cases h

theorem Addr.add_none (b o n : Nat) : (⟨b, o, none⟩ : Addr).add n = ⟨b, o + n, none⟩ := by
  unfold Addr.add
  split
  · rename_i h; simp [h]
  · rfl

variable {P : Program}

theorem cell_of {b : Nat} {C : Array Value} {el : TypeId} {fz : Nat × Nat} (hb : w.heap[b]? = some (.cells C el fz)) (o : Nat) : w.cell? ⟨b, o, none⟩ = C[o]? := by
  simp [World.cell?, hb]

theorem frozen_of {b : Nat} {C : Array Value} {el : TypeId} {fz : Nat × Nat} (hb : w.heap[b]? = some (.cells C el fz)) {o : Nat} (h : ¬ (fz.1 ≤ o ∧ o < fz.2)) : w.frozen? ⟨b, o, none⟩ = false := by
  simp [World.frozen?, hb]; omega

/-- A row of cells, read. -/
theorem run_loadCells' {b o : Nat} : ∀ (L : List Value) (i : Nat) (acc : Array Value), (∀ j V, L[j]? = some V → w.cell? ⟨b, o + i + j, none⟩ = some V) →
    (loadCellsFrom ⟨b, o, none⟩ i L.length acc).run P w = .ok (acc ++ L.toArray) w
  | [], i, acc, _ => by simp [loadCellsFrom, pure]
  | V :: L, i, acc, h => by
    have h0 := h 0 V rfl
    have ih := run_loadCells' (b := b) (o := o) L (i + 1) (acc.push V) (fun j U hU => by
      have := h (j + 1) U (by simpa using hU)
      rw [show o + (i + 1) + j = o + i + (j + 1) from by omega]; exact this)
    simp only [List.length_cons, loadCellsFrom, bind, Sem.bind, Addr.add_none, load, Sem.run]
    simp only [Nat.add_zero] at h0
    simp only [h0]
    rw [ih]
    simp

end Go.AX
