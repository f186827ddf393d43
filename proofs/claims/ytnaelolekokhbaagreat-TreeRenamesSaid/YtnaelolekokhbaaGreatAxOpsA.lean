import Derived.Test.YtnaelolekokhbaaGreatAxStepP
import Derived.Deep.AppendSrc
namespace Go.AX
open Go.RowKit
variable {e : Env} {P : Program} {w0 : World} {E : Em} {s : St} {w : World} {a : Ac} {A : Act}

/-- What an operation that acts comes to. -/
def Acts (P : Program) (w0 : World) (E : Em) (w : World) (x : Sem Value) (v : AV) (s' : St) : Prop :=
  ∃ V w' E', x.run P w = .ok V w' ∧ E.le E' ∧ VRel E' v V ∧ Sim w0 E' s' w'

/-- A new row of cells. -/
theorem alloc_cells' (hs : Sim w0 E s w) {cs : List AV} {C : List Value} (hc : VRels E cs C) (el : TypeId) (K : Nat) (X : List Value) {frz : Nat} (hK : 0 < frz → K * (frz / 2) ≤ (C ++ X).length) :
    E.le (E.put s.nx (w.heap.size, 0, K)) ∧ Sim w0 (E.put s.nx (w.heap.size, 0, K)) (s.alloc (.cells cs el frz)) (w.alloc (.cells (C ++ X).toArray el)) := by
  have hle := Em.le_put E s.nx (w.heap.size, 0, K) hs.free
  refine ⟨hle, hs.alloc ?_⟩
  simp only [ORel]
  refine ⟨_, _, rfl, fun i v hv => ?_, ⟨fun _ _ _ => by simp, fun _ => by simp, fun h => by simpa using hK h, fun _ => rfl⟩⟩
  obtain ⟨V, hV, hr⟩ := hc.get hv
  refine ⟨V, ?_, hr.mono hle⟩
  simp only [Nat.zero_add, List.getElem?_toArray]
  rw [List.getElem?_append_left (List.getElem?_eq_some_iff.1 hV).1]
  exact hV

theorem alloc_cells (hs : Sim w0 E s w) {cs : List AV} {C : List Value} (hc : VRels E cs C) (el : TypeId) (K : Nat) (X : List Value) :
    E.le (E.put s.nx (w.heap.size, 0, K)) ∧ Sim w0 (E.put s.nx (w.heap.size, 0, K)) (s.alloc (.cells cs el 0)) (w.alloc (.cells (C ++ X).toArray el)) := alloc_cells' hs hc el K X (fun h => absurd h (Nat.lt_irrefl _))

theorem ptr_new {id b K : Nat} : VRel (E.put id (b, 0, K)) (.ptr id 0) (.pointer (some ⟨b, 0, none⟩)) := by
  simp only [VRel]; exact ⟨_, Em.put_same _ _ _, rfl⟩

theorem box_acts (hs : Sim w0 E s w) {x : AV} {X : Value} (hx : VRel E x X) (t : TypeId) : Acts P w0 E w (Instr.box t X) (.ptr s.nx 0) (s.alloc (.cells x.cells t 0)) := by
  obtain ⟨h1, h2⟩ := alloc_cells hs (cells_rel hx) t 0 []
  refine ⟨_, _, _, ?_, h1, ptr_new, h2⟩
  simp [Instr.box, newVar, newRow]

theorem alloc_acts (he : EnvOk e P) (hs : Sim w0 E s w) {t : TypeId} {z : AV} (hz : zeroOf e t = some z) : Acts P w0 E w (Instr.alloc t true (.tuple #[])) (.ptr s.nx 0) (s.alloc (.cells z.cells t 0)) := by
  obtain ⟨Z, hZ, hzr⟩ := zero_sound (E := E) he hz w
  obtain ⟨h1, h2⟩ := alloc_cells hs (cells_rel hZ) t 0 []
  refine ⟨_, _, _, ?_, h1, ptr_new, h2⟩
  simp [Instr.alloc, hzr, newVar, newRow]

theorem makeMap_acts (hs : Sim w0 E s w) (t : TypeId) : Acts P w0 E w (Instr.makeMap t none) (.map s.nx) (s.alloc (.map [])) := by
  have hle := Em.le_put E s.nx (w.heap.size, 0, 0) hs.free
  refine ⟨.map (some w.heap.size), w.alloc (.map #[] 0), E.put s.nx (w.heap.size, 0, 0), ?_, hle, ?_, hs.alloc ?_⟩
  · simp [Instr.makeMap]
  · simp only [VRel]; exact ⟨_, Em.put_same _ _ _, rfl⟩
  · simp only [ORel]; exact ⟨_, _, rfl, by simp [MRels], by simp [Born]⟩

/-! ### Stores -/
theorem run_store1 {b o : Nat} {V u : Value} (h1 : oneV V = true) (hc : w.cell? ⟨b, o, none⟩ = some u) (hf : w.frozen? ⟨b, o, none⟩ = false) : (store ⟨b, o, none⟩ V).run P w = .ok () (w.setCell ⟨b, o, none⟩ V) := by
  cases V <;> simp [oneV] at h1 <;> simp [store, Sem.run, hc, hf]

theorem puts_setCell {b o : Nat} {C : Array Value} {el : TypeId} {fz : Nat × Nat} (hb : w.heap[b]? = some (.cells C el fz)) (V : Value) : Puts w (w.setCell ⟨b, o, none⟩ V) b (.cells (C.setIfInBounds o V) el fz) := by
  refine ⟨fun k hk => ?_, ?_, ?_, rfl, rfl, rfl⟩
  · simp only [World.setCell, Array.getElem?_modify]
    rw [if_neg (fun h => hk h.symm)]
  · simp only [World.setCell, Array.getElem?_modify, if_true, hb]
    simp
  · simp [World.setCell]

theorem Puts.trans {w1 w2 : World} {b : Nat} {O1 O2 : Obj} (h : Puts w w1 b O1) (h' : Puts w1 w2 b O2) : Puts w w2 b O2 :=
  ⟨fun k hk => (h'.same k hk).trans (h.same k hk), h'.new, h'.size.trans h.size, h'.os.trans h.os, h'.tape.trans h.tape, h'.output.trans h.output⟩

theorem Puts.refl' {b : Nat} {O : Obj} (h : w.heap[b]? = some O) : Puts w w b O := ⟨fun _ _ => rfl, h, rfl, rfl, rfl, rfl⟩

theorem run_storeCells' {b o : Nat} : ∀ (L : List Value) (i : Nat) (w : World) (C : Array Value) (el : TypeId) (fz : Nat × Nat), w.heap[b]? = some (.cells C el fz) → o + i + L.length ≤ C.size → (∀ j, o + i ≤ j → j < C.size → ¬ (fz.1 ≤ j ∧ j < fz.2)) → (∀ V ∈ L, oneV V = true) →
    ∃ w' C', (storeCells ⟨b, o, none⟩ L i).run P w = .ok () w' ∧ Puts w w' b (.cells C' el fz) ∧ C'.size = C.size ∧ ∀ j, C'[j]? = if o + i ≤ j ∧ j < o + i + L.length then L[j - (o + i)]? else C[j]?
  | [], i, w, C, el, fz, hb, _, _, _ => ⟨w, C, by simp [storeCells], Puts.refl' hb, rfl, fun j => by rw [if_neg (by simp)]⟩
  | V :: L, i, w, C, el, fz, hb, hl, hf, h1 => by
    simp only [List.length_cons] at hl
    have hc : w.cell? ⟨b, o + i, none⟩ = some C[o + i] := by rw [cell_of hb]; exact Array.getElem?_eq_getElem (by omega)
    have hp := puts_setCell (o := o + i) hb V
    obtain ⟨w', C', hr, hp', hsz, hg⟩ := run_storeCells' (o := o) L (i + 1) (w.setCell ⟨b, o + i, none⟩ V) (C.setIfInBounds (o + i) V) el fz hp.new (by simp; omega) (fun j h1 h2 => hf j (by omega) (by simpa using h2)) (fun U hU => h1 U (by simp [hU]))
    refine ⟨w', C', ?_, hp.trans hp', by rw [hsz]; simp, fun j => ?_⟩
    · simp only [storeCells, Sem.run_bind, Addr.add_none, run_store1 (h1 V (by simp)) hc (frozen_of hb (hf _ (by omega) (by omega))), Result.andThen]
      exact hr
    · rw [hg j]
      simp only [List.length_cons]
      by_cases hj : j = o + i
      · subst hj
        rw [if_neg (by omega), if_pos (by omega), Array.getElem?_setIfInBounds_self_of_lt (by omega)]
        simp
      · by_cases hj2 : o + (i + 1) ≤ j ∧ j < o + (i + 1) + L.length
        · rw [if_pos hj2, if_pos (by omega), show j - (o + i) = (j - (o + (i + 1))) + 1 from by omega]
          simp
        · rw [if_neg hj2, if_neg (by omega), Array.getElem?_setIfInBounds_ne (by omega)]

/-- A row of cells, written over. -/
theorem storeCells_acts (hs : Sim w0 E s w) {id off : Nat} {vs : List AV} {L : List Value} {p : Nat × Nat × Nat} (hp : E id = some p) (hv : VRels E vs L) {s' : St} (h : storeCellsA s id off vs = some s') :
    ∃ w', (storeCells ⟨p.1, p.2.1 + off, none⟩ L).run P w = .ok () w' ∧ Sim w0 E s' w' := by
  unfold storeCellsA at h
  split at h
  · rename_i cs el fz hcs
    · cases hone : vs.all AV.one with
      | false => simp [hone] at h
      | true =>
        simp only [hone, cond_true] at h
        cases hpu : putL cs off vs with
        | none => simp [hpu] at h
        | some cs' =>
          simp only [hpu, Option.some.injEq] at h
          subst h
          obtain ⟨h1, h2, h3⟩ := putL_some hpu
          have hg := getCells_some hcs
          obtain ⟨q, O, hq, hO, hrel, _⟩ := hs.obj id _ hg
          rw [hp] at hq; cases hq
          simp only [ORel] at hrel
          obtain ⟨C, f, rfl, hc, hf⟩ := hrel
          have hlen := hv.length
          by_cases hnil : vs = []
          · subst hnil
            simp only [VRels] at hv
            subst hv
            have hcs' : cs' = cs := by
              refine List.ext_getElem? fun i => ?_
              rw [h3 i, if_neg (by simp)]
            subst hcs'
            refine ⟨w, by simp [storeCells], ?_⟩
            refine hs.puts hg hp (Puts.refl' hO) ?_
            simp only [ORel]
            exact ⟨C, f, rfl, hc, hf⟩
          · have hfit : off + vs.length ≤ cs.length := h1.resolve_left hnil
            have hCs : p.2.1 + off + L.length ≤ C.size := by
              have hlast : (off + vs.length - 1) < cs.length := by
                have : 0 < vs.length := List.length_pos_iff.2 hnil
                omega
              obtain ⟨V, hV, _⟩ := hc (off + vs.length - 1) _ (List.getElem?_eq_getElem hlast)
              have := (Array.getElem?_eq_some_iff.1 hV).1
              have : 0 < vs.length := List.length_pos_iff.2 hnil
              omega
            obtain ⟨w', C', hr, hpu', hsz, hget⟩ := run_storeCells' (P := P) (b := p.1) (o := p.2.1 + off) L 0 w C el f hO (by omega) (fun j h1 h2 => hf.1 j (by omega) h2) (ones_rel hv hone)
            refine ⟨w', hr, hs.puts hg hp hpu' ?_⟩
            simp only [ORel]
            refine ⟨C', f, rfl, fun i v hv' => ?_, by rw [hsz]; exact hf⟩
            rw [h3 i] at hv'
            by_cases hin : off ≤ i ∧ i < off + vs.length
            · rw [if_pos hin] at hv'
              obtain ⟨V, hV, hvr⟩ := hv.get hv'
              refine ⟨V, ?_, hvr⟩
              rw [hget, if_pos (by omega), show p.2.1 + i - (p.2.1 + off + 0) = i - off from by omega]
              exact hV
            · rw [if_neg hin] at hv'
              obtain ⟨V, hV, hvr⟩ := hc i v hv'
              refine ⟨V, ?_, hvr⟩
              rw [hget, if_neg (by omega)]
              exact hV
  · cases h

theorem store_acts (he : EnvOk e P) (hs : Sim w0 E s w) {t : TypeId} {x v : AV} {X V : Value} (hx : VRel E x X) (hv : VRel E v V) {s' : St} (h : storeA e s t x v = some s') :
    ∃ w', (Instr.storeAt t X V).run P w = .ok () w' ∧ Sim w0 E s' w' := by
  unfold storeA at h
  split at h
  · rename_i id off ti hti
    obtain ⟨inf, hinf, _, hsz, _, _⟩ := he.ty _ _ hti
    cases hb : Nat.beq v.cells.length ti.size with
    | false => simp [hb] at h
    | true =>
      simp only [hb, cond_true] at h
      have hlen : v.cells.length = ti.size := by simpa [beq_dec] using hb
      simp only [VRel] at hx
      obtain ⟨p, hp, rfl⟩ := hx
      have hcells := cells_rel hv
      obtain ⟨w', hr, hsim⟩ := storeCells_acts (P := P) hs hp hcells h
      refine ⟨w', ?_, hsim⟩
      have hl := hcells.length
      simp at hl
      have hne : V.cells.size = inf.size := by omega
      simp [Instr.storeAt, Instr.sureAddr, storeVar, run_size hinf, hne, hr]
  · cases h

end Go.AX
