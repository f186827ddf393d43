import Derived.Test.YtnaelolekokhbaaGreatAxOpsC
namespace Go.AX
open Go.RowKit
variable {e : Env} {P : Program} {w0 : World} {E : Em} {s : St} {w : World} {a : Ac} {A : Act}

/-- What an operation comes to, in the machine's words: it yields V. -/
def Comes1 (P : Program) (w0 : World) (E : Em) (w : World) (x : Sem Next) (v : AV) (s' : St) : Prop :=
  ∃ nx V w' E', x.run P w = .ok nx w' ∧ (nx = .value V ∨ (nx = .skip ∧ V = undef)) ∧ E.le E' ∧ VRel E' v V ∧ Sim w0 E' s' w'

theorem Acts.value {x : Sem Value} {v : AV} {s' : St} (h : Acts P w0 E w x v s') : Comes1 P w0 E w (do pure (Next.value (← x))) v s' := by
  obtain ⟨V, w', E', hr, hle, hv, hs⟩ := h
  exact ⟨.value V, V, w', E', by simp [hr], .inl rfl, hle, hv, hs⟩

theorem skips {x : Sem Unit} {s' : St} (h : ∃ w', x.run P w = .ok () w' ∧ Sim w0 E s' w') : Comes1 P w0 E w (do x; pure .skip) undefA s' := by
  obtain ⟨w', hr, hs⟩ := h
  exact ⟨.skip, undef, w', E, by simp [hr], .inr ⟨rfl, rfl⟩, Em.le_refl E, undef_rel, hs⟩

theorem undefR_some {r : Option St} {v : AV} {s' : St} (h : undefR r = some (v, s')) : r = some s' ∧ v = undefA := by
  cases r <;> simp [undefR] at h; exact ⟨by rw [h.2], h.1.symm⟩

set_option maxHeartbeats 1000000 in
theorem stepA_sound (he : EnvOk e P) (hs : Sim w0 E s w) (ha : ARel E a A) {o : Oper} {v : AV} {s' : St} (h : stepA e a s o = some (v, s')) : Comes1 P w0 E w (execOp A.eval o) v s' := by
  obtain ⟨dst, op, type, pos, after, guard⟩ := o
  cases op <;> simp only [stepA] at h
  case alloc t =>
    split at h
    · rename_i z hz
      simp only [Option.some.injEq, Prod.mk.injEq] at h; obtain ⟨rfl, rfl⟩ := h
      exact (alloc_acts he hs hz).value
    · cases h
  case box t x =>
    simp only [Option.some.injEq, Prod.mk.injEq] at h; obtain ⟨rfl, rfl⟩ := h
    exact (box_acts hs (eval_rel ha x) t).value
  case buildSlice t len parts =>
    have := buildSlice_acts (P := P) he hs (pairs_fst parts.toList a.eval A.eval) (pairs_snd ha parts.toList) h
    have hp : (parts.map fun (q : Nat × Operand) => (q.1, A.eval q.2)) = (parts.toList.map fun q => (q.1, A.eval q.2)).toArray := by
      apply Array.ext'; simp
    simp only [execOp]
    rw [hp]
    exact this.value
  case store t x y =>
    obtain ⟨hh, rfl⟩ := undefR_some h
    exact skips (store_acts he hs (eval_rel ha x) (eval_rel ha y) hh)
  case convert src dst x => exact (bytes_acts he hs (eval_rel ha x) h).value
  case makeMap t r =>
    split at h
    · simp only [Option.some.injEq, Prod.mk.injEq] at h; obtain ⟨rfl, rfl⟩ := h
      exact (makeMap_acts hs t).value
    · cases h
  case makeSlice t l c => exact (makeSlice_acts he hs (eval_rel ha l) (eval_rel ha c) h).value
  case mapUpdate t m k x =>
    obtain ⟨hh, rfl⟩ := undefR_some h
    exact skips (mapUpdate_acts he hs (eval_rel ha m) (eval_rel ha k) (eval_rel ha x) hh)
  case insert t m k x =>
    obtain ⟨hh, rfl⟩ := undefR_some h
    exact skips (mapUpdate_acts he hs (eval_rel ha m) (eval_rel ha k) (eval_rel ha x) hh)
  case range t x =>
    split at h
    · rename_i ti b hti hb
      obtain ⟨_, _, hu, _⟩ := he.ty _ _ hti
      split at h
      · rename_i hd
        rw [hd] at hu
        simp only [Option.some.injEq, Prod.mk.injEq] at h; obtain ⟨rfl, rfl⟩ := h
        have hx := eval_rel ha x
        rw [hb] at hx
        simp only [VRel] at hx
        have := (range_acts (P := P) hs hu hx.1).value
        rw [← hx.2] at this
        exact this
      · cases h
    · cases h
  case next it isS =>
    cases isS with
    | false => cases h
    | true =>
      simp only at h
      split at h
      · rename_i id hid
        have hx := eval_rel ha it
        rw [hid] at hx
        split at h
        · rename_i b pos left hg
          obtain ⟨n1, n2⟩ := next_acts (P := P) hs hg hx type
          split at h
          · simp only [Option.some.injEq, Prod.mk.injEq] at h; obtain ⟨rfl, rfl⟩ := h
            exact (n1 rfl).value
          · rename_i c l
            cases hc : Nat.blt c 128 with
            | false => simp [hc] at h
            | true =>
              simp only [hc, cond_true, Option.some.injEq, Prod.mk.injEq] at h; obtain ⟨rfl, rfl⟩ := h
              exact (n2 c l rfl (blt_iff.1 hc)).value
        · cases h
      · cases h
  case call c =>
    obtain ⟨callee, args, argTypes⟩ := c
    have hargs : args.map A.eval = (args.toList.map A.eval).toArray := by apply Array.ext'; simp
    split at h
    · rename_i hcal
      simp only at hcal
      subst hcal
      have := append_acts (P := P) (ty := type) he hs (evals_rel ha args.toList) h
      simp only [execOp, resolve, invoke, builtin, hargs]
      simpa using this.value
    · rename_i hcal
      simp only at hcal
      subst hcal
      have := copy_acts (P := P) (ty := type) he hs (evals_rel ha args.toList) h
      simp only [execOp, resolve, invoke, builtin, hargs]
      simpa using this.value
    · rename_i hcal
      simp only at hcal
      subst hcal
      obtain ⟨hh, rfl⟩ := undefR_some h
      obtain ⟨w', hr, hs'⟩ := delete_acts (P := P) (ty := type) he hs (evals_rel ha args.toList) hh
      have : Acts P w0 E w (Builtin.delete_ argTypes.toList.toArray type (args.toList.map A.eval).toArray) undefA s' := ⟨undef, w', E, hr, Em.le_refl E, undef_rel, hs'⟩
      simp only [execOp, resolve, invoke, builtin, hargs]
      simpa using this.value
    · cases h
  all_goals cases h

end Go.AX
