import Derived.Test.YtnaelolekokhbaaGreatAxSound4
namespace Go.AX
open Go.RowKit
variable {e : Env} {P : Program} {pr : Prims} {r : Tasks} {w0 : World} {E : Em} {s : St} {w : World} {a : Ac} {A : Act}

/-! ### Results -/
theorem WRel.mono {E E' : Em} (h : WRel E a A) (hE : E.le E') : WRel E' a A := ⟨h.size, fun i v hv => let ⟨V, h1, h2⟩ := h.tmps i v hv; ⟨V, h1, h2.mono hE⟩, h.defs.mono hE⟩

/-- One result. -/
def oneRes (tmps : Array Value) : ResultVar → Sem Value
  | .tmp t => pure (tmps.getD t undef)
  | .cell a t => do loadVar t (← asAddr (tmps.getD a undef))

theorem results_eq (fn : Func) (tmps : Array Value) : results fn tmps = (fn.results.mapM (oneRes tmps) >>= fun vs => pure (if h : vs.size = 1 then vs[0] else .tuple vs)) := rfl

theorem resA_rel (he : EnvOk e P) (hs : Sim w0 E s w) (hf : ∀ i v, a.t.get i = some v → ∃ V, A.tmps[i]? = some V ∧ VRel E v V) : ∀ {l : List ResultVar} {vs : List AV}, resA e a s l = some vs →
    ∃ Vs, VRels E vs Vs ∧ (l.mapM (oneRes A.tmps)).run P w = .ok Vs w
  | [], vs, h => by
    simp only [resA, Option.some.injEq] at h
    subst h
    exact ⟨[], rfl, by simp⟩
  | .tmp t :: l, vs, h => by
    simp only [resA] at h
    split at h
    · rename_i v vs' hv hvs
      simp only [Option.some.injEq] at h
      subst h
      obtain ⟨V, h1, h2⟩ := hf t v hv
      obtain ⟨Vs, h3, h4⟩ := resA_rel he hs hf hvs
      refine ⟨V :: Vs, VRels.cons h2 h3, ?_⟩
      simp [oneRes, Array.getD_eq_getD_getElem?, h1, h4, Result.andThen]
    · cases h
  | .cell p t :: l, vs, h => by
    simp only [resA] at h
    split at h
    · rename_i id off hq
      split at h
      · rename_i o v vs' ho hv hvs
        simp only [Option.some.injEq] at h
        subst h
        obtain ⟨X, h1, h2⟩ := hf p _ hq
        obtain ⟨V, h5, h6⟩ := load_sound (w := w) he h2 hv (fun i hi => by simp only [idsOf, List.mem_singleton] at hi; subst hi; exact hs.has ho)
        obtain ⟨Vs, h3, h4⟩ := resA_rel he hs hf hvs
        refine ⟨V :: Vs, VRels.cons h5 h3, ?_⟩
        simp only [VRel] at h2
        obtain ⟨q, _, rfl⟩ := h2
        have h7 : (oneRes A.tmps (.cell p t)).run P w = .ok V w := by
          rw [← h6]
          simp [oneRes, Array.getD_eq_getD_getElem?, h1, Instr.loadAt, Instr.sureAddr, asAddr]
        simp [h7, h4, Sem.run_bind, Result.andThen]
      · cases h
    · cases h

theorem result_rel (he : EnvOk e P) (hs : Sim w0 E s w) (hf : ∀ i v, a.t.get i = some v → ∃ V, A.tmps[i]? = some V ∧ VRel E v V) {fn : Func} {v : AV} (h : resultA e fn a s = some v) :
    ∃ V, VRel E v V ∧ (results fn A.tmps).run P w = .ok V w := by
  unfold resultA at h
  have key : ∀ {Vs : List Value}, (fn.results.toList.mapM (oneRes A.tmps)).run P w = .ok Vs w → (results fn A.tmps).run P w = .ok (if h : Vs.toArray.size = 1 then Vs.toArray[0] else .tuple Vs.toArray) w := fun {Vs} hr => by
    rw [results_eq, Array.mapM_eq_mapM_toList]
    simp [hr, Result.andThen]
  split at h
  · rename_i u hu
    obtain ⟨Vs, h1, h2⟩ := resA_rel he hs hf hu
    simp only [VRels] at h1
    obtain ⟨V, _, h1, rfl, rfl⟩ := h1
    simp only [Option.some.injEq] at h
    subst h
    exact ⟨V, h1, by rw [key h2]; simp⟩
  · rename_i vs hne hu
    obtain ⟨Vs, h1, h2⟩ := resA_rel he hs hf hu
    simp only [Option.some.injEq] at h
    subst h
    refine ⟨.tuple Vs.toArray, by simp only [VRel]; exact ⟨Vs, h1, rfl⟩, ?_⟩
    rw [key h2]
    have : Vs.toArray.size ≠ 1 := by
      intro h1'
      have hl := VRels.length h1
      simp at h1'
      rw [h1'] at hl
      match vs, hl with
      | [v], _ => exact hne v rfl
    simp only [this, dite_false]
  · cases h
end Go.AX
