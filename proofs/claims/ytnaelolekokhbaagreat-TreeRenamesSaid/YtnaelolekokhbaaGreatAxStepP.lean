import Derived.Test.YtnaelolekokhbaaGreatAxOpsS
namespace Go.AX
open Go.RowKit
variable {e : Env} {P : Program} {w0 : World} {E : Em} {s : St} {w : World} {a : Ac} {A : Act}

theorem stepPure_sound (he : EnvOk e P) (ha : ARel E a A) {o : Oper} (hsel : ∀ cs b, o.op ≠ .select cs b) {v : AV} {ids : List Nat} (h : stepPure e a o = some (v, ids)) :
    ∃ V, VRel E v V ∧ ∀ w, (execOp A.eval o).run P w = .ok (.value V) w := by
  unfold stepPure at h
  cases hall : o.op.operands.toList.all (fun x => (toVal (a.eval x)).isSome) with
  | false => simp [hall] at h
  | true =>
    simp only [hall, cond_true] at h
    split at h
    · rename_i V hp
      simp only [Option.some.injEq, Prod.mk.injEq] at h
      obtain ⟨rfl, _⟩ := h
      refine ⟨V, ofVal_rel V, fun w => ?_⟩
      rw [← he.prog]
      rw [execOp_congr o hsel (ρ := A.eval) (ρ' := valAt a) (fun x hx => ?_)]
      · exact pureRun_run hp w
      · have hx' : (toVal (a.eval x)).isSome = true := by
          rw [List.all_eq_true] at hall
          exact hall x (by simpa using hx)
        obtain ⟨U, hU⟩ := Option.isSome_iff_exists.1 hx'
        unfold valAt
        rw [hU]
        exact toVal_rel (eval_rel ha x) hU
    · cases h

theorem quietR_some {v : Option AV} {u : AV} {ids : List Nat} (h : quietR v = some (u, ids)) : v = some u ∧ ids = [] := by
  cases v <;> simp [quietR] at h; exact ⟨by rw [h.1], by simp [h.2]⟩
theorem readR_some {l : List Nat} {v : Option AV} {u : AV} {ids : List Nat} (h : readR l v = some (u, ids)) : v = some u ∧ ids = l := by
  cases v <;> simp [readR] at h; exact ⟨by rw [h.1], h.2.symm⟩

theorem value_run {x : Sem Value} {V : Value} (h : x.run P w = .ok V w) : (do pure (Next.value (← x)) : Sem Next).run P w = .ok (.value V) w := by simp [h]

theorem pairs_fst (l : List (Nat × Operand)) (f : Operand → AV) (g : Operand → Value) : (l.map fun q => (q.1, g q.2)).map (·.1) = (l.map fun q => (q.1, f q.2)).map (·.1) := by simp
theorem pairs_snd (ha : ARel E a A) (l : List (Nat × Operand)) : VRels E ((l.map fun q => (q.1, a.eval q.2)).map (·.2)) ((l.map fun q => (q.1, A.eval q.2)).map (·.2)) := by
  simp only [List.map_map]
  exact VRels.map (fun q => eval_rel ha q.2) l

set_option maxHeartbeats 1000000 in
/-- **An operation that leaves memory alone.** -/
theorem stepP_sound (he : EnvOk e P) (h0 : ∃ w0 w1, Sim w0 E s w1) (ha : ARel E a A) {o : Oper} {v : AV} {ids : List Nat} (h : stepP e a s o = some (v, ids)) (hr : ∀ id ∈ ids, Has E s w id) :
    ∃ V, VRel E v V ∧ (execOp A.eval o).run P w = .ok (.value V) w := by
  obtain ⟨dst, op, type, pos, after, guard⟩ := o
  have pureS : ∀ {op' : Op}, (∀ cs b, op' ≠ .select cs b) → stepPure e a ⟨dst, op', type, pos, after, guard⟩ = some (v, ids) → ∃ V, VRel E v V ∧ (execOp A.eval ⟨dst, op', type, pos, after, guard⟩).run P w = .ok (.value V) w :=
    fun hs hp => let ⟨V, hV, hrun⟩ := stepPure_sound he ha hs hp; ⟨V, hV, hrun w⟩
  cases op <;> simp only [stepP] at h
  case move x =>
    simp only [Option.some.injEq, Prod.mk.injEq] at h; obtain ⟨rfl, _⟩ := h
    exact ⟨_, eval_rel ha x, by simp [execOp]⟩
  case assign x =>
    simp only [Option.some.injEq, Prod.mk.injEq] at h; obtain ⟨rfl, _⟩ := h
    exact ⟨_, eval_rel ha x, by simp [execOp]⟩
  case pick c x y =>
    split at h
    · rename_i b hc
      simp only [Option.some.injEq, Prod.mk.injEq] at h; obtain ⟨rfl, _⟩ := h
      have hc' := eval_rel ha c
      rw [hc] at hc'
      simp only [VRel] at hc'
      cases b
      · exact ⟨_, eval_rel ha y, by simp [execOp, hc', asBool]⟩
      · exact ⟨_, eval_rel ha x, by simp [execOp, hc', asBool]⟩
    · cases h
  case build t parts =>
    obtain ⟨h, _⟩ := quietR_some h
    obtain ⟨V, hV, hrun⟩ := build_sound he (pairs_fst parts.toList a.eval A.eval) (pairs_snd ha parts.toList) h w
    refine ⟨V, hV, ?_⟩
    simp only [execOp]
    refine value_run ?_
    have : (parts.map fun (q : Nat × Operand) => (q.1, A.eval q.2)) = (parts.toList.map fun q => (q.1, A.eval q.2)).toArray := by
      apply Array.ext'; simp
    rw [this]; exact hrun
  case load t x =>
    obtain ⟨hh, rfl⟩ := readR_some h
    obtain ⟨V, hV, hrun⟩ := load_sound he (eval_rel ha x) hh hr
    exact ⟨V, hV, by simp only [execOp]; exact value_run hrun⟩
  case nilCheck x =>
    have hx := eval_rel ha x
    split at h
    · rename_i id off heq
      rw [heq] at hx
      have hx' := hx
      simp only [VRel] at hx'
      obtain ⟨p, hp, hX⟩ := hx'
      simp only [Option.some.injEq, Prod.mk.injEq] at h; obtain ⟨rfl, _⟩ := h
      exact ⟨A.eval x, hx, by simp [execOp, hX]⟩
    · rename_i f c heq
      rw [heq] at hx
      have hx' := hx
      simp only [VRel] at hx'
      obtain ⟨p, hp, hX⟩ := hx'
      simp only [Option.some.injEq, Prod.mk.injEq] at h; obtain ⟨rfl, _⟩ := h
      exact ⟨A.eval x, hx, by simp [execOp, hX]⟩
    · rename_i l heq
      rw [heq] at hx
      have hx' := hx
      simp only [VRel] at hx'
      obtain ⟨p, hp, hX⟩ := hx'
      simp only [Option.some.injEq, Prod.mk.injEq] at h; obtain ⟨rfl, _⟩ := h
      exact ⟨A.eval x, hx, by simp [execOp, hX]⟩
    · rename_i t u heq
      rw [heq] at hx
      have hx' := hx
      simp only [VRel] at hx'
      obtain ⟨p, hp, hX⟩ := hx'
      simp only [Option.some.injEq, Prod.mk.injEq] at h; obtain ⟨rfl, _⟩ := h
      exact ⟨A.eval x, hx, by simp [execOp, hX]⟩
    · cases h
  case binOp op t x y yt =>
    have hx := eval_rel ha x
    have hy := eval_rel ha y
    split at h
    · rename_i u hb
      simp only [Option.some.injEq, Prod.mk.injEq] at h; obtain ⟨rfl, _⟩ := h
      obtain ⟨V, hV, hrun⟩ := binFast_sound (P := P) (t := t) hx hy hb w x y
      exact ⟨V, hV, by simp only [execOp]; exact value_run hrun⟩
    · split at h
      · split at h
        · rename_i ti hti
          obtain ⟨inf, _, hu, _⟩ := he.ty _ _ hti
          split at h
          · rename_i b hb
            simp only [Option.some.injEq, Prod.mk.injEq] at h; obtain ⟨rfl, _⟩ := h
            obtain ⟨h1, h2, h3, h4, _⟩ := eqA_sound hu hx hy hb w
            refine ⟨_, bool_rel, ?_⟩
            simp only [execOp]
            refine value_run ?_
            simp [eqGuard_quiet h2 h3 w, h4 _ rfl, h1]
          · split at h
            · rename_i b ids' hb
              simp only [Option.some.injEq, Prod.mk.injEq] at h; obtain ⟨rfl, rfl⟩ := h
              obtain ⟨h1, h2, h3, h4, _⟩ := eqP_sound he h0 hu hx hy hb hr
              refine ⟨_, bool_rel, ?_⟩
              simp only [execOp]
              refine value_run ?_
              simp [eqGuard_quiet h2 h3 w, h4 _ rfl, h1]
            · exact pureS (by simp) h
        · cases h
      · split at h
        · rename_i ti hti
          obtain ⟨inf, _, hu, _⟩ := he.ty _ _ hti
          split at h
          · rename_i b hb
            simp only [Option.some.injEq, Prod.mk.injEq] at h; obtain ⟨rfl, _⟩ := h
            obtain ⟨h1, h2, h3, _, h4⟩ := eqA_sound hu hx hy hb w
            refine ⟨_, bool_rel, ?_⟩
            simp only [execOp]
            refine value_run ?_
            simp [eqGuard_quiet h2 h3 w, h4 _ rfl, h1]
          · split at h
            · rename_i b ids' hb
              simp only [Option.some.injEq, Prod.mk.injEq] at h; obtain ⟨rfl, rfl⟩ := h
              obtain ⟨h1, h2, h3, _, h4⟩ := eqP_sound he h0 hu hx hy hb hr
              refine ⟨_, bool_rel, ?_⟩
              simp only [execOp]
              refine value_run ?_
              simp [eqGuard_quiet h2 h3 w, h4 _ rfl, h1]
            · exact pureS (by simp) h
        · cases h
      · exact pureS (by simp) h
  case unOp => exact pureS (by simp) h
  case convert src dst x =>
    split at h
    · rename_i r hb
      simp only [Option.some.injEq] at h
      subst h
      obtain ⟨V, hV, hrun⟩ := text_sound he (eval_rel ha x) hb hr
      exact ⟨V, hV, by simp only [execOp]; exact value_run hrun⟩
    · exact pureS (by simp) h
  case makeInterface t x =>
    split at h
    · rename_i ti hti
      obtain ⟨inf, _, hu, _⟩ := he.ty _ _ hti
      cases hi : isIface ti.desc with
      | true => simp [hi] at h
      | false =>
        simp only [hi, cond_false, Option.some.injEq, Prod.mk.injEq] at h; obtain ⟨rfl, _⟩ := h
        refine ⟨.iface t (A.eval x), by simp only [VRel]; exact ⟨_, eval_rel ha x, rfl⟩, ?_⟩
        simp only [execOp]
        refine value_run ?_
        unfold Instr.makeInterface
        cases hd : ti.desc <;> rw [hd] at hi hu <;> simp [isIface] at hi <;> simp [run_underlying hu]
    · cases h
  case makeFunc f first captured =>
    split at h
    · rename_i g
      cases hf : first.toList.isEmpty with
      | false => simp [hf] at h
      | true =>
        simp only [hf, cond_true, Option.some.injEq, Prod.mk.injEq] at h; obtain ⟨rfl, _⟩ := h
        have hfirst : first = #[] := by simpa using hf
        refine ⟨.func (.func g) #[] (captured.toList.map A.eval).toArray, by simp only [VRel]; exact ⟨_, evals_rel ha _, rfl⟩, ?_⟩
        simp only [execOp]
        refine value_run ?_
        have hc : captured.map A.eval = (captured.toList.map A.eval).toArray := by apply Array.ext'; simp
        simp [Instr.makeFunc, hfirst, hc]
    · cases h
  case slice t x lo hi mx =>
    obtain ⟨h, _⟩ := quietR_some h
    obtain ⟨V, hV, hrun⟩ := slice_sound he (eval_rel ha x) (OptRel.map ha lo) (OptRel.map ha hi) (OptRel.map ha mx) h w
    exact ⟨V, hV, by simp only [execOp]; exact value_run hrun⟩
  case fieldAddr t x f =>
    obtain ⟨h, _⟩ := quietR_some h
    obtain ⟨V, hV, hrun⟩ := fieldAddr_sound he (eval_rel ha x) h w
    exact ⟨V, hV, by simp only [execOp]; exact value_run hrun⟩
  case field t x f =>
    obtain ⟨h, _⟩ := quietR_some h
    obtain ⟨V, hV, hrun⟩ := field_sound he (eval_rel ha x) h w
    exact ⟨V, hV, by simp only [execOp]; exact value_run hrun⟩
  case indexAddr t x i =>
    obtain ⟨h, _⟩ := quietR_some h
    obtain ⟨V, hV, hrun⟩ := indexAddr_sound he (eval_rel ha x) (eval_rel ha i) h w
    exact ⟨V, hV, by simp only [execOp]; exact value_run hrun⟩
  case index t x i =>
    obtain ⟨h, _⟩ := quietR_some h
    obtain ⟨V, hV, hrun⟩ := index_sound he (eval_rel ha x) (eval_rel ha i) h w
    exact ⟨V, hV, by simp only [execOp]; exact value_run hrun⟩
  case lookup t x k ok =>
    obtain ⟨hh, rfl⟩ := readR_some h
    obtain ⟨V, hV, hrun⟩ := lookup_sound he (eval_rel ha x) (eval_rel ha k) hh hr
    exact ⟨V, hV, by simp only [execOp]; exact value_run hrun⟩
  case typeAssert x xt t ok =>
    obtain ⟨h, _⟩ := quietR_some h
    obtain ⟨V, hV, hrun⟩ := assert_sound (xt := xt) he (eval_rel ha x) h w
    exact ⟨V, hV, by simp only [execOp]; exact value_run hrun⟩
  case extract x i =>
    split at h
    · rename_i vs hx
      obtain ⟨h, _⟩ := quietR_some h
      have hx' := eval_rel ha x
      rw [hx] at hx'
      simp only [VRel] at hx'
      obtain ⟨C, hC, hX⟩ := hx'
      obtain ⟨V, hV, hv⟩ := hC.get h
      exact ⟨V, hv, by simp only [execOp]; exact value_run (by simp [Instr.extract, hX, hV])⟩
    · exact pureS (by simp) h
  case call c =>
    obtain ⟨callee, args, argTypes⟩ := c
    have hargs : args.map A.eval = (args.toList.map A.eval).toArray := by apply Array.ext'; simp
    split at h
    · rename_i hcal
      simp only at hcal
      subst hcal
      obtain ⟨hh, rfl⟩ := readR_some h
      have hr' : ∀ id ∈ (match args.toList.map a.eval with | x :: _ => idsOf x | [] => []), Has E s w id := by
        intro id hid
        refine hr id ?_
        cases hl : args.toList with
        | nil => simp [hl] at hid
        | cons y l => simpa [hl] using hid
      obtain ⟨V, hV, hrun⟩ := len_sound (ty := type) he (evals_rel ha args.toList) hh hr'
      refine ⟨V, hV, ?_⟩
      simp only [execOp, resolve, invoke, builtin, hargs]
      simp at hrun
      simp [hrun]
    · rename_i hcal
      simp only at hcal
      subst hcal
      obtain ⟨h, _⟩ := quietR_some h
      obtain ⟨V, hV, hrun⟩ := cap_sound (ty := type) he (evals_rel ha args.toList) h w
      refine ⟨V, hV, ?_⟩
      simp only [execOp, resolve, invoke, builtin, hargs]
      simp at hrun
      simp [hrun]
    · exact pureS (by simp) h
    · exact pureS (by simp) h
    · cases h
  all_goals cases h

end Go.AX
