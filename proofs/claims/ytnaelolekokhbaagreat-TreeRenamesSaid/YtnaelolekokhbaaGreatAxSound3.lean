import Derived.Test.YtnaelolekokhbaaGreatAxSound2
namespace Go.AX
open Go.RowKit
variable {e : Env} {P : Program} {pr : Prims} {r : Tasks} {w0 : World} {E : Em} {s : St} {w : World} {a : Ac} {A : Act}

theorem idsIn_has : ∀ {l : List Nat}, idsIn s l = true → Sim w0 E s w → ∀ id ∈ l, Has E s w id
  | [], _, _, _, h => by cases h
  | id :: l, h, hs, i, hi => by
    unfold idsIn at h
    split at h
    · rename_i o ho
      rcases List.mem_cons.1 hi with rfl | hi
      · exact hs.has ho
      · exact idsIn_has h hs i hi
    · cases h

section op
variable {RD : Option Nat} {o : Oper} {next : Act → World → Prop} {Q : Exit → Act → World → Prop}

theorem comes_upon {v : AV} {s' : St} {k : Ac → St → Bool} (h : Comes1 P w0 E w (execOp A.eval o) v s') (hnd : ∀ c, o.op ≠ .defer c) (hf : FRel E a A) (hk : putK a o.dst v s' k = true) (hn : NOk w0 E k next) :
    o.wpIn (FW RD) 0 P A w next Q := by
  obtain ⟨nx, V, w', E', hrun, hnx, hle, hv, hs⟩ := h
  refine ⟨fun f _ => trivial, ?_⟩
  rw [Oper.semAt_eq _ _ _ hnd, hrun]
  rcases hnx with rfl | ⟨rfl, rfl⟩
  · exact putK_ok hk (hf.mono hle) hv hs (hn.mono hle)
  · exact putK_ok hk (hf.mono hle) hv hs (hn.mono hle)

theorem plainOp_sound (he : EnvOk e P) (hnd : ∀ c, o.op ≠ .defer c) {k : Ac → St → Bool} (h : plainOp e o a s k = true) (hf : FRel E a A) (hs : Sim w0 E s w) (hn : NOk w0 E k next) :
    o.wpIn (FW RD) 0 P A w next Q := by
  unfold plainOp at h
  split at h
  · rename_i v ids hp
    cases hi : idsIn s ids with
    | false => rw [hi] at h; cases h
    | true =>
      rw [hi] at h
      obtain ⟨V, hv, hrun⟩ := stepP_sound he ⟨w0, w, hs⟩ hf.toARel hp (idsIn_has hi hs)
      exact comes_upon ⟨.value V, V, w, E, hrun, .inl rfl, Em.le_refl E, hv, hs⟩ hnd hf h hn
  · split at h
    · rename_i v s' ha
      exact comes_upon (stepA_sound he hs hf.toARel ha) hnd hf h hn
    · cases h

theorem setTmps_rel : ∀ {ps : List Tmp} {vs : List AV} {t t' : Tr AV} {n : Nat} {T : Array Value} {Vs : List Value}, setTmps t n ps vs = some t' → TRel E t n T → VRels E vs Vs →
    ps.length = Vs.length ∧ TRel E t' n ((ps.zip Vs).foldl (fun tmps q => tmps.setIfInBounds q.1 q.2) T)
  | [], [], _, _, _, _, _, h, ht, hv => by
    simp only [setTmps, Option.some.injEq] at h
    simp only [VRels] at hv
    subst h hv
    exact ⟨rfl, ht⟩
  | p :: ps, v :: vs, t, t', n, T, Vs, h, ht, hv => by
    simp only [setTmps] at h
    simp only [VRels] at hv
    obtain ⟨V, Vs', hv, hvs, rfl⟩ := hv
    cases hb : Nat.blt p n with
    | false => rw [hb] at h; cases h
    | true =>
      rw [hb] at h
      obtain ⟨h1, h2⟩ := setTmps_rel h (ht.set (Nat.blt_eq.mp hb) hv) hvs
      exact ⟨by simp [h1], h2⟩
  | [], _ :: _, _, _, _, _, _, h, _, _ => by simp [setTmps] at h
  | _ :: _, [], _, _, _, _, _, h, _, _ => by simp [setTmps] at h

theorem puts_putObj {b : Nat} {O O' : Obj} (h : w.heap[b]? = some O) : Puts w (w.putObj b O') b O' := by
  have hlt : b < w.heap.size := (Array.getElem?_eq_some_iff.1 h).1
  exact ⟨fun k hk => World.putObj_heap_other hk, World.putObj_heap_same hlt, by simp [World.putObj], rfl, rfl, rfl⟩

theorem Sim.loop (hs : Sim w0 E s w) {id n : Nat} {st : LoopState} {pd : Option Code} {fn : FuncId} {t : Tr AV} {ps : List Tmp} {as b : Code} {d : Nat} (hg : s.h.get id = some (.loop st pd fn t n ps as b d)) :
    ∃ p L, E id = some p ∧ w.heap[p.1]? = some (.loop L) ∧ L.state = st ∧ L.pending = pd ∧ TRel E t n L.tmps ∧ L.params.toList = ps ∧ L.assign = as ∧ L.body = b ∧ ORel E p (.loop st pd fn t n ps as b d) (.loop L) := by
  obtain ⟨p, O, hp, hO, hr, _⟩ := hs.obj _ _ hg
  have hr' := hr
  simp only [ORel] at hr
  obtain ⟨L, pd', rfl, h1, h2, h3, h4, h5, h6, h7, h8⟩ := hr
  exact ⟨p, L, hp, hO, h1, h2, h3, h4, h5, h6, hr'⟩

theorem orel_state {p : Nat × Nat × Nat} {st st' : LoopState} {pd pd' : Option Code} {fn : FuncId} {t : Tr AV} {n : Nat} {ps : List Tmp} {as b : Code} {d : Nat} {L : Loop}
    (h : ORel E p (.loop st pd fn t n ps as b d) (.loop L)) : ORel E p (.loop st' pd' fn t n ps as b d) (.loop { L with state := st', pending := pd' }) := by
  simp only [ORel] at h ⊢
  obtain ⟨L', pd'', h0, h1, h2, h3, h4, h5, h6, h7, h8⟩ := h
  cases h0
  exact ⟨_, pd'', rfl, rfl, rfl, h3, h4, h5, h6, h7, h8⟩

theorem end_ok {id : Nat} {jump : Option Code} {k : AV → St → Bool} {N : Value → World → Prop} {p : Nat × Nat × Nat} (h : endK s id jump jump.isNone k = true) (hs : Sim w0 E s w) (hp : E id = some p) (hk : POk w0 E k N) :
    ∃ v w', (Instr.endRound p.1 jump).run P w = .ok v w' ∧ N v w' := by
  unfold endK at h
  split at h
  · rename_i s' hs'
    unfold endRoundA at hs'
    split at hs'
    · rename_i st pd fn t n ps as b d hg
      simp only [Option.some.injEq] at hs'
      obtain ⟨p', L, hp', hO, _, _, _, _, _, _, hr⟩ := hs.loop hg
      rw [hp] at hp'; cases hp'
      refine ⟨_, _, run_endRound jump hO, hk E _ _ _ _ (Em.le_refl E) bool_rel ?_ h⟩
      rw [← hs']
      cases jump with
      | none => exact hs.puts hg hp (puts_putObj hO) (orel_state hr)
      | some j => exact hs.puts hg hp (puts_putObj hO) (orel_state hr)
    · cases hs'
  · cases h

theorem Sim.same {id : Nat} {p p' : Nat × Nat × Nat} (h : E id = some p) {E' : Em} (hE : E.le E') (h' : E' id = some p') : p' = p := by
  rw [hE _ _ h] at h'; cases h'; rfl

theorem round_sound (hr : Sound P r) {id : Nat} {args : List AV} {Args : List Value} {k : AV → St → Bool} {N : Value → World → Prop} {p : Nat × Nat × Nat} (h : roundA r id args s k = true) (hp : E id = some p) (hv : VRels E args Args) (hs : Sim w0 E s w) (hk : POk w0 E k N) :
    ∃ f tmps as body, (Instr.yield p.1 Args.toArray).run P w = .ok (.round p.1 f tmps as body) w ∧ RoundIn (FW RD) 0 P p.1 f tmps as body w (callPost N fun _ _ => False) := by
  unfold roundA at h
  split at h
  · rename_i st pd fn t n ps as body d hg
    split at h
    · rename_i t' ht'
      obtain ⟨p', L, hp', hO, h1, h2, h3, h4, h5, h6, h7⟩ := hs.loop hg
      rw [hp] at hp'; cases hp'
      obtain ⟨hlen, hT⟩ := setTmps_rel ht' h3 hv
      have hlen' : Args.toArray.size = L.params.size := by
        have : L.params.size = ps.length := by rw [← h4]; simp
        simp [this, hlen]
      refine ⟨L.fn, _, L.assign, L.body, run_yield hO hlen', roundIn_of_wpIn trivial ?_⟩
      have hfold : ((L.params.zip Args.toArray).foldl (fun tmps (t, a) => tmps.setIfInBounds t a) L.tmps) = (ps.zip Args).foldl (fun tmps q => tmps.setIfInBounds q.1 q.2) L.tmps := by
        rw [← h4, ← Array.foldl_toList]
        simp
      rw [hfold, h5]
      refine hr.code (E := E) (RD := some p.1) h ⟨p, hp, rfl⟩ (A := { tmps := _, defers := [] }) ⟨⟨hT⟩, rfl⟩ hs ?_
      intro E1 ex a1 s1 X A1 w1 hE1 hX hG hs1 hk1
      cases ex with
      | normal =>
        simp only [XRel] at hX; subst hX
        simp only at hk1
        split at hk1
        · rename_i pd1 fn1 t1 n1 ps1 as1 b1 d1 hg1
          obtain ⟨p1, L1, hp1, hO1, g1, g2, g3, g4, g5, g6, g7⟩ := hs1.loop hg1
          cases Sim.same hp hE1 hp1
          refine ⟨_, run_beginRound hO1 g1, ?_⟩
          rw [h6]
          have hs2 : Sim w0 E1 { s1 with h := s1.h.set id (.loop .busy pd1 fn1 t1 n1 ps1 as1 b1 d1) } (w1.putObj p.1 (.loop { L1 with state := .busy })) := by
            refine hs1.puts hg1 hp1 (puts_putObj hO1) ?_
            have := orel_state (st' := .busy) (pd' := pd1) g7
            rw [← g2] at this
            simpa [g2] using this
          refine hr.code hk1 ⟨p, hE1 _ _ hp, rfl⟩ hG hs2 ?_
          intro E2 ex a2 s2 X A2 w2 hE2 hX hG hs2 hk2
          have hp2 := hE2 _ _ hp1
          have hkk := hk.mono (Em.le_trans hE1 hE2)
          cases ex with
          | normal => simp only [XRel] at hX; subst hX; exact end_ok (jump := none) hk2 hs2 hp2 hkk
          | ret => simp only [XRel] at hX; subst hX; exact end_ok (jump := some .ret) hk2 hs2 hp2 hkk
          | exit j => simp only [XRel] at hX; subst hX; exact end_ok (jump := some (.exit j)) hk2 hs2 hp2 hkk
          | goto j => simp only [XRel] at hX; subst hX; exact end_ok (jump := some (.goto j)) hk2 hs2 hp2 hkk
          | panic v => cases hk2
        · cases hk1
      | exit j => cases hk1
      | goto j => cases hk1
      | ret => cases hk1
      | panic v => cases hk1
    · cases h
  · cases h

theorem resolve_value {ρ : Operand → Value} {c : Call} {ty : TypeId} {f : Operand} {fn : Fn} {C : Array Value} (hcal : c.callee = .value f) (hV : ρ f = .func fn #[] C) :
    resolve ρ c ty = pure { target := .fn fn C, args := (c.args.toList.map ρ).toArray } := by
  unfold resolve
  rw [hcal]
  show Deferred.ofValue (ρ f) _ = _
  rw [hV]
  have : (c.args.toList.map ρ).toArray = c.args.map ρ := by rw [← Array.toList_map]
  rw [this]
  simp [Deferred.ofValue]

theorem evOp_sound (he : EnvOk e P) (hpr : PrimsOk P pr) (hr : Sound P r) {rd : Option Nat} {k : Ac → St → Bool} {kp : AV → St → Bool} (h : evOp e pr r rd o a s k kp = true) (hrd : RdRel E rd RD) (hf : FRel E a A) (hs : Sim w0 E s w)
    (hn : NOk w0 E k next) (hq : POk w0 E kp fun V w' => Q (.panic [{ v := V, recovered := false }]) A w') : o.wpIn (FW RD) 0 P A w next Q := by
  unfold evOp at h
  split at h
  · -- panic
    rename_i x hx
    split at h
    · rename_i t v hv
      have hv' := eval_rel hf.toARel x
      rw [hv] at hv'
      have hv2 := hv'
      simp only [VRel] at hv'
      obtain ⟨U, hU, hV⟩ := hv'
      refine ⟨fun f _ => trivial, ?_⟩
      rw [Oper.semAt_eq _ _ _ (by simp [hx])]
      have : (execOp A.eval o).run P w = .halt (.panic (A.eval x)) w := by
        unfold execOp
        rw [hx]
        show ((do pure (Next.value (← Instr.panic (A.eval x)))) : Sem Next).run P w = _
        rw [hV]
        simp [Instr.panic, goPanic, Result.andThen]
      rw [this]
      exact hq E _ s _ w (Em.le_refl E) hv2 hs h
    · cases h
  · -- defer
    rename_i c hc
    split at h
    · rename_i f hcal
      split at h
      · rename_i g cap hfv
        have hv' := eval_rel hf.toARel f
        rw [hfv] at hv'
        simp only [VRel] at hv'
        obtain ⟨C, hC, hV⟩ := hv'
        simp only [RdRel] at hrd
        subst hrd
        refine ⟨fun f _ => trivial, ?_⟩
        have hrun : (o.semAt (FW none).round A.eval).run P w = .ok (.defer { target := .fn (.func g) C.toArray, args := (c.args.toList.map A.eval).toArray }) w := by
          show (execOp A.eval o).run P w = _
          unfold execOp
          rw [hc]
          show ((do pure (Next.defer (← resolve A.eval c o.type))) : Sem Next).run P w = _
          rw [resolve_value hcal hV]
          simp
        rw [hrun]
        have hfd : FRel E { a with d := .call g (c.args.toList.map a.eval ++ cap) :: a.d } { A with defers := { target := .fn (.func g) C.toArray, args := (c.args.toList.map A.eval).toArray } :: A.defers } :=
          ⟨⟨hf.tmps⟩, ⟨_, C, _, VRels.append (evals_rel hf.toARel _) hC, hf.defs, rfl⟩⟩
        exact putK_ok h hfd undef_rel hs hn
      · cases h
    · cases h
  · -- call
    rename_i c hc
    split at h
    · rename_i f hcal
      have hv' := eval_rel hf.toARel f
      split at h
      · rename_i g cap hfv
        rw [hfv] at hv'
        simp only [VRel] at hv'
        obtain ⟨C, hC, hV⟩ := hv'
        have hargs : VRels E (c.args.toList.map a.eval ++ cap) (c.args.toList.map A.eval ++ C) := VRels.append (evals_rel hf.toARel _) hC
        have hrun : (o.semAt (FW RD).round A.eval).run P w = (callFunc g (c.args.toList.map A.eval ++ C).toArray).run P w := by
          rw [Oper.semAt_eq _ _ _ (by simp [hc])]
          unfold execOp
          rw [hc]
          show ((do let d ← resolve A.eval c o.type; invoke d.target d.args) : Sem Next).run P w = _
          rw [resolve_value hcal hV]
          simp [invoke]
        refine ⟨fun f _ => trivial, ?_⟩
        rw [hrun]
        split at h
        · rename_i v s' hx
          obtain ⟨V, w', E', hcr, hle, hv, hs'⟩ := hpr.ext hx hargs hs
          rw [hcr]
          exact putK_ok h (hf.mono hle) hv hs' (hn.mono hle)
        · split at h
          · rename_i v s' hx
            obtain ⟨hen, hcalls⟩ := hpr.fn hx hargs hs
            rw [hen]
            refine calls_upon (R := fun V w' => next (A.put o.dst V) w') (Rp := fun _ _ => False) (CallsIn.mono hcalls fun en w' hen => ?_) (fun _ _ h => h) (fun _ _ h => h.elim)
            obtain ⟨V, E', rfl, hle, hv, hs'⟩ := hen
            exact putK_ok h (hf.mono hle) hv hs' (hn.mono hle)
          · obtain ⟨hen, hcalls⟩ := hr.call (R := fun V w' => next (A.put o.dst V) w') (Rp := fun V w' => Q (.panic [{ v := V, recovered := false }]) A w') h hargs hs
              (fun E' v s' V w' hle hv hs' hk => putK_ok hk (hf.mono hle) hv hs' (hn.mono hle)) hq
            rw [hen]
            exact calls_upon hcalls (fun _ _ h => h) (fun _ _ h => h)
      · rename_i id hfv
        rw [hfv] at hv'
        simp only [VRel] at hv'
        obtain ⟨p, hp, hV⟩ := hv'
        have hrun : (o.semAt (FW RD).round A.eval).run P w = (Instr.yield p.1 (c.args.toList.map A.eval).toArray).run P w := by
          rw [Oper.semAt_eq _ _ _ (by simp [hc])]
          unfold execOp
          rw [hc]
          show ((do let d ← resolve A.eval c o.type; invoke d.target d.args) : Sem Next).run P w = _
          rw [resolve_value hcal hV]
          simp [invoke]
        obtain ⟨g, tmps, as, body, hy, hrn⟩ := round_sound (RD := RD) hr (N := fun V w' => next (A.put o.dst V) w') h hp (evals_rel hf.toARel _) hs
          (fun E' v s' V w' hle hv hs' hk => putK_ok hk (hf.mono hle) hv hs' (hn.mono hle))
        refine ⟨fun f _ => trivial, ?_⟩
        rw [hrun, hy]
        refine ⟨fw_depth RD, RoundIn.mono hrn fun en w' hen => ?_⟩
        cases en with
        | returned v => exact hen
        | panicked ch => obtain ⟨_, _, hh⟩ := hen; exact hh.elim
        | outgrown => exact hen.elim
      · cases h
    · exact plainOp_sound he (by simp [hc]) h hf hs hn
  · rename_i _ h2 _
    exact plainOp_sound he (fun c hc => h2 c hc) h hf hs hn
end op
end Go.AX
