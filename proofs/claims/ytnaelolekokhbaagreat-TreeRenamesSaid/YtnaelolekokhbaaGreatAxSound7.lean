import Derived.Test.YtnaelolekokhbaaGreatAxSound6
namespace Go.AX
open Go.RowKit
variable {e : Env} {P : Program} {pr : Prims} {r : Tasks} {w0 : World} {E : Em} {s : St} {w : World} {a : Ac} {A : Act}

/-- What is asked of the program. -/
structure ProgOk (e : Env) (P : Program) : Prop extends EnvOk e P where
  named : ∀ f g, e.fn.get f = some g → g.body.isSome = true → (g.name == "runtime.NumGoroutine") = false
  mixed : P.follows .mixedOrders = true

theorem ProgOk.enters (he : ProgOk e P) {f : FuncId} {g : Func} (h : e.fn.get f = some g) {c : Code} (hb : g.body = some c) : Enters P f := by
  intro args w
  unfold callFunc
  have h1 := he.fn f g h
  have h2 : ¬ g.name = "runtime.NumGoroutine" := by simpa using he.named f g h (by rw [hb]; rfl)
  simp [go_sem, h1, h2, hb]

theorem leaveA_sound (he : ProgOk e P) (hr : Sound P r) {fn : Func} {kr kp : AV → St → Bool} {R Rp : Value → World → Prop} : ∀ (ds : List AD) (pn : Option AV) (s : St) (E : Em) (Ds : List Deferred) (u : FrameMode) (w : World),
    leaveA e r fn a kr kp ds pn s = true → (∀ i v, a.t.get i = some v → ∃ V, A.tmps[i]? = some V ∧ VRel E v V) → DRel E ds Ds → PRel E (pn.map (·, false)) u → Sim w0 E s w → POk w0 E kr R → POk w0 E kp Rp →
    LeavesInM (FW none) 0 P fn A.tmps (callPost R Rp) Ds u w := by
  intro ds
  induction ds with
  | nil =>
    intro pn s E Ds u w h hf hd hp hs hkr hkp
    simp only [DRel] at hd
    subst hd
    cases pn with
    | none =>
      simp only [PRel, Option.map_none] at hp
      subst hp
      simp only [leaveA] at h
      split at h
      · rename_i v hv
        obtain ⟨V, h1, h2⟩ := result_rel he.toEnvOk hs hf hv
        exact ⟨V, h2, hkr E v s V w (Em.le_refl E) h1 hs h⟩
      · cases h
    | some v =>
      obtain ⟨V, h1, rfl⟩ := hp
      exact ⟨V, rfl, hkp E v s V w (Em.le_refl E) h1 hs h⟩
  | cons d ds ih =>
    intro pn s E Ds u w h hf hd hp hs hkr hkp
    have hu : u ≠ .run := by
      cases pn with
      | none => simp only [PRel, Option.map_none] at hp; subst hp; intro h; cases h
      | some v => obtain ⟨V, _, rfl⟩ := hp; intro h; cases h
    cases d with
    | mark id =>
      obtain ⟨p, D, hp1, hd, rfl⟩ := hd
      simp only [leaveA] at h
      split at h
      · rename_i hg
        obtain ⟨p', O, hp', hO, hr', _⟩ := hs.obj _ _ hg
        rw [hp1] at hp'; cases hp'
        simp only [ORel, Bool.false_eq_true, if_false] at hr'
        subst hr'
        refine ⟨hu, .inl ⟨p.1, _, rfl, run_takeDeferred hO, ?_⟩⟩
        refine ih pn _ E D u _ h hf hd hp (hs.puts hg hp1 (puts_putObj hO) ?_) hkr hkp
        simp [ORel]
      · cases h
    | call g args =>
      obtain ⟨B, C, D, hargs, hd, rfl⟩ := hd
      simp only [leaveA] at h
      generalize 100 = N at h
      split at h
      · rename_i gf hgf
        split at h
        · rename_i c hc
          have hen := he.enters hgf hc
          refine ⟨hu, .inr ⟨fw_depth none, .func g, C.toArray, g, (B ++ C).toArray, rfl, ?_, fun g _ => trivial, ?_⟩⟩
          · simp only [invoke]
            rw [hen]
            simp
          · refine callsDIn_of_wpSIn (he.fn g gf hgf) hc trivial fun c₀ cs hcm => ?_
            have key := codeD_sound (c₀ := c₀) (cs := cs) he.toEnvOk hr N c _ _ s _ E _ u w (fun X A' u' w' => bodyPostS P gf c₀ cs (fun en u' w' => match en with
                | .returned _ => LeavesInM (FW none) 0 P fn A.tmps (callPost R Rp) D (settle u') w'
                | .panicked chain => LeavesInM (FW none) 0 P fn A.tmps (callPost R Rp) D (raised u' chain) w'
                | .outgrown => callPost R Rp .outgrown w') X A' ({ c₀ with mode := u' } :: cs) w') h (init_rel hargs gf.ntmps) hp hs ?_
            · have hc0 : ({ c₀ with mode := u } : Frame) = c₀ := by rw [← hcm]
              rw [hc0] at key
              refine wpSIn_mono key ?_
              rintro X A' cs' w' ⟨u', rfl, hq⟩
              exact hq
            · intro E' ex a' pn' s' X A' u' w' hle hX hG hp' hs' hk'
              dsimp only at hk'
              split at hk'
              · rename_i v' hd' hv'
                have body : FRel E' a' A' → leaveA e r fn a kr kp ds (leftOver pn') s' = true → A'.defers = [] ∧ ∃ u1, ({ c₀ with mode := u' } :: cs : List Frame) = { c₀ with mode := u1 } :: cs ∧ ∃ v, (results gf A'.tmps).run P w' = .ok v w' ∧ LeavesInM (FW none) 0 P fn A.tmps (callPost R Rp) D (settle u1) w' := by
                  intro hf' hl
                  have hdd := hf'.defs
                  rw [hd'] at hdd
                  obtain ⟨V', _, h2⟩ := result_rel he.toEnvOk hs' hf'.weak.tmps hv'
                  refine ⟨hdd, u', rfl, V', h2, ?_⟩
                  have hfE : ∀ i v, a.t.get i = some v → ∃ V, A.tmps[i]? = some V ∧ VRel E' v V := fun i v hv => let ⟨V, h1, h2⟩ := hf i v hv; ⟨V, h1, h2.mono hle⟩
                  cases pn' with
                  | none =>
                    simp only [PRel] at hp'
                    subst hp'
                    exact ih none s' E' D _ w' hl hfE (hd.mono hle) rfl hs' (hkr.mono hle) (hkp.mono hle)
                  | some q =>
                    obtain ⟨v, b⟩ := q
                    obtain ⟨V, hV, rfl⟩ := hp'
                    cases b with
                    | true => exact ih none s' E' D _ w' hl hfE (hd.mono hle) rfl hs' (hkr.mono hle) (hkp.mono hle)
                    | false => exact ih (some v) s' E' D _ w' hl hfE (hd.mono hle) ⟨V, hV, rfl⟩ hs' (hkr.mono hle) (hkp.mono hle)
                split at hk'
                · simp only [XRel] at hX
                  subst hX
                  exact body hG hk'
                · simp only [XRel] at hX
                  subst hX
                  exact body hG hk'
                · cases hk'
              · cases hk'
        · cases h
      · cases h

theorem call_sound (he : ProgOk e P) (hr : Sound P r) {f : FuncId} {args : List AV} {kr kp : AV → St → Bool} {Args : List Value} {R Rp : Value → World → Prop}
    (h : (step e pr r).call f args s kr kp = true) (hv : VRels E args Args) (hs : Sim w0 E s w) (hkr : POk w0 E kr R) (hkp : POk w0 E kp Rp) : Enters P f ∧ CallsIn (FW none) 0 P f Args.toArray w (callPost R Rp) := by
  simp only [step] at h
  split at h
  · rename_i fn hfn
    split at h
    · rename_i c hc
      refine ⟨he.enters hfn hc, callsIn_of_wp_marks (he.fn f fn hfn) hc trivial ?_⟩
      refine hr.code (RD := none) h rfl (init_rel hv fn.ntmps) hs ?_
      intro E' ex a' s' X A' w' hle hX hG hs' hk'
      cases ex with
      | normal => simp only [XRel] at hX; subst hX; exact leaveA_sound he hr _ none s' E' _ _ w' hk' hG.weak.tmps hG.defs rfl hs' (hkr.mono hle) (hkp.mono hle)
      | ret => simp only [XRel] at hX; subst hX; exact leaveA_sound he hr _ none s' E' _ _ w' hk' hG.weak.tmps hG.defs rfl hs' (hkr.mono hle) (hkp.mono hle)
      | panic v =>
        obtain ⟨V, hV, rfl⟩ := hX
        exact leaveA_sound he hr _ (some v) s' E' _ _ w' hk' hG.tmps hG.defs ⟨V, hV, rfl⟩ hs' (hkr.mono hle) (hkp.mono hle)
      | exit j => cases hk'
      | goto j => cases hk'
    · cases h
  · cases h

theorem loop_sound (hr : Sound P r) {rd RD : Option Nat} {c : Code} {k : AE → Ac → St → Bool} {Q : Exit → Act → World → Prop} (h : (step e pr r).code rd (.loop c) a s k = true) (hrd : RdRel E rd RD) (hf : FRel E a A) (hs : Sim w0 E s w) (hk : KOk w0 E k Q) : LoopOk (FW RD) P c Q A w := by
  simp only [step] at h
  refine LoopOk.round (hr.code h hrd hf hs ?_)
  intro E' ex a' s' X A' w' hle hX hG hs' hk'
  cases ex with
  | normal => simp only [XRel] at hX; subst hX; exact hr.loop hk' (hrd.mono hle) hG hs' (hk.mono hle)
  | exit j => simp only [XRel] at hX; subst hX; exact hk E' (.exit j) a' s' _ A' w' hle rfl hG hs' hk'
  | goto j => simp only [XRel] at hX; subst hX; exact hk E' (.goto j) a' s' _ A' w' hle rfl hG hs' hk'
  | ret => simp only [XRel] at hX; subst hX; exact hk E' .ret a' s' _ A' w' hle rfl hG hs' hk'
  | panic v => obtain ⟨V, hV, rfl⟩ := hX; exact hk E' (.panic v) a' s' _ A' w' hle ⟨V, hV, rfl⟩ hG hs' hk'

theorem rangeFunc_sound (hr : Sound P r) {k : AE → Ac → St → Bool} {Q : Exit → Act → World → Prop} {f : Operand} {ps : Array Tmp} {as body : Code} (h : (step e pr r).code none (.rangeFunc f ps as body) a s k = true) (hf : FRel E a A) (hs : Sim w0 E s w) (hk : KOk w0 E k Q) :
    (Code.rangeFunc f ps as body).wpIn (FW none) 0 P Q A w := by
  simp only [step] at h
  split at h
  · rename_i g cap hfv
    have hv' := eval_rel hf.toARel f
    rw [hfv] at hv'
    simp only [VRel] at hv'
    obtain ⟨C, hC, hV⟩ := hv'
    refine wpIn_rangeFunc fun fn _ => ?_
    have hs1 := hs.alloc (o := .dfr false) (O := .deferred (some [])) (K := 0) (by simp [ORel])
    have hle1 : E.le (E.put s.nx (w.heap.size, 0, 0)) := Em.le_put _ _ _ hs.free
    have hs2 := hs1.alloc (o := .loop .ready none 0 a.t a.n ps.toList as body s.nx) (O := .loop { state := .ready, pending := none, fn, tmps := A.tmps, params := ps, assign := as, body, defers := w.heap.size }) (K := 0) (by
      simp only [ORel]
      refine ⟨_, (w.heap.size, 0, 0), rfl, rfl, rfl, (hf.tmps.mono hle1).mono (Em.le_put _ _ _ hs1.free), rfl, rfl, rfl, ?_, rfl⟩
      exact Em.le_put _ _ _ hs1.free _ _ (Em.put_same _ _ _))
    have hle2 := Em.le_trans hle1 (Em.le_put _ _ ((w.alloc (.deferred (some []))).heap.size, 0, 0) hs1.free)
    have hsz : (w.alloc (.deferred (some []))).heap.size = w.heap.size + 1 := World.size_alloc _ _
    have hnx : (s.alloc (.dfr false)).nx = s.nx + 1 := rfl
    rw [hsz, hnx] at hle2 hs2
    have hid : ((E.put s.nx (w.heap.size, 0, 0)).put (s.nx + 1) (w.heap.size + 1, 0, 0)) (s.nx + 1) = some (w.heap.size + 1, 0, 0) := Em.put_same _ _ _
    have hid0 : ((E.put s.nx (w.heap.size, 0, 0)).put (s.nx + 1) (w.heap.size + 1, 0, 0)) s.nx = some (w.heap.size, 0, 0) := by
      simp [Em.put]
    have hargs : VRels ((E.put s.nx (w.heap.size, 0, 0)).put (s.nx + 1) (w.heap.size + 1, 0, 0)) (.yld (s.nx + 1) :: cap) (.func (.yield (w.heap.size + 1)) #[] #[] :: C) :=
      VRels.cons (by simp only [VRel]; exact ⟨_, hid, rfl⟩) (hC.mono hle2)
    obtain ⟨W1, hW1⟩ : ∃ W1, (w.alloc (.deferred (some []))).alloc (.loop { state := .ready, pending := none, fn, tmps := A.tmps, params := ps, assign := as, body, defers := w.heap.size }) = W1 := ⟨_, rfl⟩
    rw [hW1] at hs2
    generalize hE2 : (E.put s.nx (w.heap.size, 0, 0)).put (s.nx + 1) (w.heap.size + 1, 0, 0) = E2 at *
    have key : Enters P g ∧ CallsIn (FW none) 0 P g (.func (.yield (w.heap.size + 1)) #[] #[] :: C).toArray W1 (callPost (fun _ w3 => rangePost (FW none) 0 P (w.heap.size + 1) Q { A with defers := [{ target := .collected w.heap.size, args := #[] }] ++ A.defers } (.returned undef) w3) fun _ _ => False) := by
      refine hr.call h hargs hs2 ?_ (fun _ _ _ _ _ _ _ _ h => by cases h)
      intro E3 v s3 V w3 hle3 _ hs3 hk3
      dsimp only at hk3
      have hfE : FRel E3 { a with d := .mark s.nx :: a.d } { A with defers := [{ target := .collected w.heap.size, args := #[] }] ++ A.defers } :=
        ⟨⟨hf.tmps.mono (Em.le_trans hle2 hle3)⟩, ⟨_, A.defers, hle3 _ _ hid0, hf.defs.mono (Em.le_trans hle2 hle3), rfl⟩⟩
      split at hk3
      · rename_i st pd fn' t n ps' as' b dd hg
        obtain ⟨p, L, hp, hO, h1, h2, h3, h4, h5, h6, h7⟩ := hs3.loop hg
        cases Sim.same hid hle3 hp
        have hbusy : ∀ (hb : L.state ≠ .busy), Sim w0 E3 { s3 with h := s3.h.set (s.nx + 1) (.loop .exhausted pd fn' t n ps' as' b dd) } (w3.putObj (w.heap.size + 1) (.loop { L with state := .exhausted })) := fun _ => by
          refine hs3.puts hg hp (puts_putObj hO) ?_
          have := orel_state (st' := .exhausted) (pd' := pd) h7
          simpa [← h2] using this
        split at hk3
        · cases hk3
        · rename_i hst
          have hb : L.state ≠ .busy := by rw [h1]; exact hst
          refine ⟨L.pending, _, run_endLoop hO hb, ?_⟩
          have hB := hbusy hb
          generalize w3.putObj (w.heap.size + 1) (.loop { L with state := .exhausted }) = w4 at hB ⊢
          rw [h2]
          cases pd with
          | none => exact hk E3 .normal _ _ .normal _ _ (Em.le_trans hle2 hle3) rfl hfE hB hk3
          | some j => exact hr.code (RD := none) hk3 rfl hfE hB (hk.mono (Em.le_trans hle2 hle3))
      · cases hk3
    obtain ⟨hen, hcalls⟩ := key
    refine ⟨w.heap.size + 1, [{ target := .collected w.heap.size, args := #[] }], W1, { target := .fn (.func g) C.toArray, args := #[.func (.yield (w.heap.size + 1)) #[] #[]] }, W1, g, (.func (.yield (w.heap.size + 1)) #[] #[] :: C).toArray, W1, by rw [← hW1]; exact run_enterLoop_outer _ _ _ _ _, ?_, fun _ _ => trivial, ?_, fw_depth none, CallsIn.mono hcalls fun en w3 hen => ?_⟩
    · simp only [resolve, hV]
      simp [go_sem]
    · simp only [invoke]
      rw [hen]
      simp
    · cases en with
      | returned v => exact hen
      | panicked ch => obtain ⟨_, _, hh⟩ := hen; exact hh.elim
      | outgrown => exact hen.elim
  · cases h

theorem code_sound (he : ProgOk e P) (hpr : PrimsOk P pr) (hr : Sound P r) {rd RD : Option Nat} {c : Code} {k : AE → Ac → St → Bool} {Q : Exit → Act → World → Prop} (h : (step e pr r).code rd c a s k = true) (hrd : RdRel E rd RD) (hf : FRel E a A) (hs : Sim w0 E s w) (hk : KOk w0 E k Q) : c.wpIn (FW RD) 0 P Q A w := by
  have refl := Em.le_refl E
  cases c with
  | skip => exact wpIn_skip (hk E .normal a s _ A w refl rfl hf hs h)
  | label l => exact wpIn_label (hk E .normal a s _ A w refl rfl hf hs h)
  | exit id => exact wpIn_exit (hk E (.exit id) a s _ A w refl rfl hf hs h)
  | goto l => exact wpIn_goto (hk E (.goto l) a s _ A w refl rfl hf hs h)
  | ret => exact wpIn_ret (hk E .ret a s _ A w refl rfl hf hs h)
  | seq x y =>
    simp only [step] at h
    refine wpIn_seq (hr.code h hrd hf hs ?_)
    intro E' ex a' s' X A' w' hle hX hG hs' hk'
    cases ex with
    | normal => simp only [XRel] at hX; subst hX; exact hr.code hk' (hrd.mono hle) hG hs' (hk.mono hle)
    | exit j => simp only [XRel] at hX; subst hX; exact hk E' (.exit j) a' s' _ A' w' hle rfl hG hs' hk'
    | goto j => simp only [XRel] at hX; subst hX; exact hk E' (.goto j) a' s' _ A' w' hle rfl hG hs' hk'
    | ret => simp only [XRel] at hX; subst hX; exact hk E' .ret a' s' _ A' w' hle rfl hG hs' hk'
    | panic v => obtain ⟨V, hV, rfl⟩ := hX; exact hk E' (.panic v) a' s' _ A' w' hle ⟨V, hV, rfl⟩ hG hs' hk'
  | cond c x y =>
    simp only [step] at h
    split at h
    · rename_i b hb
      have := eval_rel hf.toARel c
      rw [hb] at this
      simp only [VRel] at this
      refine wpIn_cond (t := b) this ?_
      have h1 := hr.code h hrd hf hs hk
      cases b <;> exact h1
    · cases h
  | block id c =>
    simp only [step] at h
    refine wpIn_block (hr.code h hrd hf hs ?_)
    intro E' ex a' s' X A' w' hle hX hG hs' hk'
    cases ex with
    | normal => simp only [XRel] at hX; subst hX; exact hk E' .normal a' s' _ A' w' hle rfl hG hs' hk'
    | exit j =>
      simp only [XRel] at hX; subst hX
      simp only at hk'
      simp only [Exit.inBlock]
      cases hb : Nat.beq j id with
      | true =>
        rw [hb] at hk'
        rw [if_pos (Nat.eq_of_beq_eq_true hb)]
        exact hk E' .normal a' s' _ A' w' hle rfl hG hs' hk'
      | false =>
        rw [hb] at hk'
        rw [if_neg (Nat.ne_of_beq_eq_false hb)]
        exact hk E' (.exit j) a' s' _ A' w' hle rfl hG hs' hk'
    | goto j => simp only [XRel] at hX; subst hX; exact hk E' (.goto j) a' s' _ A' w' hle rfl hG hs' hk'
    | ret => simp only [XRel] at hX; subst hX; exact hk E' .ret a' s' _ A' w' hle rfl hG hs' hk'
    | panic v => obtain ⟨V, hV, rfl⟩ := hX; exact hk E' (.panic v) a' s' _ A' w' hle ⟨V, hV, rfl⟩ hG hs' hk'
  | loop c => exact (loop_sound hr h hrd hf hs hk).wpIn
  | scope c => simp [step] at h
  | region id ops dr =>
    simp only [step] at h
    cases dr with
    | false =>
      refine wpIn_region ?_
      have := evOps_sound (ops := ops) he.toEnvOk hpr hr ops.toList 0 a s k E A w rfl h hrd hf hs hk
      rw [List.range_eq_range']
      simpa using this
    | true =>
      simp only at h
      cases hns : noSel ops.toList with
      | false => rw [hns] at h; cases h
      | true => rw [hns] at h; exact any_region he.toEnvOk hpr hr he.mixed hns h hrd hf hs hk
  | rangeFunc f ps as body =>
    cases rd with
    | some id => simp [step] at h
    | none => simp only [RdRel] at hrd; subst hrd; exact rangeFunc_sound hr h hf hs hk
  | refuse x => simp [step] at h

theorem noTasks_sound : Sound P noTasks := ⟨fun h => (by cases h), fun h => (by cases h), fun h => (by cases h)⟩

theorem step_sound (he : ProgOk e P) (hpr : PrimsOk P pr) (hr : Sound P r) : Sound P (step e pr r) :=
  ⟨fun h h1 h2 h3 h4 => code_sound he hpr hr h h1 h2 h3 h4, fun h h1 h2 h3 h4 => loop_sound hr h h1 h2 h3 h4, fun h h1 h2 h3 h4 => call_sound he hr h h1 h2 h3 h4⟩

theorem ev_sound (he : ProgOk e P) (hpr : PrimsOk P pr) : ∀ n, Sound P (ev e pr n)
  | 0 => noTasks_sound
  | n + 1 => step_sound he hpr (ev_sound he hpr n)
end Go.AX
