import Derived.Test.YtnaelolekokhbaaGreatAxSound5
namespace Go.AX
open Go.RowKit
variable {e : Env} {P : Program} {pr : Prims} {r : Tasks} {w0 : World} {E : Em} {s : St} {w : World} {a : Ac} {A : Act}

/-! ### Deferred code -/
/-- How the frame below stands. -/
def PRel (E : Em) : Option (AV × Bool) → FrameMode → Prop
  | none, u => u = .returning
  | some (v, b), u => ∃ V, VRel E v V ∧ u = .panicking [{ v := V, recovered := b }]

theorem PRel.mono {E E' : Em} (hE : E.le E') : ∀ {pn : Option (AV × Bool)} {u : FrameMode}, PRel E pn u → PRel E' pn u
  | none, _, h => h
  | some (_, _), _, ⟨V, h1, h2⟩ => ⟨V, h1.mono hE, h2⟩

def KDOk (w0 : World) (E : Em) (k : AE → Ac → Option (AV × Bool) → St → Bool) (Q : Exit → Act → FrameMode → World → Prop) : Prop :=
  ∀ E' ex a pn s X A u w, E.le E' → XRel E' ex X → GRel E' ex a A → PRel E' pn u → Sim w0 E' s w → k ex a pn s = true → Q X A u w

theorem KDOk.mono {E E' : Em} {k : AE → Ac → Option (AV × Bool) → St → Bool} {Q : Exit → Act → FrameMode → World → Prop} (h : KDOk w0 E k Q) (hE : E.le E') : KDOk w0 E' k Q := fun E'' _ _ _ _ _ _ _ _ hle => h E'' _ _ _ _ _ _ _ _ (Em.le_trans hE hle)

theorem wpSIn_mono {F : Fence} {n : Nat} {c : Code} {Q Q' : Exit → Act → List Frame → World → Prop} {a : Act} {cs : List Frame} (h : c.wpSIn F n P Q a cs w) (hq : ∀ e a cs w, Q e a cs w → Q' e a cs w) : c.wpSIn F n P Q' a cs w :=
  fun b k hb hr hF hroom => let ⟨e, a', cs', w', l, q, r⟩ := h b k hb hr hF hroom; ⟨e, a', cs', w', l, hq _ _ _ _ q, r⟩

section dfr
variable {c₀ : Frame} {cs : List Frame} {Q : Exit → Act → FrameMode → World → Prop} {ops : Array Oper}

/-- What is asked, of the frame below's mode. -/
def onMode (c₀ : Frame) (cs : List Frame) (Q : Exit → Act → FrameMode → World → Prop) : Exit → Act → List Frame → World → Prop := fun X A cs' w => ∃ u, cs' = { c₀ with mode := u } :: cs ∧ Q X A u w

theorem plainOp_comes (he : EnvOk e P) {o : Oper} {k : Ac → St → Bool} (h : plainOp e o a s k = true) (hf : FRel E a A) (hs : Sim w0 E s w) :
    ∃ v s', Comes1 P w0 E w (execOp A.eval o) v s' ∧ putK a o.dst v s' k = true := by
  unfold plainOp at h
  split at h
  · rename_i v ids hp
    cases hi : idsIn s ids with
    | false => rw [hi] at h; cases h
    | true =>
      rw [hi] at h
      obtain ⟨V, hv, hrun⟩ := stepP_sound he ⟨w0, w, hs⟩ hf.toARel hp (idsIn_has hi hs)
      exact ⟨v, s, ⟨.value V, V, w, E, hrun, .inl rfl, Em.le_refl E, hv, hs⟩, h⟩
  · split at h
    · rename_i v s' ha
      exact ⟨v, s', stepA_sound he hs hf.toARel ha, h⟩
    · cases h

theorem evPlain_sound (he : EnvOk e P) {Q : Exit → Act → List Frame → World → Prop} {cs : List Frame} : ∀ (l : List Oper) (i : Nat) (a : Ac) (s : St) (k : Ac → St → Bool) (E : Em) (A : Act) (w : World), ops.toList.drop i = l → evPlain e ops.toList l a s k = true → FRel E a A → Sim w0 E s w → NOk w0 E k (fun A w => Q .normal A cs w) →
    wpOpsSIn (FW none) 0 P ops Q (List.range' i l.length) A cs w := by
  intro l
  induction l with
  | nil =>
    intro i a s k E A w _ h hf hs hk
    exact hk E a s A w (Em.le_refl E) hf hs h
  | cons o l ih =>
    intro i a s k E A w hl h hf hs hk
    have hi : ops[i]? = some o := by
      have : (ops.toList.drop i)[0]? = some o := by rw [hl]; rfl
      simpa using this
    have hl' : ops.toList.drop (i + 1) = l := by
      have : (ops.toList.drop i).drop 1 = l := by rw [hl]; rfl
      simpa using this
    rw [List.length_cons, List.range'_succ]
    simp only [wpOpsSIn, hi]
    refine ⟨fun f _ => trivial, ?_⟩
    simp only [evPlain] at h
    have nx : NOk w0 E (fun a' s' => evPlain e ops.toList l a' s' k) (fun A w => wpOpsSIn (FW none) 0 P ops Q (List.range' (i + 1) l.length) A cs w) :=
      fun E' a' s' A' w' hle hf' hs' hk' => ih (i + 1) a' s' k E' A' w' hl' hk' hf' hs' (hk.mono hle)
    split at h
    · rename_i hw
      simp only [wanted_rel hf hw, if_true]
      obtain ⟨v, s', ⟨nx', V, w', E', hrun, hnx, hle, hv, hs'⟩, h⟩ := plainOp_comes he h hf hs
      rw [hrun]
      rcases hnx with rfl | ⟨rfl, rfl⟩
      · exact putK_ok h (hf.mono hle) hv hs' (nx.mono hle)
      · exact putK_ok h (hf.mono hle) hv hs' (nx.mono hle)
    · rename_i hw
      simp only [wanted_rel hf hw, Bool.false_eq_true, if_false]
      exact putK_ok h hf undef_rel hs nx
    · cases h

theorem isRecover_run {o : Oper} (h : isRecover o.op = true) : (execOp A.eval o).run P w = .ok .recover w := by
  unfold isRecover at h
  split at h
  · rename_i c hc
    split at h
    · rename_i hcal
      unfold execOp
      rw [hc]
      show ((do let d ← resolve A.eval c o.type; invoke d.target d.args) : Sem Next).run P w = _
      unfold resolve
      rw [hcal]
      simp [invoke, builtin]
    · cases h
  · cases h

theorem codeD_sound (he : EnvOk e P) (hr : Sound P r) : ∀ (n : Nat) (c : Code) (a : Ac) (pn : Option (AV × Bool)) (s : St) (k : AE → Ac → Option (AV × Bool) → St → Bool) (E : Em) (A : Act) (u : FrameMode) (w : World) (Q : Exit → Act → FrameMode → World → Prop),
    codeD e r n c a pn s k = true → FRel E a A → PRel E pn u → Sim w0 E s w → KDOk w0 E k Q → c.wpSIn (FW none) 0 P (onMode c₀ cs Q) A ({ c₀ with mode := u } :: cs) w := by
  intro n
  induction n with
  | zero => intro c a pn s k E A u w Q h; simp [codeD] at h
  | succ n ih =>
    intro c a pn s k E A u w Q h hf hp hs hk
    have other : ∀ {c : Code}, r.code none c a s (fun ex a' s' => k ex a' pn s') = true → c.wpSIn (FW none) 0 P (onMode c₀ cs Q) A ({ c₀ with mode := u } :: cs) w := fun {c} h =>
      wpSIn_of_wpIn rfl (hr.code (RD := none) h rfl hf hs fun E' ex a' s' X A' w' hle hX hG hs' hk' => ⟨u, rfl, hk E' ex a' pn s' X A' u w' hle hX hG (hp.mono hle) hs' hk'⟩)
    unfold codeD at h
    split at h
    · -- seq
      rename_i x y
      refine wpSIn_seq (wpSIn_mono (ih x a pn s _ E A u w (fun X A' u' w' => match X with
        | .normal => y.wpSIn (FW none) 0 P (onMode c₀ cs Q) A' ({ c₀ with mode := u' } :: cs) w'
        | X => Q X A' u' w') h hf hp hs ?_) ?_)
      · intro E' ex a' pn' s' X A' u' w' hle hX hG hp' hs' hk'
        cases ex with
        | normal => simp only [XRel] at hX; subst hX; exact ih y a' pn' s' k E' A' u' w' Q hk' hG hp' hs' (hk.mono hle)
        | exit j => simp only [XRel] at hX; subst hX; exact hk E' (.exit j) a' pn' s' _ A' u' w' hle rfl hG hp' hs' hk'
        | goto j => simp only [XRel] at hX; subst hX; exact hk E' (.goto j) a' pn' s' _ A' u' w' hle rfl hG hp' hs' hk'
        | ret => simp only [XRel] at hX; subst hX; exact hk E' .ret a' pn' s' _ A' u' w' hle rfl hG hp' hs' hk'
        | panic v => obtain ⟨V, hV, rfl⟩ := hX; exact hk E' (.panic v) a' pn' s' _ A' u' w' hle ⟨V, hV, rfl⟩ hG hp' hs' hk'
      · rintro X A' cs' w' ⟨u', rfl, hq⟩
        cases X with
        | normal => exact hq
        | _ => exact ⟨u', rfl, hq⟩
    · -- cond
      rename_i c x y
      split at h
      · rename_i b hb
        have := eval_rel hf.toARel c
        rw [hb] at this
        simp only [VRel] at this
        refine wpSIn_cond (t := b) this ?_
        have h1 := ih _ a pn s k E A u w Q h hf hp hs hk
        cases b <;> exact h1
      · cases h
    · -- region
      rename_i id ops dr
      split at h
      · rename_i o l hops
        cases hrec : isRecover o.op with
        | false => rw [hrec] at h; exact other h
        | true =>
          rw [hrec] at h
          simp only [cond_true] at h
          split at h
          · rename_i hg
            refine wpSIn_region ?_
            have hsz : ops.size = l.length + 1 := by rw [← Array.length_toList, hops]; rfl
            have hi : ops[0]? = some o := by
              have : ops.toList[0]? = some o := by rw [hops]; rfl
              simpa using this
            rw [List.range_eq_range', hsz, List.range'_succ]
            simp only [wpOpsSIn, hi]
            refine ⟨fun f _ => trivial, ?_⟩
            have hw : Region.wanted o (yielded ops A.tmps) = true := by unfold Region.wanted; rw [hg]
            simp only [hw, if_true, isRecover_run hrec]
            have hl' : ops.toList.drop (0 + 1) = l := by rw [hops]; rfl
            split at h
            · rename_i v
              obtain ⟨V, hV, rfl⟩ := hp
              simp only [recoverD]
              refine putK_ok (N := fun A' w' => wpOpsSIn (FW none) 0 P ops (onMode c₀ cs Q) (List.range' (0 + 1) l.length) A' ({ c₀ with mode := .panicking [{ v := V, recovered := true }] } :: cs) w') h hf hV hs ?_
              intro E1 a1 s1 A1 w1 hle1 hf1 hs1 hk1
              refine evPlain_sound he l (0 + 1) a1 s1 _ E1 A1 w1 hl' hk1 hf1 hs1 ?_
              intro E2 a2 s2 A2 w2 hle2 hf2 hs2 hk2
              exact ⟨_, rfl, hk E2 .normal a2 (some (v, true)) s2 .normal A2 _ w2 (Em.le_trans hle1 hle2) rfl hf2 ⟨V, hV.mono (Em.le_trans hle1 hle2), rfl⟩ hs2 hk2⟩
            · simp only [PRel] at hp
              subst hp
              simp only [recoverD]
              refine putK_ok (N := fun A' w' => wpOpsSIn (FW none) 0 P ops (onMode c₀ cs Q) (List.range' (0 + 1) l.length) A' ({ c₀ with mode := .returning } :: cs) w') h hf raw_rel hs ?_
              intro E1 a1 s1 A1 w1 hle1 hf1 hs1 hk1
              refine evPlain_sound he l (0 + 1) a1 s1 _ E1 A1 w1 hl' hk1 hf1 hs1 ?_
              intro E2 a2 s2 A2 w2 hle2 hf2 hs2 hk2
              exact ⟨_, rfl, hk E2 .normal a2 none s2 .normal A2 _ w2 (Em.le_trans hle1 hle2) rfl hf2 rfl hs2 hk2⟩
            · cases h
          · cases h
      · exact other h
    · exact other h
end dfr

/-! ### A frame's beginning -/
theorem initTmps_get : ∀ (vs : List AV) (t : Tr AV) (i j : Nat), (initTmps t i vs).get j = if i ≤ j ∧ j < i + vs.length then vs[j - i]? else t.get j
  | [], t, i, j => by simp [initTmps]; omega
  | v :: vs, t, i, j => by
    unfold initTmps
    rw [initTmps_get vs, Tr.get_set]
    by_cases h1 : i + 1 ≤ j ∧ j < i + 1 + vs.length
    · rw [if_pos h1, if_pos (by simp; omega)]
      obtain ⟨d, rfl⟩ : ∃ d, j = i + 1 + d := ⟨j - (i + 1), by omega⟩
      rw [show i + 1 + d - (i + 1) = d by omega, show i + 1 + d - i = d + 1 by omega]
      simp
    · rw [if_neg h1]
      by_cases h2 : j = i
      · subst h2; simp
      · rw [if_neg h2, if_neg (by simp; omega)]

theorem init_rel {args : List AV} {Args : List Value} (h : VRels E args Args) (m : Nat) : FRel E { t := initTmps .e 0 args, n := Nat.max m args.length, d := [] } { tmps := Args.toArray ++ Array.replicate (m - Args.toArray.size) undef, defers := [] } := by
  have hl := VRels.length h
  refine ⟨⟨?_, fun i => ?_⟩, rfl⟩
  · simp only [Array.size_append, List.size_toArray, Array.size_replicate, hl]; show _ = max m args.length; omega
  · simp only [initTmps_get, Nat.zero_le, true_and, Nat.zero_add, Nat.sub_zero]
    by_cases hi : i < args.length
    · rw [if_pos hi]
      obtain ⟨v, hv⟩ : ∃ v, args[i]? = some v := ⟨args[i], by simp [hi]⟩
      rw [hv]
      obtain ⟨V, h1, h2⟩ := VRels.get h hv
      exact ⟨V, by rw [Array.getElem?_append_left (by simp; omega)]; simpa using h1, h2⟩
    · rw [if_neg hi]
      simp only [Tr.get]
      rw [Array.getD_eq_getD_getElem?, Array.getElem?_append_right (by simp; omega)]
      simp only [Array.getElem?_replicate]
      split <;> rfl
end Go.AX
