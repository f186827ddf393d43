import Derived.Test.YtnaelolekokhbaaGreatAxSound1
import Derived.RangeFuncIn
import Derived.RangeFuncRecord
import Derived.RangeFuncLeaves
import Derived.RecoverIn
namespace Go.AX
open Go.RowKit
variable {e : Env} {P : Program} {w0 : World} {E : Em} {s : St} {w : World} {a : Ac} {A : Act}

/-! ### Frames, exits -/
def DRel (E : Em) : List AD → List Deferred → Prop
  | [], L => L = []
  | .call f args :: ds, L => ∃ B C D, VRels E args (B ++ C) ∧ DRel E ds D ∧ L = { target := .fn (.func f) C.toArray, args := B.toArray } :: D
  | .mark id :: ds, L => ∃ p D, E id = some p ∧ DRel E ds D ∧ L = { target := .collected p.1, args := #[] } :: D

theorem DRel.mono {E E' : Em} (hE : E.le E') : ∀ {ds : List AD} {L : List Deferred}, DRel E ds L → DRel E' ds L
  | [], _, h => h
  | .call _ _ :: _, _, ⟨B, C, D, h1, h2, h3⟩ => ⟨B, C, D, h1.mono hE, h2.mono hE, h3⟩
  | .mark _ :: _, _, ⟨p, D, h1, h2, h3⟩ => ⟨p, D, hE _ _ h1, h2.mono hE, h3⟩

structure FRel (E : Em) (a : Ac) (A : Act) : Prop extends ARel E a A where
  defs : DRel E a.d A.defers

/-- What is sure of a frame that panics. -/
structure WRel (E : Em) (a : Ac) (A : Act) : Prop where
  size : A.tmps.size = a.n
  tmps : ∀ i v, a.t.get i = some v → ∃ V, A.tmps[i]? = some V ∧ VRel E v V
  defs : DRel E a.d A.defers

theorem FRel.weak (h : FRel E a A) : WRel E a A :=
  ⟨h.tmps.1, fun i v hv => by have := h.tmps.2 i; rw [hv] at this; exact this, h.defs⟩

theorem FRel.mono {E E' : Em} (h : FRel E a A) (hE : E.le E') : FRel E' a A := ⟨⟨h.tmps.mono hE⟩, h.defs.mono hE⟩

theorem TRel.set {t : Tr AV} {n : Nat} {T : Array Value} (h : TRel E t n T) {d : Nat} (hd : d < n) {v : AV} {V : Value} (hv : VRel E v V) : TRel E (t.set d v) n (T.setIfInBounds d V) := by
  refine ⟨by simpa using h.1, fun i => ?_⟩
  rw [Tr.get_set]
  by_cases hi : i = d
  · subst hi
    simp only [if_true]
    exact ⟨V, by simp [h.1, hd], hv⟩
  · simp only [hi, if_false]
    have := h.2 i
    cases hg : t.get i with
    | none =>
      simp only [hg] at this ⊢
      rw [Array.getD_eq_getD_getElem?, Array.getElem?_setIfInBounds_ne (Ne.symm hi), ← Array.getD_eq_getD_getElem?]
      exact this
    | some u =>
      simp only [hg] at this ⊢
      obtain ⟨U, h1, h2⟩ := this
      exact ⟨U, by rw [Array.getElem?_setIfInBounds_ne (Ne.symm hi)]; exact h1, h2⟩

theorem FRel.put (h : FRel E a A) {dst : Option Tmp} {v : AV} {V : Value} {a' : Ac} (hv : VRel E v V) (hp : a.put dst v = some a') : FRel E a' (A.put dst V) := by
  unfold Ac.put at hp
  unfold Act.put
  cases dst with
  | none => simp only [Option.some.injEq] at hp; subst hp; exact h
  | some d =>
    simp only at hp ⊢
    cases hb : Nat.blt d a.n with
    | false => rw [hb] at hp; cases hp
    | true =>
      rw [hb] at hp
      simp only [cond_true, Option.some.injEq] at hp
      subst hp
      exact ⟨⟨h.tmps.set (Nat.blt_eq.mp hb) hv⟩, h.defs⟩

def XRel (E : Em) : AE → Exit → Prop
  | .normal, X => X = .normal
  | .exit i, X => X = .exit i
  | .goto l, X => X = .goto l
  | .ret, X => X = .ret
  | .panic v, X => ∃ V, VRel E v V ∧ X = .panic [{ v := V, recovered := false }]

def GRel (E : Em) : AE → Ac → Act → Prop
  | .panic _, a, A => WRel E a A
  | _, a, A => FRel E a A

def RdRel (E : Em) : Option Nat → Option Nat → Prop
  | none, RD => RD = none
  | some id, RD => ∃ p, E id = some p ∧ RD = some p.1

theorem RdRel.mono {E E' : Em} (hE : E.le E') : ∀ {rd RD : Option Nat}, RdRel E rd RD → RdRel E' rd RD
  | none, _, h => h
  | some _, _, ⟨p, h1, h2⟩ => ⟨p, hE _ _ h1, h2⟩

/-- What is asked where a code is left. -/
def KOk (w0 : World) (E : Em) (k : AE → Ac → St → Bool) (Q : Exit → Act → World → Prop) : Prop :=
  ∀ E' ex a s X A w, E.le E' → XRel E' ex X → GRel E' ex a A → Sim w0 E' s w → k ex a s = true → Q X A w

/-- What is asked where an operation is done. -/
def NOk (w0 : World) (E : Em) (k : Ac → St → Bool) (N : Act → World → Prop) : Prop :=
  ∀ E' a s A w, E.le E' → FRel E' a A → Sim w0 E' s w → k a s = true → N A w

def POk (w0 : World) (E : Em) (k : AV → St → Bool) (N : Value → World → Prop) : Prop :=
  ∀ E' v s V w, E.le E' → VRel E' v V → Sim w0 E' s w → k v s = true → N V w

theorem KOk.mono {E E' : Em} {k : AE → Ac → St → Bool} {Q : Exit → Act → World → Prop} (h : KOk w0 E k Q) (hE : E.le E') : KOk w0 E' k Q := fun E'' _ _ _ _ _ _ hle => h E'' _ _ _ _ _ _ (Em.le_trans hE hle)
theorem NOk.mono {E E' : Em} {k : Ac → St → Bool} {Q : Act → World → Prop} (h : NOk w0 E k Q) (hE : E.le E') : NOk w0 E' k Q := fun E'' _ _ _ _ hle => h E'' _ _ _ _ (Em.le_trans hE hle)
theorem POk.mono {E E' : Em} {k : AV → St → Bool} {Q : Value → World → Prop} (h : POk w0 E k Q) (hE : E.le E') : POk w0 E' k Q := fun E'' _ _ _ _ hle => h E'' _ _ _ _ (Em.le_trans hE hle)

def Enters (P : Program) (f : FuncId) : Prop := ∀ args w, (callFunc f args).run P w = .ok (.enter f args) w

def callPost (R : Value → World → Prop) (Rp : Value → World → Prop) : Ending → World → Prop
  | .returned v, w => R v w
  | .panicked ch, w => ∃ v, ch = [{ v, recovered := false }] ∧ Rp v w
  | .outgrown, _ => False

/-- A loop, its first round at hand. -/
def LoopOk (F : Fence) (P : Program) (c : Code) (Q : Exit → Act → World → Prop) (a : Act) (w : World) : Prop :=
  ∀ (b : Frame) (k : List Item) (cs : List Frame), b.roundOf = F.round → F.fn b.fn → F.room (cs.length + 1 + 0) →
    ∃ e a' w', Q e a' w' ∧ ArrivesIn (Machine.fenced P F) P (lone (b.atR a (.code c :: .inLoop c :: k)) cs w) b k cs e a' w'

theorem LoopOk.round {F : Fence} {c : Code} {Q : Exit → Act → World → Prop} {a : Act} (h : c.wpIn F 0 P (Exit.then (LoopOk F P c Q) Q) a w) : LoopOk F P c Q a w := by
  intro b k cs hro hb hr
  obtain ⟨e, a₁, w₁, hq, harr⟩ := h b (.inLoop c :: k) cs hro hb hr
  cases e with
  | normal =>
    obtain ⟨e₂, a₂, w₂, hq₂, harr₂⟩ := hq b k cs hro hb hr
    exact ⟨e₂, a₂, w₂, hq₂, .of_steps (StepsIn.trans harr (.one (fenced_calm hb hr rfl) stepR_inLoop)) harr₂⟩
  | exit id => exact ⟨_, a₁, w₁, hq, .pass (x := .inLoop c) rfl (fun _ _ => .inl (by simp)) harr⟩
  | goto l => exact ⟨_, a₁, w₁, hq, .pass (x := .inLoop c) rfl (fun _ _ => .inl (by simp)) harr⟩
  | ret => exact ⟨_, a₁, w₁, hq, .pass (x := .inLoop c) rfl (fun _ _ => .inl (by simp)) harr⟩
  | panic ch => exact ⟨_, a₁, w₁, hq, .pass (x := .inLoop c) rfl (fun _ _ => .inl (by simp)) harr⟩
  | outgrown => exact ⟨_, a₁, w₁, hq, .pass (x := .inLoop c) rfl (fun _ _ => .inl (by simp)) harr⟩

theorem LoopOk.wpIn {F : Fence} {c : Code} {Q : Exit → Act → World → Prop} {a : Act} (h : LoopOk F P c Q a w) : (Code.loop c).wpIn F 0 P Q a w := by
  intro b k cs hro hb hr
  obtain ⟨e, a', w', hq, harr⟩ := h b k cs hro hb hr
  exact ⟨e, a', w', hq, .of_steps (.one (fenced_calm hb hr rfl) stepR_loop) harr⟩

/-- What is run is what the program does. -/
structure Sound (P : Program) (r : Tasks) : Prop where
  code : ∀ {rd RD : Option Nat} {c : Code} {a : Ac} {s : St} {k : AE → Ac → St → Bool} {w0 w : World} {E : Em} {A : Act} {Q : Exit → Act → World → Prop},
    r.code rd c a s k = true → RdRel E rd RD → FRel E a A → Sim w0 E s w → KOk w0 E k Q → c.wpIn (FW RD) 0 P Q A w
  loop : ∀ {rd RD : Option Nat} {c : Code} {a : Ac} {s : St} {k : AE → Ac → St → Bool} {w0 w : World} {E : Em} {A : Act} {Q : Exit → Act → World → Prop},
    r.code rd (.loop c) a s k = true → RdRel E rd RD → FRel E a A → Sim w0 E s w → KOk w0 E k Q → LoopOk (FW RD) P c Q A w
  call : ∀ {f : FuncId} {args : List AV} {s : St} {kr kp : AV → St → Bool} {w0 w : World} {E : Em} {Args : List Value} {R Rp : Value → World → Prop},
    r.call f args s kr kp = true → VRels E args Args → Sim w0 E s w → POk w0 E kr R → POk w0 E kp Rp → Enters P f ∧ CallsIn (FW none) 0 P f Args.toArray w (callPost R Rp)

structure PrimsOk (P : Program) (pr : Prims) : Prop where
  ext : ∀ {g : FuncId} {args : List AV} {s s' : St} {v : AV} {w0 w : World} {E : Em} {Args : List Value}, pr.ext g args s = some (v, s') → VRels E args Args → Sim w0 E s w →
    ∃ V w' E', (callFunc g Args.toArray).run P w = .ok (.value V) w' ∧ E.le E' ∧ VRel E' v V ∧ Sim w0 E' s' w'
  fn : ∀ {g : FuncId} {args : List AV} {s s' : St} {v : AV} {w0 w : World} {E : Em} {Args : List Value}, pr.fn g args s = some (v, s') → VRels E args Args → Sim w0 E s w →
    Enters P g ∧ CallsIn (FW none) 0 P g Args.toArray w fun en w' => ∃ V E', en = .returned V ∧ E.le E' ∧ VRel E' v V ∧ Sim w0 E' s' w'

theorem putK_ok {k : Ac → St → Bool} {N : Act → World → Prop} {dst : Option Tmp} {v : AV} {V : Value} (h : putK a dst v s k = true) (hf : FRel E a A) (hv : VRel E v V) (hs : Sim w0 E s w) (hn : NOk w0 E k N) : N (A.put dst V) w := by
  unfold putK at h
  split at h
  · rename_i a' ha'
    exact hn E a' s _ w (Em.le_refl E) (hf.put hv ha') hs h
  · cases h

theorem fw_ok (RD : Option Nat) : ∀ f, (FW RD).fn f := fun _ => trivial
theorem fw_depth (RD : Option Nat) {n : Nat} : (FW RD).depth.isSome = true → 1 ≤ n := fun h => by simp [FW] at h
theorem fw_calls {RD : Option Nat} {n : Nat} {f : FuncId} {args : Array Value} {R : Ending → World → Prop} (h : CallsIn (FW none) n P f args w R) : CallsIn (FW RD) n P f args w R := h

theorem calls_upon {RD : Option Nat} {o : Oper} {next : Act → World → Prop} {Q : Exit → Act → World → Prop} {f : FuncId} {args : Array Value} {R Rp : Value → World → Prop}
    (h : CallsIn (FW none) 0 P f args w (callPost R Rp)) (hn : ∀ v w', R v w' → next (A.put o.dst v) w') (hp : ∀ v w', Rp v w' → Q (.panic [{ v, recovered := false }]) A w') :
    o.uponIn (FW RD) 0 P A next Q (.ok (.enter f args) w) := by
  refine ⟨fw_depth RD, CallsIn.mono (fw_calls h) fun en w' he => ?_⟩
  cases en with
  | returned v => exact hn _ _ he
  | panicked ch =>
    obtain ⟨v, rfl, he⟩ := he
    exact hp _ _ he
  | outgrown => exact he.elim
end Go.AX
