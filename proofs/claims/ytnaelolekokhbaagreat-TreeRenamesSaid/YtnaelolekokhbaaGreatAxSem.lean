import Derived.Test.YtnaelolekokhbaaGreatAxRun
namespace Go.AX
open Go.RowKit
variable {P : Program} {e : Env} {pr : Prims} {r : Tasks} {rd : Option Nat} {a : Ac} {s : St}

/-! ### The greatest sound run -/
def CodeW (P : Program) (rd : Option Nat) (c : Code) (a : Ac) (s : St) (k : AE → Ac → St → Bool) : Prop :=
  ∀ (RD : Option Nat) (w0 w : World) (E : Em) (A : Act) (Q : Exit → Act → World → Prop), RdRel E rd RD → FRel E a A → Sim w0 E s w → KOk w0 E k Q →
    c.wpIn (FW RD) 0 P Q A w ∧ (∀ c', c = .loop c' → LoopOk (FW RD) P c' Q A w)
def CallW (P : Program) (f : FuncId) (args : List AV) (s : St) (kr kp : AV → St → Bool) : Prop :=
  ∀ (w0 w : World) (E : Em) (Args : List Value) (R Rp : Value → World → Prop), VRels E args Args → Sim w0 E s w → POk w0 E kr R → POk w0 E kp Rp →
    Enters P f ∧ CallsIn (FW none) 0 P f Args.toArray w (callPost R Rp)

noncomputable def sem (P : Program) : Tasks := {
  code := fun rd c a s k => @decide (CodeW P rd c a s k) (Classical.propDecidable _)
  call := fun f args s kr kp => @decide (CallW P f args s kr kp) (Classical.propDecidable _) }

theorem sem_code {c : Code} {k : AE → Ac → St → Bool} : (sem P).code rd c a s k = true ↔ CodeW P rd c a s k := by
  show @decide _ (Classical.propDecidable _) = true ↔ _
  exact @decide_eq_true_iff _ (Classical.propDecidable _)
theorem sem_call {f : FuncId} {args : List AV} {kr kp : AV → St → Bool} : (sem P).call f args s kr kp = true ↔ CallW P f args s kr kp := by
  show @decide _ (Classical.propDecidable _) = true ↔ _
  exact @decide_eq_true_iff _ (Classical.propDecidable _)

theorem sem_sound : Sound P (sem P) := {
  code := fun h h1 h2 h3 h4 => (sem_code.1 h _ _ _ _ _ _ h1 h2 h3 h4).1
  loop := fun h h1 h2 h3 h4 => (sem_code.1 h _ _ _ _ _ _ h1 h2 h3 h4).2 _ rfl
  call := fun h h1 h2 h3 h4 => sem_call.1 h _ _ _ _ _ _ h1 h2 h3 h4 }

theorem sem_max_code (hr : Sound P r) {c : Code} {k : AE → Ac → St → Bool} (h : r.code rd c a s k = true) : (sem P).code rd c a s k = true := by
  refine sem_code.2 fun RD w0 w E A Q h1 h2 h3 h4 => ⟨hr.code h h1 h2 h3 h4, fun c' hc => ?_⟩
  subst hc
  exact hr.loop h h1 h2 h3 h4
theorem sem_max_call (hr : Sound P r) {f : FuncId} {args : List AV} {kr kp : AV → St → Bool} (h : r.call f args s kr kp = true) : (sem P).call f args s kr kp = true :=
  sem_call.2 fun _ _ _ _ _ _ h1 h2 h3 h4 => hr.call h h1 h2 h3 h4

/-- What a program and its library owe. -/
structure Ok (e : Env) (P : Program) (pr : Prims) : Prop where
  prog : ProgOk e P
  prims : PrimsOk P pr

theorem Ok.code (H : Ok e P pr) {c : Code} {k : AE → Ac → St → Bool} (h : (step e pr (sem P)).code rd c a s k = true) : (sem P).code rd c a s k = true :=
  sem_max_code (step_sound H.prog H.prims sem_sound) h
theorem Ok.call (H : Ok e P pr) {f : FuncId} {args : List AV} {kr kp : AV → St → Bool} (h : (step e pr (sem P)).call f args s kr kp = true) : (sem P).call f args s kr kp = true :=
  sem_max_call (step_sound H.prog H.prims sem_sound) h
theorem Ok.run (H : Ok e P pr) {n : Nat} {f : FuncId} {args : List AV} {kr kp : AV → St → Bool} (h : (ev e pr n).call f args s kr kp = true) : (sem P).call f args s kr kp = true :=
  sem_max_call (ev_sound H.prog H.prims n) h

/-! ### The continuations, named -/
def seqK (r : Tasks) (rd : Option Nat) (y : Code) (k : AE → Ac → St → Bool) : AE → Ac → St → Bool := fun ex a' s' => match ex with
  | .normal => r.code rd y a' s' k
  | ex => k ex a' s'
def blockK (id : Nat) (k : AE → Ac → St → Bool) : AE → Ac → St → Bool := fun ex a' s' => match ex with
  | .exit id' => bif Nat.beq id' id then k .normal a' s' else k (.exit id') a' s'
  | ex => k ex a' s'
def loopK (r : Tasks) (rd : Option Nat) (c : Code) (k : AE → Ac → St → Bool) : AE → Ac → St → Bool := fun ex a' s' => match ex with
  | .normal => r.code rd (.loop c) a' s' k
  | ex => k ex a' s'
def callK (e : Env) (r : Tasks) (fn : Func) (kr kp : AV → St → Bool) : AE → Ac → St → Bool := fun ex a' s' => match ex with
  | .normal => leaveA e r fn a' kr kp a'.d none s'
  | .ret => leaveA e r fn a' kr kp a'.d none s'
  | .panic v => leaveA e r fn a' kr kp a'.d (some v) s'
  | _ => false
def opsK (e : Env) (pr : Prims) (r : Tasks) (rd : Option Nat) (all l : List Oper) (k : AE → Ac → St → Bool) : Ac → St → Bool := fun a' s' => evOps e pr r rd all l a' s' k
def panK (a : Ac) (k : AE → Ac → St → Bool) : AV → St → Bool := fun v s' => k (.panic v) a s'
def valK (a : Ac) (dst : Option Tmp) (k : Ac → St → Bool) : AV → St → Bool := fun v s' => putK a dst v s' k

/-! ### The rules -/
section
variable {k : AE → Ac → St → Bool}
theorem w_call (H : Ok e P pr) {f : FuncId} {args : List AV} {kr kp : AV → St → Bool} {fn : Func} {c : Code} (m : Nat) (h : e.fn.get f = some fn) (hb : fn.body = some c) (hm : Nat.max fn.ntmps args.length = m)
    (hc : (sem P).code none c { t := initTmps .e 0 args, n := m, d := [] } s (callK e (sem P) fn kr kp) = true) : (sem P).call f args s kr kp = true := by
  refine H.call ?_
  subst hm
  simp only [step, h, hb]
  exact hc
theorem w_seq (H : Ok e P pr) {x y : Code} (h : (sem P).code rd x a s (seqK (sem P) rd y k) = true) : (sem P).code rd (.seq x y) a s k = true := H.code h
theorem w_skip (H : Ok e P pr) (h : k .normal a s = true) : (sem P).code rd .skip a s k = true := H.code h
theorem w_ret (H : Ok e P pr) (h : k .ret a s = true) : (sem P).code rd .ret a s k = true := H.code h
theorem w_exit (H : Ok e P pr) {i : Nat} (h : k (.exit i) a s = true) : (sem P).code rd (.exit i) a s k = true := H.code h
theorem w_goto (H : Ok e P pr) {i : Nat} (h : k (.goto i) a s = true) : (sem P).code rd (.goto i) a s k = true := H.code h
theorem w_label (H : Ok e P pr) {i : Nat} (h : k .normal a s = true) : (sem P).code rd (.label i) a s k = true := H.code h
theorem w_block (H : Ok e P pr) {i : Nat} {c : Code} (h : (sem P).code rd c a s (blockK i k) = true) : (sem P).code rd (.block i c) a s k = true := H.code h
theorem w_loop (H : Ok e P pr) {c : Code} (h : (sem P).code rd c a s (loopK (sem P) rd c k) = true) : (sem P).code rd (.loop c) a s k = true := H.code h
theorem w_cond (H : Ok e P pr) {c : Operand} {x y : Code} (b : Bool) (hb : a.eval c = .raw (.bool b)) (h : (sem P).code rd (bif b then x else y) a s k = true) : (sem P).code rd (.cond c x y) a s k = true := by
  refine H.code ?_
  simp only [step, hb]
  exact h
theorem w_region (H : Ok e P pr) {i : Nat} {ops : List Oper} (h : evOps e pr (sem P) rd ops ops a s k = true) : (sem P).code rd (.region i ops.toArray false) a s k = true := by
  refine H.code ?_
  simp only [step]
  exact h
theorem w_any (H : Ok e P pr) {i : Nat} {ops : List Oper} (hs : noSel ops = true) (h : evAny e pr (sem P) rd ops.toArray ops.length (Array.replicate ops.length false) [] a s (fun a' s' => k .normal a' s') (fun v a' s' => k (.panic v) { a' with t := delAll a'.t ops } s') = true) :
    (sem P).code rd (.region i ops.toArray true) a s k = true := by
  refine H.code ?_
  simp only [step, hs, cond_true]
  exact h
end
end Go.AX
