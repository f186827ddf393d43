import Derived.Test.YtnaelolekokhbaaGreatAxSym
namespace Go.AX
open Go.RowKit
variable {P : Program} {e : Env} {pr : Prims} {r : Tasks} {rd : Option Nat} {a : Ac} {s : St}

/-! ### A region that draws its order: its plan, apart from the data -/
inductive Pl where
  | done
  | no
  | yes
  | take (i : Nat) (p : Pl)
  | alt (i : Nat) (deps : List Nat) (p q : Pl)
  deriving Inhabited

def depsOf (ops : Array Oper) (i : Nat) : List Nat := (List.range ops.size).filter (depB ops 8 i)

def altsP (ops : Array Oper) (f : Nat → Pl) : List Nat → Pl
  | [] => .yes
  | i :: l => .alt i (depsOf ops i) (f i) (altsP ops f l)

def plan (e : Env) (ops : Array Oper) : Nat → Array Bool → Pl
  | 0, listed => match Region.ready .any ops listed with
    | [] => .done
    | _ => .no
  | f + 1, listed => match Region.ready .any ops listed with
    | [] => .done
    | i0 :: rs => match pickTake e ops listed (i0 :: rs) with
      | some (i, _) => .take i (plan e ops f (listed.setIfInBounds i true))
      | none => altsP ops (fun i => plan e ops f (listed.setIfInBounds i true)) (i0 :: rs)

def stillD (deps : List Nat) (s s' : St) : List (Nat × List Nat) → Bool
  | [] => true
  | (i, ids) :: l => bif deps.contains i || heldOk s s' ids then stillD deps s s' l else false
def letD (deps : List Nat) : List (Nat × List Nat) → List (Nat × List Nat)
  | [] => []
  | (i, ids) :: l => bif deps.contains i then letD deps l else (i, ids) :: letD deps l
def addH (i : Nat) (ids : List Nat) (held : List (Nat × List Nat)) : List (Nat × List Nat) := match ids with | [] => held | _ :: _ => (i, ids) :: held

/-- The operation at a place. -/
def opAt : List Oper → Nat → Option Oper
  | [], _ => none
  | o :: _, 0 => some o
  | _ :: l, i + 1 => opAt l i
theorem opAt_get : ∀ (l : List Oper) (i : Nat), opAt l i = l[i]?
  | [], _ => (rfl)
  | _ :: _, 0 => (rfl)
  | o :: l, i + 1 => by simpa [opAt] using opAt_get l i

def evPl (e : Env) (pr : Prims) (r : Tasks) (rd : Option Nat) (all : List Oper) : Pl → List (Nat × List Nat) → Ac → St → (Ac → St → Bool) → (AV → Ac → St → Bool) → Bool
  | .done, _, a, s, k, _ => k a s
  | .no, _, _, _, _, _ => false
  | .yes, _, _, _, _, _ => true
  | .take i p, held, a, s, k, kp => match opAt all i with
    | some o => match wantedA all a o with
      | some true => match stepP e a s o with
        | some (v, ids) => bif idsIn s ids then putK a o.dst v s (fun a' s' => evPl e pr r rd all p (addH i ids held) a' s' k kp) else false
        | none => false
      | some false => putK a o.dst undefA s (fun a' s' => evPl e pr r rd all p held a' s' k kp)
      | none => false
    | none => false
  | .alt i deps p q, held, a, s, k, kp => (match opAt all i with
    | some o => match wantedA all a o with
      | some true => evOp e pr r rd o a s (fun a' s' => bif stillD deps s s' held then evPl e pr r rd all p (letD deps held) a' s' k kp else false) (fun v s' => kp v a s')
      | some false => putK a o.dst undefA s (fun a' s' => evPl e pr r rd all p held a' s' k kp)
      | none => false
    | none => false) && evPl e pr r rd all q held a s k kp

theorem pickTake_at {ops : Array Oper} {listed : Array Bool} : ∀ {l : List Nat} {i : Nat} {o : Oper}, pickTake e ops listed l = some (i, o) → ops[i]? = some o
  | [], _, _, h => by simp [pickTake] at h
  | j :: l, i, o, h => by
    simp only [pickTake] at h
    split at h
    · rename_i oj hj
      cases hc : (passiveA e oj.op && Region.free .any ops listed j) with
      | true => rw [hc] at h; simp only [cond_true, Option.some.injEq, Prod.mk.injEq] at h; obtain ⟨rfl, rfl⟩ := h; exact hj
      | false => rw [hc] at h; exact pickTake_at h
    · exact pickTake_at h

theorem putK_mono {dst : Option Tmp} {v : AV} {k k' : Ac → St → Bool} (h : putK a dst v s k = true) (hk : ∀ a' s', k a' s' = true → k' a' s' = true) : putK a dst v s k' = true := by
  unfold putK at h ⊢
  split at h
  · exact hk _ _ h
  · cases h

theorem deps_dep {ops : Array Oper} {i j : Nat} (h : (depsOf ops i).contains j = true) : depB ops 8 i j = true := by
  unfold depsOf at h
  rw [List.contains_iff_mem] at h
  exact (List.mem_filter.1 h).2

theorem still_mono {ops : Array Oper} {i : Nat} {s s' : St} : ∀ {h1 h2 : List (Nat × List Nat)}, (∀ x ∈ h2, x ∈ h1) → stillD (depsOf ops i) s s' h1 = true → stillOk ops i s s' h2 = true := by
  intro h1 h2
  have key : ∀ {h1 : List (Nat × List Nat)}, stillD (depsOf ops i) s s' h1 = true → ∀ x ∈ h1, (depB ops 8 i x.1 || heldOk s s' x.2) = true := by
    intro h1
    induction h1 with
    | nil => intro _ x hx; cases hx
    | cons y l ih =>
      obtain ⟨j, ids⟩ := y
      intro h x hx
      simp only [stillD] at h
      cases hc : ((depsOf ops i).contains j || heldOk s s' ids) with
      | false => rw [hc] at h; cases h
      | true =>
        rw [hc] at h
        simp only [cond_true] at h
        rcases List.mem_cons.1 hx with rfl | hx
        · rw [Bool.or_eq_true] at hc ⊢
          exact hc.imp deps_dep id
        · exact ih h x hx
  intro hsub h
  have hall := key h
  clear h key
  induction h2 with
  | nil => rfl
  | cons y l ih =>
    obtain ⟨j, ids⟩ := y
    simp only [stillOk]
    rw [hall (j, ids) (hsub _ (by simp))]
    exact ih (fun x hx => hsub x (by simp [hx]))

theorem let_mono {ops : Array Oper} {i : Nat} : ∀ {h1 h2 : List (Nat × List Nat)}, (∀ x ∈ h2, x ∈ h1) → ∀ x ∈ letGo ops i h2, x ∈ letD (depsOf ops i) h1 := by
  have k1 : ∀ (h1 : List (Nat × List Nat)) x, x ∈ h1 → depB ops 8 i x.1 = false → x ∈ letD (depsOf ops i) h1 := by
    intro h1
    induction h1 with
    | nil => intro x hx; cases hx
    | cons y l ih =>
      obtain ⟨j, ids⟩ := y
      intro x hx hd
      simp only [letD]
      cases hc : (depsOf ops i).contains j with
      | true =>
        simp only [cond_true]
        rcases List.mem_cons.1 hx with rfl | hx
        · rw [deps_dep hc] at hd; cases hd
        · exact ih x hx hd
      | false =>
        simp only [cond_false]
        rcases List.mem_cons.1 hx with rfl | hx
        · simp
        · exact List.mem_cons_of_mem _ (ih x hx hd)
  have k2 : ∀ (h2 : List (Nat × List Nat)) x, x ∈ letGo ops i h2 → x ∈ h2 ∧ depB ops 8 i x.1 = false := by
    intro h2
    induction h2 with
    | nil => intro x hx; cases hx
    | cons y l ih =>
      obtain ⟨j, ids⟩ := y
      intro x hx
      simp only [letGo] at hx
      cases hc : depB ops 8 i j with
      | true => rw [hc] at hx; have := ih x hx; exact ⟨List.mem_cons_of_mem _ this.1, this.2⟩
      | false =>
        rw [hc] at hx
        simp only [cond_false] at hx
        rcases List.mem_cons.1 hx with rfl | hx
        · exact ⟨by simp, hc⟩
        · have := ih x hx; exact ⟨List.mem_cons_of_mem _ this.1, this.2⟩
  intro h1 h2 hs x hx
  have := k2 h2 x hx
  exact k1 h1 x (hs x this.1) this.2

/-! ### More is asked, more is shown -/
theorem mono_code {c : Code} {k k' : AE → Ac → St → Bool} (h : (sem P).code rd c a s k = true) (hk : ∀ ex a' s', k ex a' s' = true → k' ex a' s' = true) : (sem P).code rd c a s k' = true :=
  sem_code.2 fun RD w0 w E A Q h1 h2 h3 h4 => sem_code.1 h RD w0 w E A Q h1 h2 h3 (fun E' ex a' s' X A' w' g1 g2 g3 g4 g5 => h4 E' ex a' s' X A' w' g1 g2 g3 g4 (hk _ _ _ g5))
theorem mono_call {f : FuncId} {args : List AV} {kr kr' kp kp' : AV → St → Bool} (h : (sem P).call f args s kr kp = true) (hk : ∀ v s', kr v s' = true → kr' v s' = true) (hp : ∀ v s', kp v s' = true → kp' v s' = true) : (sem P).call f args s kr' kp' = true :=
  sem_call.2 fun w0 w E Args R Rp h1 h2 h3 h4 => sem_call.1 h w0 w E Args R Rp h1 h2 (fun E' v s' V w' g1 g2 g3 g4 => h3 E' v s' V w' g1 g2 g3 (hk _ _ g4)) (fun E' v s' V w' g1 g2 g3 g4 => h4 E' v s' V w' g1 g2 g3 (hp _ _ g4))
theorem endK_mono {id : Nat} {j : Option Code} {b : Bool} {k k' : AV → St → Bool} (h : endK s id j b k = true) (hk : ∀ v s', k v s' = true → k' v s' = true) : endK s id j b k' = true := by
  unfold endK at h ⊢
  split at h
  · exact hk _ _ h
  · cases h
theorem round_mono {id : Nat} {args : List AV} {k k' : AV → St → Bool} (h : roundA (sem P) id args s k = true) (hk : ∀ v s', k v s' = true → k' v s' = true) : roundA (sem P) id args s k' = true := by
  unfold roundA at h ⊢
  split at h
  · split at h
    · refine mono_code h fun ex a1 s1 h1 => ?_
      split at h1
      · split at h1
        · refine mono_code h1 fun ex a2 s2 h2 => ?_
          split at h2
          · exact endK_mono h2 hk
          · exact endK_mono h2 hk
          · exact endK_mono h2 hk
          · exact endK_mono h2 hk
          · cases h2
        · cases h1
      · cases h1
    · cases h
  · cases h
theorem plain_mono {o : Oper} {k k' : Ac → St → Bool} (h : plainOp e o a s k = true) (hk : ∀ a' s', k a' s' = true → k' a' s' = true) : plainOp e o a s k' = true := by
  unfold plainOp at h ⊢
  split at h
  · rename_i v ids _
    cases hi : idsIn s ids with
    | false => rw [hi] at h; cases h
    | true => rw [hi] at h; exact putK_mono h hk
  · split at h
    · exact putK_mono h hk
    · cases h
theorem evOp_mono {o : Oper} {k k' : Ac → St → Bool} {kp kp' : AV → St → Bool} (h : evOp e pr (sem P) rd o a s k kp = true) (hk : ∀ a' s', k a' s' = true → k' a' s' = true) (hp : ∀ v s', kp v s' = true → kp' v s' = true) :
    evOp e pr (sem P) rd o a s k' kp' = true := by
  unfold evOp at h ⊢
  split at h
  · split at h
    · exact hp _ _ h
    · cases h
  · split at h
    · split at h
      · exact putK_mono h hk
      · cases h
    · cases h
  · split at h
    · split at h
      · split at h
        · exact putK_mono h hk
        · split at h
          · exact putK_mono h hk
          · exact mono_call h (fun v s' hv => putK_mono hv hk) hp
      · exact round_mono h (fun v s' hv => putK_mono hv hk)
      · cases h
    · exact plain_mono h hk
  · exact plain_mono h hk

theorem evAny_mono {ops : Array Oper} {k k' : Ac → St → Bool} {kp kp' : AV → Ac → St → Bool} (hk : ∀ a' s', k a' s' = true → k' a' s' = true) (hp : ∀ v a' s', kp v a' s' = true → kp' v a' s' = true) :
    ∀ (f : Nat) (listed : Array Bool) (h1 h2 : List (Nat × List Nat)) (a : Ac) (s : St), (∀ x ∈ h2, x ∈ h1) → evPl e pr (sem P) rd ops.toList (plan e ops f listed) h1 a s k kp = true → evAny e pr (sem P) rd ops f listed h2 a s k' kp' = true := by
  intro f
  induction f with
  | zero =>
    intro listed h1 h2 a s hs h
    unfold plan at h
    unfold evAny
    split
    · rename_i hr; rw [hr] at h; exact hk _ _ h
    · rename_i hr
      split at h
      · rename_i hr'; exact absurd hr' hr
      · cases h
  | succ f ih =>
    intro listed h1 h2 a s hs h
    unfold plan at h
    unfold evAny
    split
    · rename_i hr; rw [hr] at h; exact hk _ _ h
    · rename_i i0 rs hr
      rw [hr] at h
      simp only at h
      split
      · rename_i i o hpk
        rw [hpk] at h
        have hat : opAt ops.toList i = some o := by rw [opAt_get]; simpa using pickTake_at hpk
        simp only [evPl, hat] at h
        split
        · rename_i hw
          rw [hw] at h
          simp only at h
          split
          · rename_i v ids hst
            rw [hst] at h
            simp only at h
            cases hi : idsIn s ids with
            | false => rw [hi] at h; cases h
            | true =>
              rw [hi] at h
              simp only [cond_true] at h ⊢
              refine putK_mono h fun a' s' h' => ih _ _ _ _ _ ?_ h'
              intro x hx
              cases ids with
              | nil => exact hs x hx
              | cons y l =>
                rcases List.mem_cons.1 hx with rfl | hx
                · simp [addH]
                · simp only [addH]; exact List.mem_cons_of_mem _ (hs x hx)
          · rename_i hst; rw [hst] at h; cases h
        · rename_i hw
          rw [hw] at h
          exact putK_mono h fun a' s' h' => ih _ _ _ _ _ hs h'
        · rename_i hw; rw [hw] at h; cases h
      · rename_i hpk
        rw [hpk] at h
        simp only at h
        generalize i0 :: rs = L at h
        rw [List.all_eq_true]
        intro i hi
        induction L with
        | nil => cases hi
        | cons j L ihL =>
          simp only [altsP, evPl, opAt_get, Array.getElem?_toList, Bool.and_eq_true] at h
          cases ho : ops[j]? with
          | none => rw [ho] at h; cases h.1
          | some o =>
            rw [ho] at h
            simp only at h
            rcases List.mem_cons.1 hi with rfl | hi
            · rw [ho]
              simp only
              have h := h.1
              split
              · rename_i hw
                rw [hw] at h
                simp only at h
                refine evOp_mono h (fun a' s' h' => ?_) (fun v s' h' => hp _ _ _ h')
                cases hst : stillD (depsOf ops i) s s' h1 with
                | false => rw [hst] at h'; cases h'
                | true =>
                  rw [hst] at h'
                  simp only [cond_true] at h'
                  rw [still_mono hs hst]
                  exact ih _ _ _ _ _ (let_mono hs) h'
              · rename_i hw
                rw [hw] at h
                exact putK_mono h fun a' s' h' => ih _ _ _ _ _ hs h'
              · rename_i hw; rw [hw] at h; cases h
            · exact ihL h.2 hi

/-! ### The plan, run -/
def plK (e : Env) (pr : Prims) (r : Tasks) (rd : Option Nat) (all : List Oper) (p : Pl) (held : List (Nat × List Nat)) (k : AE → Ac → St → Bool) : Ac → St → Bool := fun a' s' => evPl e pr r rd all p held a' s' (fun a' s' => k .normal a' s') (fun v a' s' => k (.panic v) { a' with t := delAll a'.t all } s')
def actK (e : Env) (pr : Prims) (r : Tasks) (rd : Option Nat) (all : List Oper) (deps : List Nat) (p : Pl) (s : St) (held : List (Nat × List Nat)) (k : AE → Ac → St → Bool) : Ac → St → Bool := fun a' s' => bif stillD deps s s' held then plK e pr r rd all p (letD deps held) k a' s' else false
def apanK (a : Ac) (all : List Oper) (k : AE → Ac → St → Bool) : AV → St → Bool := fun v s' => k (.panic v) { a with t := delAll a.t all } s'
/-- A region that draws its order, by its plan. -/
theorem w_plan (H : Ok e P pr) {i : Nat} {ops : List Oper} {k : AE → Ac → St → Bool} (p : Pl) (hs : noSel ops = true) (hp : plan e ops.toArray ops.length (Array.replicate ops.length false) = p)
    (h : plK e pr (sem P) rd ops p [] k a s = true) : (sem P).code rd (.region i ops.toArray true) a s k = true := by
  refine w_any H hs ?_
  subst hp
  exact evAny_mono (fun _ _ h => h) (fun _ _ _ h => h) _ _ _ _ _ _ (fun _ hx => hx) h
section
variable {all : List Oper} {held : List (Nat × List Nat)} {k : AE → Ac → St → Bool} {dst : Option Tmp} {op : Op} {ty : TypeId} {pos : String} {after : Array Edge} {i : Nat} {p q : Pl}
theorem l_done : plK e pr r rd all .done held k a s = k .normal a s := (rfl)
theorem l_yes : plK e pr r rd all .yes held k a s = true := (rfl)
def takeP (e : Env) (pr : Prims) (r : Tasks) (rd : Option Nat) (all : List Oper) (x : Option (AV × List Nat)) (i : Nat) (held : List (Nat × List Nat)) (a : Ac) (dst : Option Tmp) (s : St) (p : Pl) (k : AE → Ac → St → Bool) : Bool := match x with
  | some (v, ids) => bif idsIn s ids then putK a dst v s (plK e pr r rd all p (addH i ids held) k) else false
  | none => false
def takeO (e : Env) (pr : Prims) (r : Tasks) (rd : Option Nat) (all : List Oper) (x : Option Oper) (i : Nat) (held : List (Nat × List Nat)) (a : Ac) (s : St) (p : Pl) (k : AE → Ac → St → Bool) : Bool := match x with
  | some o => match wantedA all a o with
    | some true => takeP e pr r rd all (stepP e a s o) i held a o.dst s p k
    | some false => putK a o.dst undefA s (plK e pr r rd all p held k)
    | none => false
  | none => false
def altO (e : Env) (pr : Prims) (r : Tasks) (rd : Option Nat) (all : List Oper) (x : Option Oper) (deps : List Nat) (held : List (Nat × List Nat)) (a : Ac) (s : St) (p : Pl) (k : AE → Ac → St → Bool) : Bool := match x with
  | some o => match wantedA all a o with
    | some true => evOp e pr r rd o a s (actK e pr r rd all deps p s held k) (apanK a all k)
    | some false => putK a o.dst undefA s (plK e pr r rd all p held k)
    | none => false
  | none => false
theorem l_take : plK e pr r rd all (.take i p) held k a s = takeO e pr r rd all (opAt all i) i held a s p k := by
  simp only [plK, evPl, takeO]
  cases opAt all i with
  | none => (rfl)
  | some o =>
    simp only
    cases wantedA all a o with
    | none => (rfl)
    | some b => cases b <;> (rfl)
theorem l_alt {deps : List Nat} : plK e pr r rd all (.alt i deps p q) held k a s = (altO e pr r rd all (opAt all i) deps held a s p k && plK e pr r rd all q held k a s) := by
  simp only [plK, evPl, altO]
  cases opAt all i with
  | none => (rfl)
  | some o =>
    simp only
    cases wantedA all a o with
    | none => (rfl)
    | some b => cases b <;> (rfl)
theorem at_zero {o : Oper} {l : List Oper} : opAt (o :: l) 0 = some o := (rfl)
theorem at_succ {o : Oper} {l : List Oper} {j : Nat} : opAt (o :: l) (j + 1) = opAt l j := (rfl)
theorem l_take0 : takeO e pr r rd all (some ⟨dst, op, ty, pos, after, none⟩) i held a s p k = takeP e pr r rd all (stepP e a s ⟨dst, op, ty, pos, after, none⟩) i held a dst s p k := (rfl)
theorem l_takeG {g : Nat × Bool} : takeO e pr r rd all (some ⟨dst, op, ty, pos, after, some g⟩) i held a s p k = match wantedA all a ⟨dst, op, ty, pos, after, some g⟩ with
    | some true => takeP e pr r rd all (stepP e a s ⟨dst, op, ty, pos, after, none⟩) i held a dst s p k
    | some false => putK a dst undefA s (plK e pr r rd all p held k)
    | none => false := (rfl)
theorem l_alt0 {deps : List Nat} : altO e pr r rd all (some ⟨dst, op, ty, pos, after, none⟩) deps held a s p k = evOp e pr r rd ⟨dst, op, ty, pos, after, none⟩ a s (actK e pr r rd all deps p s held k) (apanK a all k) := (rfl)
theorem l_altG {deps : List Nat} {g : Nat × Bool} : altO e pr r rd all (some ⟨dst, op, ty, pos, after, some g⟩) deps held a s p k = match wantedA all a ⟨dst, op, ty, pos, after, some g⟩ with
    | some true => evOp e pr r rd ⟨dst, op, ty, pos, after, none⟩ a s (actK e pr r rd all deps p s held k) (apanK a all k)
    | some false => putK a dst undefA s (plK e pr r rd all p held k)
    | none => false := (rfl)
theorem l_act {deps : List Nat} {s0 : St} (h : stillD deps s0 s held = true) : actK e pr r rd all deps p s0 held k a s = plK e pr r rd all p (letD deps held) k a s := by simp [actK, h]
theorem l_apan {v : AV} : apanK a all k v s = k (.panic v) { a with t := delAll a.t all } s := (rfl)
theorem t_quiet {v : AV} : takeP e pr r rd all (quietR (some v)) i held a dst s p k = putK a dst v s (plK e pr r rd all p held k) := (rfl)
theorem t_read {ids : List Nat} {v : AV} (h : idsIn s ids = true) : takeP e pr r rd all (readR ids (some v)) i held a dst s p k = putK a dst v s (plK e pr r rd all p (addH i ids held) k) := by simp [takeP, readR, h]
theorem addH_nil : addH i [] held = held := (rfl)
theorem addH_cons {x : Nat} {l : List Nat} : addH i (x :: l) held = (i, x :: l) :: held := (rfl)
theorem sp_move {x : Operand} : stepP e a s ⟨dst, .move x, ty, pos, after, none⟩ = quietR (some (a.eval x)) := (rfl)
theorem sp_assign {x : Operand} : stepP e a s ⟨dst, .assign x, ty, pos, after, none⟩ = quietR (some (a.eval x)) := (rfl)
theorem sp_load {t : TypeId} {x : Operand} : stepP e a s ⟨dst, .load t x, ty, pos, after, none⟩ = readR (idsOf (a.eval x)) (loadA e s t (a.eval x)) := (rfl)
theorem sp_nilCheck {x : Operand} : stepP e a s ⟨dst, .nilCheck x, ty, pos, after, none⟩ = quietR (nilA (a.eval x)) := by
  simp only [stepP]
  cases a.eval x <;> rfl
theorem sp_pick {c x y : Operand} : stepP e a s ⟨dst, .pick c x y, ty, pos, after, none⟩ = quietR (pickA (a.eval c) (a.eval x) (a.eval y)) := by
  simp only [stepP, pickA]
  cases h : a.eval c with
  | raw v => cases v <;> rfl
  | _ => rfl
theorem sp_build {t : TypeId} {parts : List (Nat × Operand)} : stepP e a s ⟨dst, .build t parts.toArray, ty, pos, after, none⟩ = quietR (buildA e t (parts.map fun q => (q.1, a.eval q.2))) := (rfl)
theorem sp_slice {t : TypeId} {x : Operand} {lo hi mx : Option Operand} : stepP e a s ⟨dst, .slice t x lo hi mx, ty, pos, after, none⟩ = quietR (sliceOpA e t (a.eval x) (lo.map a.eval) (hi.map a.eval) (mx.map a.eval)) := (rfl)
theorem sp_fieldAddr {t : TypeId} {x : Operand} {f : Nat} : stepP e a s ⟨dst, .fieldAddr t x f, ty, pos, after, none⟩ = quietR (fieldAddrA e t (a.eval x) f) := (rfl)
theorem sp_field {t : TypeId} {x : Operand} {f : Nat} : stepP e a s ⟨dst, .field t x f, ty, pos, after, none⟩ = quietR (fieldA e t (a.eval x) f) := (rfl)
theorem sp_indexAddr {t : TypeId} {x j : Operand} : stepP e a s ⟨dst, .indexAddr t x j, ty, pos, after, none⟩ = quietR (indexAddrA e t (a.eval x) (a.eval j)) := (rfl)
theorem sp_index {t : TypeId} {x j : Operand} : stepP e a s ⟨dst, .index t x j, ty, pos, after, none⟩ = quietR (indexA e t (a.eval x) (a.eval j)) := (rfl)
theorem sp_lookup {t : TypeId} {x j : Operand} {b : Bool} : stepP e a s ⟨dst, .lookup t x j b, ty, pos, after, none⟩ = readR (idsOf (a.eval x)) (lookupA e s t (a.eval x) (a.eval j) b) := (rfl)
theorem sp_typeAssert {x : Operand} {t t' : TypeId} {b : Bool} : stepP e a s ⟨dst, .typeAssert x t' t b, ty, pos, after, none⟩ = quietR (assertA e (a.eval x) t b) := (rfl)
theorem sp_makeFunc {f : FuncId} {cap : List Operand} : stepP e a s ⟨dst, .makeFunc (.func f) #[] cap.toArray, ty, pos, after, none⟩ = quietR (some (.fn f (cap.map a.eval))) := (rfl)
theorem sp_len {x : Operand} {t : TypeId} : stepP e a s ⟨dst, .call { callee := .builtin .len, args := #[x], argTypes := #[t] }, ty, pos, after, none⟩ = readR (idsOf (a.eval x)) (lenOpA e s [t] [a.eval x]) := (rfl)
def binP (x : Option AV) (y : Option (AV × List Nat)) : Option (AV × List Nat) := match x with
  | some v => some (v, [])
  | none => y
theorem t_bin {v : AV} {y : Option (AV × List Nat)} : takeP e pr r rd all (binP (some v) y) i held a dst s p k = putK a dst v s (plK e pr r rd all p held k) := (rfl)
theorem t_binP {v : AV} {ids : List Nat} (h : idsIn s ids = true) : takeP e pr r rd all (binP none (some (v, ids))) i held a dst s p k = putK a dst v s (plK e pr r rd all p (addH i ids held) k) := by simp [takeP, binP, h]
theorem sp_bin {op : BinOp} {t t' : TypeId} {x y : Operand} : stepP e a s ⟨dst, .binOp op t x y t', ty, pos, after, none⟩ =
    binP (binFast op (a.eval x) (a.eval y)) (eqS e s op t (a.eval x) (a.eval y) (stepPure e a ⟨dst, .binOp op t x y t', ty, pos, after, none⟩)) := by
  simp only [stepP, eqS, binP]
  cases binFast op (a.eval x) (a.eval y) with
  | some v => rfl
  | none => cases op <;> rfl
def pureP (x : Option (AV × List Nat)) : Option (AV × List Nat) := quietR (pureA x)
theorem pureP_eq {o : Oper} : stepPure e a o = quietR (pureA (stepPure e a o)) := by
  cases hx : stepPure e a o with
  | none => rfl
  | some x => obtain ⟨v, ids⟩ := x; have := stepPure_ids hx; simp only at this; subst this; rfl
theorem sp_unOp {u : UnOp} {t : TypeId} {x : Operand} : stepP e a s ⟨dst, .unOp u t x, ty, pos, after, none⟩ = quietR (pureA (stepPure e a ⟨dst, .unOp u t x, ty, pos, after, none⟩)) := pureP_eq (o := ⟨dst, .unOp u t x, ty, pos, after, none⟩)
def exP (v : AV) (i : Nat) (d : Option (AV × List Nat)) : Option (AV × List Nat) := match v with
  | .tuple vs => quietR vs[i]?
  | _ => d
theorem exP_tuple {vs : List AV} {j : Nat} {d : Option (AV × List Nat)} : exP (.tuple vs) j d = quietR vs[j]? := (rfl)
theorem sp_extract {x : Operand} {j : Nat} : stepP e a s ⟨dst, .extract x j, ty, pos, after, none⟩ = exP (a.eval x) j (stepPure e a ⟨dst, .extract x j, ty, pos, after, none⟩) := by
  simp only [stepP, exP]
  cases a.eval x <;> rfl
end

/-! ### Cells -/
def ldC (s : St) (x o : Nat) : Option AV := match getCells s x with
  | some (cs, _, _) => cs[o]?
  | none => none
def stC (s : St) (x o : Nat) (v : AV) : Option St := match getCells s x with
  | some (cs, el, fz) => match putL cs o [v] with
    | some cs' => some { s with h := s.h.set x (.cells cs' el fz) }
    | none => none
  | none => none
def aggT (e : Env) (t : TypeId) : Bool := match e.info t with | some ti => isAggD ti.desc | none => true
def sizeT (e : Env) (t : TypeId) : Nat := match e.info t with | some ti => ti.size | none => 0
theorem ld_gen {t x o : Nat} (h : aggT e t = false) : loadA e s t (.ptr x o) = ldC s x o := by
  unfold aggT at h
  cases ht : e.info t with
  | none => rw [ht] at h; cases h
  | some ti =>
    rw [ht] at h
    simp only at h
    simp only [loadA, ldC, ht]
    cases getCells s x with
    | none => rfl
    | some y => obtain ⟨cs, el, fz⟩ := y; simp [h]
theorem st_gen {t x o : Nat} {v : AV} (h : sizeT e t = 1) (h1 : v.cells = [v]) (h2 : v.one = true) : storeA e s t (.ptr x o) v = stC s x o v := by
  unfold sizeT at h
  cases ht : e.info t with
  | none => rw [ht] at h; cases h
  | some ti =>
    rw [ht] at h
    simp only at h
    simp only [storeA, stC, ht, h, h1, storeCellsA, List.length_cons, List.length_nil, List.all_cons, List.all_nil, h2]
    cases getCells s x with
    | none => rfl
    | some y => obtain ⟨cs, el, fz⟩ := y; rfl
theorem gc_of {x el fz : Nat} {cs : List AV} (h : s.h.get x = some (.cells cs el fz)) : getCells s x = some (cs, el, fz) := by simp [getCells, h]
theorem cells_raw_int {k : IntKind} {z : Int} : (AV.raw (.int k z)).cells = [.raw (.int k z)] := (rfl)
theorem cells_raw_bool {b : Bool} : (AV.raw (.bool b)).cells = [.raw (.bool b)] := (rfl)
theorem cells_raw_nilp : (AV.raw (.pointer none)).cells = [.raw (.pointer none)] := (rfl)
theorem cells_raw_nils {a b : Nat} : (AV.raw (.slice none a b)).cells = [.raw (.slice none a b)] := (rfl)
theorem cells_str {l : List Nat} : (AV.str l).cells = [.str l] := (rfl)
theorem cells_ptr {i j : Nat} : (AV.ptr i j).cells = [.ptr i j] := (rfl)
theorem cells_slice {i o l c k : Nat} {x : Bool} : (AV.slice i o l c k x).cells = [.slice i o l c k x] := (rfl)
theorem cells_map {i : Nat} : (AV.map i).cells = [.map i] := (rfl)
theorem cells_agg {l : List AV} : (AV.agg l).cells = l := (rfl)
theorem one_raw_int {k : IntKind} {z : Int} : (AV.raw (.int k z)).one = true := (rfl)
theorem one_raw_bool {b : Bool} : (AV.raw (.bool b)).one = true := (rfl)
theorem one_raw_nilp : (AV.raw (.pointer none)).one = true := (rfl)
theorem one_raw_nils {a b : Nat} : (AV.raw (.slice none a b)).one = true := (rfl)
theorem one_str {l : List Nat} : (AV.str l).one = true := (rfl)
theorem one_ptr {i j : Nat} : (AV.ptr i j).one = true := (rfl)
theorem one_slice {i o l c k : Nat} {x : Bool} : (AV.slice i o l c k x).one = true := (rfl)
theorem one_map {i : Nat} : (AV.map i).one = true := (rfl)
theorem ids_ptr {i j : Nat} : idsOf (.ptr i j) = [i] := (rfl)
theorem ids_map {i : Nat} : idsOf (.map i) = [i] := (rfl)
theorem ids_raw {v : Value} : idsOf (.raw v) = [] := (rfl)
theorem ids_str {l : List Nat} : idsOf (.str l) = [] := (rfl)
theorem ids_slice {i o l c k : Nat} {x : Bool} : idsOf (.slice i o l c k x) = [] := (rfl)
theorem in_nil : idsIn s [] = true := (rfl)
theorem in_cons {i : Nat} {l : List Nat} {o : AO} (h : s.h.get i = some o) : idsIn s (i :: l) = idsIn s l := by simp [idsIn, h]
theorem al_nx {o : AO} : (s.alloc o).nx = s.nx + 1 := (rfl)
theorem al_same {o : AO} : (s.alloc o).h.get s.nx = some o := by simp [St.alloc, Tr.get_set]
theorem al_ne {o : AO} {i : Nat} (h : i ≠ s.nx) : (s.alloc o).h.get i = s.h.get i := by simp [St.alloc, Tr.get_set, h]
theorem hs_same {h : Tr AO} {o : AO} {i : Nat} : (h.set i o).get i = some o := by simp [Tr.get_set]
theorem hs_ne {h : Tr AO} {o : AO} {i j : Nat} (hn : i ≠ j) : (h.set j o).get i = h.get i := by simp [Tr.get_set, hn]
theorem putR_nil {v : AV} {d : Bool} {dst : Option Tmp} {k : Ac → St → Bool} : putR [] (some v) d a dst s k = putK a dst v s k := (rfl)

/-! ### Loops -/
theorem w_loop_ind (H : Ok e P pr) {c : Code} {k : AE → Ac → St → Bool} {N : Nat} {ds : List AD} (J : Nat → Tr AV → St → Prop) {n : Nat} {t : Tr AV} (h0 : J n t s)
    (hstep : ∀ n t s, (∀ m t' s', m < n → J m t' s' → (sem P).code rd (.loop c) ⟨t', N, ds⟩ s' k = true) → J n t s → (sem P).code rd c ⟨t, N, ds⟩ s (loopK (sem P) rd c k) = true) :
    (sem P).code rd (.loop c) ⟨t, N, ds⟩ s k = true := by
  have key : ∀ n t s, J n t s → (sem P).code rd (.loop c) ⟨t, N, ds⟩ s k = true := by
    intro n
    induction n using Nat.strongRecOn with
    | ind n ih => exact fun t s hJ => w_loop H (hstep n t s (fun m t' s' hm hJ' => ih m hm t' s' hJ') hJ)
  exact key n t s h0

/-! ### Loops over a function -/
def rangeK (r : Tasks) (a : Ac) (nx : Nat) (k : AE → Ac → St → Bool) : AV → St → Bool := fun _ s2 =>
  match s2.h.get (nx + 1) with
  | some (.loop st pd fn t n ps as b dd) =>
    match st with
    | .busy => false
    | _ => match pd with
      | none => k .normal { a with d := .mark nx :: a.d } { s2 with h := s2.h.set (nx + 1) (.loop .exhausted pd fn t n ps as b dd) }
      | some j => r.code none j { a with d := .mark nx :: a.d } { s2 with h := s2.h.set (nx + 1) (.loop .exhausted pd fn t n ps as b dd) } k
  | _ => false
def noneK : AV → St → Bool := fun _ _ => false
theorem w_range (H : Ok e P pr) {f : Operand} {ps : List Tmp} {as body : Code} {k : AE → Ac → St → Bool} (g : FuncId) (cap : List AV) (hf : a.eval f = .fn g cap)
    (h : (sem P).call g (.yld (s.nx + 1) :: cap) { h := (s.h.set s.nx (.dfr false)).set (s.nx + 1) (.loop .ready none 0 a.t a.n ps as body s.nx), nx := s.nx + 2 } (rangeK (sem P) a s.nx k) noneK = true) :
    (sem P).code none (.rangeFunc f ps.toArray as body) a s k = true := by
  refine H.code ?_
  simp only [step, hf]
  exact h
theorem rangeK_normal {nx : Nat} {k : AE → Ac → St → Bool} {v : AV} {fn : FuncId} {t : Tr AV} {n : Nat} {ps : List Tmp} {as b : Code} {dd : Nat} (h : s.h.get (nx + 1) = some (.loop .ready none fn t n ps as b dd)) :
    rangeK r a nx k v s = k .normal { a with d := .mark nx :: a.d } { s with h := s.h.set (nx + 1) (.loop .exhausted none fn t n ps as b dd) } := by
  simp only [rangeK, h]
theorem rangeK_jump {nx : Nat} {k : AE → Ac → St → Bool} {v : AV} {fn : FuncId} {t : Tr AV} {n : Nat} {ps : List Tmp} {as b j : Code} {dd : Nat} (h : s.h.get (nx + 1) = some (.loop .done (some j) fn t n ps as b dd)) :
    rangeK r a nx k v s = r.code none j { a with d := .mark nx :: a.d } { s with h := s.h.set (nx + 1) (.loop .exhausted (some j) fn t n ps as b dd) } k := by
  simp only [rangeK, h]
def asK (r : Tasks) (id : Nat) (body : Code) (k : AV → St → Bool) : AE → Ac → St → Bool := fun ex a1 s1 =>
  match ex with
  | .normal =>
    match s1.h.get id with
    | some (.loop .ready pd fn t n ps as b d) =>
      r.code (some id) body a1 { s1 with h := s1.h.set id (.loop .busy pd fn t n ps as b d) } fun ex _ s2 =>
        match ex with
        | .normal => endK s2 id none true k
        | .ret => endK s2 id (some .ret) false k
        | .exit j => endK s2 id (some (.exit j)) false k
        | .goto j => endK s2 id (some (.goto j)) false k
        | .panic _ => false
    | _ => false
  | _ => false
def bodyK (id : Nat) (k : AV → St → Bool) : AE → Ac → St → Bool := fun ex _ s2 =>
  match ex with
  | .normal => endK s2 id none true k
  | .ret => endK s2 id (some .ret) false k
  | .exit j => endK s2 id (some (.exit j)) false k
  | .goto j => endK s2 id (some (.goto j)) false k
  | .panic _ => false
theorem w_round {id : Nat} {args : List AV} {k : AV → St → Bool} {st : LoopState} {pd : Option Code} {fn : FuncId} {t t' : Tr AV} {n : Nat} {ps : List Tmp} {as body : Code} {d : Nat} (hs : s.h.get id = some (.loop st pd fn t n ps as body d)) (ht : setTmps t n ps args = some t')
    (h : (sem P).code (some id) as ⟨t', n, []⟩ s (asK (sem P) id body k) = true) : roundA (sem P) id args s k = true := by
  simp only [roundA, hs, ht]
  exact h
theorem asK_normal {id : Nat} {k : AV → St → Bool} {pd : Option Code} {fn : FuncId} {t : Tr AV} {n : Nat} {ps : List Tmp} {as b body : Code} {d : Nat} (hs : s.h.get id = some (.loop .ready pd fn t n ps as b d)) :
    asK r id body k .normal a s = r.code (some id) body a { s with h := s.h.set id (.loop .busy pd fn t n ps as b d) } (bodyK id k) := by
  simp only [asK, hs]
  rfl
theorem bodyK_normal {id : Nat} {k : AV → St → Bool} {st : LoopState} {pd : Option Code} {fn : FuncId} {t : Tr AV} {n : Nat} {ps : List Tmp} {as b : Code} {d : Nat} (hs : s.h.get id = some (.loop st pd fn t n ps as b d)) :
    bodyK id k .normal a s = k (boolA true) { s with h := s.h.set id (.loop .ready none fn t n ps as b d) } := by
  simp only [bodyK, endK, endRoundA, hs]
theorem bodyK_ret {id : Nat} {k : AV → St → Bool} {st : LoopState} {pd : Option Code} {fn : FuncId} {t : Tr AV} {n : Nat} {ps : List Tmp} {as b : Code} {d : Nat} (hs : s.h.get id = some (.loop st pd fn t n ps as b d)) :
    bodyK id k .ret a s = k (boolA false) { s with h := s.h.set id (.loop .done (some .ret) fn t n ps as b d) } := by
  simp only [bodyK, endK, endRoundA, hs]
theorem bodyK_exit {id j : Nat} {k : AV → St → Bool} {st : LoopState} {pd : Option Code} {fn : FuncId} {t : Tr AV} {n : Nat} {ps : List Tmp} {as b : Code} {d : Nat} (hs : s.h.get id = some (.loop st pd fn t n ps as b d)) :
    bodyK id k (.exit j) a s = k (boolA false) { s with h := s.h.set id (.loop .done (some (.exit j)) fn t n ps as b d) } := by
  simp only [bodyK, endK, endRoundA, hs]
theorem k_leave_mark {fn : Func} {kr kp : AV → St → Bool} {id : Nat} {ds : List AD} {pn : Option AV} (h : s.h.get id = some (.dfr false)) : leaveA e r fn a kr kp (.mark id :: ds) pn s = leaveA e r fn a kr kp ds pn { s with h := s.h.set id (.dfr true) } := by
  simp only [leaveA, h]

/-! ### Memory, looked at -/
def ldO (o : Option AO) (i : Nat) : Option AV := match o with
  | some (.cells cs _ _) => cs[i]?
  | _ => none
theorem ldC_o {x o : Nat} : ldC s x o = ldO (s.h.get x) o := by
  unfold ldC getCells ldO
  cases s.h.get x with
  | none => rfl
  | some y => cases y <;> rfl
theorem ldO_some {cs : List AV} {el fz i : Nat} : ldO (some (.cells cs el fz)) i = cs[i]? := (rfl)
def stO (s : St) (x : Nat) (c : Option AO) (i : Nat) (v : AV) : Option St := match c with
  | some (.cells cs el fz) => match putL cs i [v] with
    | some cs' => some { s with h := s.h.set x (.cells cs' el fz) }
    | none => none
  | _ => none
theorem stC_o {x o : Nat} {v : AV} : stC s x o v = stO s x (s.h.get x) o v := by
  unfold stC getCells stO
  cases s.h.get x with
  | none => rfl
  | some y => cases y <;> rfl
theorem stO_some {x i el fz : Nat} {cs : List AV} {v : AV} : stO s x (some (.cells cs el fz)) i v = match putL cs i [v] with
    | some cs' => some { s with h := s.h.set x (.cells cs' el fz) }
    | none => none := (rfl)
theorem pl_zero {c v : AV} {cs : List AV} : putL (c :: cs) 0 [v] = some (v :: cs) := by cases cs <;> rfl
theorem pl_succ {c v : AV} {cs : List AV} {n : Nat} : putL (c :: cs) (n + 1) [v] = match putL cs n [v] with | some r => some (c :: r) | none => none := (rfl)
def inO (o : Option AO) (b : Bool) : Bool := match o with
  | some _ => b
  | none => false
theorem in_o {i : Nat} {l : List Nat} : idsIn s (i :: l) = inO (s.h.get i) (idsIn s l) := by
  show (match s.h.get i with | some _ => idsIn s l | none => false) = _
  unfold inO
  cases s.h.get i <;> rfl
theorem inO_some {o : AO} {b : Bool} : inO (some o) b = b := (rfl)
theorem al_get {o : AO} {i : Nat} : (s.alloc o).h.get i = if i = s.nx then some o else s.h.get i := by simp [St.alloc, Tr.get_set]
theorem hs_get {h : Tr AO} {o : AO} {i j : Nat} : (h.set i o).get j = if j = i then some o else h.get j := by rw [Tr.get_set]
end Go.AX
