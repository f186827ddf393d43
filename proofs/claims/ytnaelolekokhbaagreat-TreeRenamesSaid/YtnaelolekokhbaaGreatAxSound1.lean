import Derived.Test.YtnaelolekokhbaaGreatAxEx
namespace Go.AX
open Go.RowKit
variable {e : Env} {P : Program} {w0 : World} {E : Em} {s : St} {w : World} {a : Ac} {A : Act}

/-- The fence of these runs: everything is let in. -/
def FW (rd : Option Nat) : Fence := { fn := fun _ => True, depth := none, alive := false, round := rd }

/-! ### Regions that draw their order -/
inductive Dep (ops : Array Oper) : Nat → Nat → Prop
  | edge {j i : Nat} {o : Oper} {ed : Edge} (ho : ops[j]? = some o) (he : ed ∈ o.after) (hb : Region.binds .any ed = true) (hi : ed.on = i) : Dep ops j i
  | step {j i : Nat} {o : Oper} {ed : Edge} (ho : ops[j]? = some o) (he : ed ∈ o.after) (hb : Region.binds .any ed = true) (hd : Dep ops ed.on i) : Dep ops j i

theorem depB_dep {ops : Array Oper} : ∀ {n j i : Nat}, depB ops n j i = true → Dep ops j i
  | 0, _, _, h => by simp [depB] at h
  | n + 1, j, i, h => by
    simp only [depB] at h
    split at h
    · rename_i o ho
      rw [List.any_eq_true] at h
      obtain ⟨ed, hed, h⟩ := h
      simp only [Bool.and_eq_true, Bool.or_eq_true] at h
      obtain ⟨hb, h | h⟩ := h
      · exact .edge ho (by simpa using hed) hb (beq_eq h)
      · exact .step ho (by simpa using hed) hb (depB_dep h)
    · cases h

section any
variable {F : Fence} {ops : Array Oper} {Q : Exit → Act → World → Prop}

def drop (ops : Array Oper) (j : Nat) (H : Nat → World → Prop) : Nat → World → Prop := fun i w => ¬ Dep ops j i → H i w
def upd (H : Nat → World → Prop) (i : Nat) (S : World → Prop) : Nat → World → Prop := fun j w => H j w ∧ (j = i → S w)

/-- Whatever order is drawn; H i: what operation i, if it still waits, finds. -/
def AnyG (F : Fence) (P : Program) (ops : Array Oper) (Q : Exit → Act → World → Prop) : (Nat → World → Prop) → Nat → Array Bool → Act → World → Prop
  | _, 0, listed, a, w => Region.ready .any ops listed = [] ∧ Q .normal a w
  | H, f + 1, listed, a, w => (Region.ready .any ops listed = [] → Q .normal a w) ∧
    ∀ j ∈ Region.ready .any ops listed, wpOpIn F 0 P ops Q j (fun a' w' => (∀ i, drop ops j H i w') ∧ AnyG F P ops Q (drop ops j H) f (listed.setIfInBounds j true) a' w') a w

theorem AnyG.mono : ∀ {f : Nat} {H H' : Nat → World → Prop} {listed : Array Bool} {a : Act} {w : World}, (∀ i w, H i w → H' i w) → AnyG F P ops Q H f listed a w → AnyG F P ops Q H' f listed a w
  | 0, _, _, _, _, _, _, h => h
  | _ + 1, _, _, _, _, _, hH, h => ⟨h.1, fun j hj => wpOpIn_mono (fun _ _ h' => ⟨fun i hd => hH _ _ (h'.1 i hd), AnyG.mono (fun _ _ hi hd => hH _ _ (hi hd)) h'.2⟩) (h.2 j hj)⟩

theorem AnyG.any : ∀ {f : Nat} {H : Nat → World → Prop} {listed : Array Bool} {a : Act} {w : World}, AnyG F P ops Q H f listed a w → wpAnyIn F 0 P .any ops Q f listed a w
  | 0, _, _, _, _, h => h
  | _ + 1, _, _, _, _, h => ⟨h.1, fun j hj => wpOpIn_mono (fun _ _ h' => h'.2.any) (h.2 j hj)⟩

/-- What operation o yields in this frame, wherever S holds. -/
def Yld (P : Program) (ops : Array Oper) (S : World → Prop) (o : Oper) (V : Value) (a : Act) : Prop :=
  (Region.wanted o (yielded ops a.tmps) = true ∧ ∀ w, S w → (execOp a.eval o).run P w = .ok (.value V) w) ∨ (Region.wanted o (yielded ops a.tmps) = false ∧ V = undef)

theorem Yld.wpOp {S : World → Prop} {i : Nat} {o : Oper} {V : Value} {a : Act} (hF : ∀ f, F.fn f) (hi : ops[i]? = some o) (hnd : ∀ c, o.op ≠ .defer c) (hy : Yld P ops S o V a) {K : Act → World → Prop} (hS : S w) (h : K (a.put o.dst V) w) :
    wpOpIn F 0 P ops Q i K a w := by
  unfold wpOpIn
  simp only [hi]
  rcases hy with ⟨hw, hv⟩ | ⟨hw, rfl⟩
  · simp only [hw, if_true, Oper.wpIn]
    refine ⟨fun f _ => hF f, ?_⟩
    rw [Oper.semAt_eq _ _ _ hnd, hv w hS]
    exact h
  · simp only [hw, Bool.false_eq_true, if_false]
    exact ⟨fun f _ => hF f, h⟩

theorem semAt_put (ro : Option Nat) (o : Oper) (hs : ∀ cs b, o.op ≠ .select cs b) (a : Act) (dst : Option Tmp) (v : Value) (h : ∀ d, dst = some d → d ∉ o.looksAt ops) :
    o.semAt ro (a.put dst v).eval = o.semAt ro a.eval := by
  have he := execOp_put (ops := ops) o hs a dst v h
  unfold Oper.semAt
  split
  · rename_i l c hc
    have : resolve (a.put dst v).eval c o.type = resolve a.eval c o.type := resolve_congr c o.type fun x hx => Act.eval_put fun d hd hxd => h d hd (by
      subst hxd
      refine List.mem_append_left _ (List.mem_filterMap.2 ⟨.tmp d, ?_, rfl⟩)
      rw [hc]
      simpa [Op.operands] using hx)
    rw [this]
  · exact he

theorem op_put {S : World → Prop} {j : Nat} {oi oj : Oper} {V : Value} (hF : ∀ f, F.fn f) (hj : ops[j]? = some oj) (hap : oi.apart ops oj = true) (hsi : ∀ cs b, oi.op ≠ .select cs b) (hsj : ∀ cs b, oj.op ≠ .select cs b)
    (hQ : ∀ c a w, Q (.panic c) (a.put oi.dst V) w → Q (.panic c) a w) {K : Act → World → Prop} {a : Act} (hy : Yld P ops S oi V a) (h : wpOpIn F 0 P ops Q j K (a.put oi.dst V) w) :
    wpOpIn F 0 P ops Q j (fun a' w' => Yld P ops S oi V a' ∧ K (a'.put oi.dst V) w') a w := by
  obtain ⟨h1, h2, h3⟩ := Oper.apart_spec hap
  have keep : ∀ (a : Act), Yld P ops S oi V a → ∀ u, Yld P ops S oi V (a.put oj.dst u) := fun a hy u => by
    unfold Yld at *
    rw [execOp_put oi hsi a oj.dst u h3, wanted_put oi a oj.dst u h3]
    exact hy
  have keepD : ∀ d, Yld P ops S oi V { a with defers := d :: a.defers } := fun d => hy
  unfold wpOpIn at *
  simp only [hj] at *
  rw [wanted_put oj a oi.dst V h1] at h
  split
  · rename_i hw
    simp only [hw, if_true] at h
    unfold Oper.wpIn at *
    refine ⟨fun f _ => hF f, ?_⟩
    have h := h.2
    rw [semAt_put F.round oj hsj a oi.dst V h1] at h
    generalize (oj.semAt F.round a.eval).run P w = r at *
    cases r with
    | ok n w' =>
      cases n <;> simp only [Oper.uponIn] at h ⊢
      case value u => exact ⟨keep a hy u, by rw [← Act.put_comm a V u h2]; exact h⟩
      case skip => exact ⟨keep a hy _, by rw [← Act.put_comm a V undef h2]; exact h⟩
      case defer d =>
        refine ⟨keep _ (keepD d) _, ?_⟩
        rw [← Act.put_comm _ V undef h2, ← Act.put_defers]
        exact h
      case enter f args =>
        refine ⟨h.1, CallsIn.mono h.2 fun en w'' he => ?_⟩
        cases en with
        | returned u => exact ⟨keep a hy u, by rw [← Act.put_comm a V u h2]; exact he⟩
        | panicked c => exact hQ _ _ _ he
        | outgrown => exact he
      case row row args => exact ⟨h.1, RowsIn.mono h.2 fun u w'' he => ⟨keep a hy u, by rw [← Act.put_comm a V u h2]; exact he⟩⟩
      case round l f tmps as body =>
        refine ⟨h.1, RoundIn.mono h.2 fun en w'' he => ?_⟩
        cases en with
        | returned u => exact ⟨keep a hy u, by rw [← Act.put_comm a V u h2]; exact he⟩
        | panicked c => exact hQ _ _ _ he
        | outgrown => exact he
    | halt x w' =>
      cases x <;> simp only [Oper.uponIn] at h ⊢
      case panic u => exact hQ _ _ _ h
  · rename_i hw
    simp only [hw] at h
    exact ⟨fun f _ => hF f, keep a hy _, by rw [← Act.put_comm a V undef h2]; exact h.2⟩

/-- Whoever is listed has whom it waits for listed too. -/
def Down (ops : Array Oper) (listed : Array Bool) : Prop := ∀ j o, ops[j]? = some o → listed.getD j false = true → ∀ ed ∈ o.after, Region.binds .any ed = true → listed.getD ed.on false = true

theorem Down.dep {listed : Array Bool} (h : Down ops listed) {j i : Nat} (hd : Dep ops j i) : (∀ o, ops[j]? = some o → ∀ ed ∈ o.after, Region.binds .any ed = true → listed.getD ed.on false = true) → listed.getD i false = true := by
  induction hd with
  | edge ho he hb hi => intro hj; rw [← hi]; exact hj _ ho _ he hb
  | step ho he hb hd ih =>
    intro hj
    have hm := hj _ ho _ he hb
    exact ih fun o' ho' ed' he' hb' => h _ o' ho' hm ed' he' hb'

theorem getD_set_self {listed : Array Bool} {i : Nat} (hi : i < listed.size) (d : Bool) : (listed.setIfInBounds i true).getD i d = true := by
  simp [Array.getD, hi]

theorem Down.set {listed : Array Bool} (h : Down ops listed) {j : Nat} {o : Oper} (ho : ops[j]? = some o) (hr : ∀ ed ∈ o.after, Region.binds .any ed = true → listed.getD ed.on false = true) : Down ops (listed.setIfInBounds j true) := by
  intro m om hom hm ed hed hb
  have up : ∀ k, listed.getD k false = true → (listed.setIfInBounds j true).getD k false = true := fun k hk => getD_set_true hk
  by_cases hmj : m = j
  · subst hmj; rw [ho] at hom; cases hom; exact up _ (hr ed hed hb)
  · rw [getD_set_ne false (Ne.symm hmj)] at hm
    exact up _ (h m om hom hm ed hed hb)

theorem any_take {i : Nat} {oi : Oper} {V : Value} {S : World → Prop} (hF : ∀ f, F.fn f) (hi : ops[i]? = some oi) (hnd : ∀ c, oi.op ≠ .defer c) (hsel : ∀ (j : Nat) (o : Oper) cs b, ops[j]? = some o → o.op ≠ .select cs b)
    (hQ : ∀ c a w, Q (.panic c) (a.put oi.dst V) w → Q (.panic c) a w) :
    ∀ (f : Nat) (H : Nat → World → Prop) (listed : Array Bool) (a : Act) (w : World), Down ops listed → listed.size = ops.size →
      (∀ j oj, ops[j]? = some oj → j ≠ i → listed.getD j true = false → (∀ ed ∈ oj.after, Region.binds .any ed = true → ed.on ≠ i) → oi.apart ops oj = true) →
      i ∈ Region.ready .any ops listed → Yld P ops S oi V a → S w → (∀ j, H j w) →
      AnyG F P ops Q (upd H i S) f (listed.setIfInBounds i true) (a.put oi.dst V) w → AnyG F P ops Q H (f + 1) listed a w := by
  intro f
  induction f with
  | zero =>
    intro H listed a w _ _ _ hr hy hS hH G
    refine ⟨fun h => (by rw [h] at hr; cases hr), fun j hj => ?_⟩
    by_cases hji : j = i
    · subst hji
      exact hy.wpOp hF hi hnd hS ⟨fun i' _ => hH i', G⟩
    · have := ready_mono hj hji
      rw [G.1] at this
      cases this
  | succ f ih =>
    intro H listed a w hdn hsz hfree hr hy hS hH G
    refine ⟨fun h => (by rw [h] at hr; cases hr), fun j hj => ?_⟩
    by_cases hji : j = i
    · subst hji
      exact hy.wpOp hF hi hnd hS ⟨fun i' _ => hH i', AnyG.mono (fun _ _ h _ => h.1) G⟩
    · have h1 := G.2 j (ready_mono hj hji)
      obtain ⟨hjun, oj, hoj, hall⟩ := mem_ready.1 hj
      obtain ⟨hiun, oi', hoi', _⟩ := mem_ready.1 hr
      have hilt : i < listed.size := by
        rw [hsz]; exact (Array.getElem?_eq_some_iff.1 hi).1
      have hifalse : listed.getD i false = false := by
        simp [Array.getD, hilt] at hiun ⊢; exact hiun
      have hnot : ∀ ed ∈ oj.after, Region.binds .any ed = true → ed.on ≠ i := fun ed hed hb heq => by
        have := hall ed hed hb
        rw [heq, hifalse] at this
        cases this
      have hnd' : ¬ Dep ops j i := fun hd => by
        have := hdn.dep hd (fun o ho => by rw [hoj] at ho; cases ho; exact hall)
        rw [hifalse] at this
        cases this
      have h2 := op_put hF hoj (hfree j oj hoj hji hjun hnot) (hsel i oi · · hi) (hsel j oj · · hoj) hQ hy h1
      refine wpOpIn_mono (fun a' w' h3 => ?_) h2
      obtain ⟨hy', hH', G'⟩ := h3
      refine ⟨fun i' hd => (hH' i' hd).1, ih (drop ops j H) (listed.setIfInBounds j true) a' w' (hdn.set hoj hall) (by simpa using hsz) ?_ (ready_mono hr (Ne.symm hji)) hy' ((hH' i hnd').2 rfl) (fun i' hd => (hH' i' hd).1) ?_⟩
      · intro m om hom hmi hmun hmno
        have : m ≠ j := by
          rintro rfl
          have hjlt : m < listed.size := by rw [hsz]; exact (Array.getElem?_eq_some_iff.1 hom).1
          rw [getD_set_self hjlt] at hmun
          cases hmun
        rw [getD_set_ne true (Ne.symm this)] at hmun
        exact hfree m om hom hmi hmun hmno
      · rw [Array.setIfInBounds_comm _ _ hji]
        refine AnyG.mono (fun i' w'' h4 => ⟨fun hd => (h4 hd).1, fun he => ?_⟩) G'
        subst he
        exact (h4 hnd').2 rfl

end any
end Go.AX
