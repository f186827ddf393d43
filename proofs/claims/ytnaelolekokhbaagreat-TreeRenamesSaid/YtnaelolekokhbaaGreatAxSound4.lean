import Derived.Test.YtnaelolekokhbaaGreatAxSound3
namespace Go.AX
open Go.RowKit
variable {e : Env} {P : Program} {pr : Prims} {r : Tasks} {w0 : World} {E : Em} {s : St} {w : World} {a : Ac} {A : Act}

theorem wanted_rel (hf : FRel E a A) {ops : Array Oper} {o : Oper} {b : Bool} (h : wantedA ops.toList a o = some b) : Region.wanted o (yielded ops A.tmps) = b := by
  unfold wantedA at h
  unfold Region.wanted
  split at h
  · rename_i hg
    rw [hg]
    simpa using h
  · rename_i j want hg
    rw [hg]
    simp only
    split at h
    · rename_i oj hoj
      have hoj' : ops[j]? = some oj := by simpa using hoj
      split at h
      · rename_i d hd
        have ht := hf.tmps.2 d
        split at h
        · rename_i b' hb
          rw [hb] at ht
          obtain ⟨V, h1, h2⟩ := ht
          simp only [VRel] at h2
          subst h2
          have hy : yielded ops A.tmps j = some b' := by
            unfold yielded
            rw [hoj']
            simp only [Option.bind_some, hd, h1]
          rw [hy]
          simp only [Option.some.injEq] at h
          rw [← h]
          cases b' <;> cases want <;> rfl
        · rename_i vs hb
          rw [hb] at ht
          obtain ⟨V, h1, h2⟩ := ht
          simp only [VRel] at h2
          subst h2
          have hy : yielded ops A.tmps j = none := by
            unfold yielded
            rw [hoj']
            simp only [Option.bind_some, hd, h1]
          rw [hy]
          simp only [Option.some.injEq] at h
          rw [← h]
          rfl
        · cases h
      · cases h
    · cases h

section reg
variable {RD : Option Nat} {rd : Option Nat} {Q : Exit → Act → World → Prop} {ops : Array Oper}

theorem evOps_sound (he : EnvOk e P) (hpr : PrimsOk P pr) (hr : Sound P r) : ∀ (l : List Oper) (i : Nat) (a : Ac) (s : St) (k : AE → Ac → St → Bool) (E : Em) (A : Act) (w : World), ops.toList.drop i = l → evOps e pr r rd ops.toList l a s k = true → RdRel E rd RD → FRel E a A → Sim w0 E s w → KOk w0 E k Q →
    wpOpsIn (FW RD) 0 P ops Q (List.range' i l.length) A w := by
  intro l
  induction l with
  | nil =>
    intro i a s k E A w _ h hrd hf hs hk
    exact hk E .normal a s .normal A w (Em.le_refl E) rfl hf hs h
  | cons o l ih =>
    intro i a s k E A w hl h hrd hf hs hk
    have hi : ops[i]? = some o := by
      have : (ops.toList.drop i)[0]? = some o := by rw [hl]; rfl
      simpa using this
    have hl' : ops.toList.drop (i + 1) = l := by
      have : (ops.toList.drop i).drop 1 = l := by rw [hl]; rfl
      simpa using this
    rw [List.length_cons, List.range'_succ, wpOpsIn_cons]
    unfold wpOpIn
    simp only [hi]
    simp only [evOps] at h
    have nx : NOk w0 E (fun a' s' => evOps e pr r rd ops.toList l a' s' k) (wpOpsIn (FW RD) 0 P ops Q (List.range' (i + 1) l.length)) :=
      fun E' a' s' A' w' hle hf' hs' hk' => ih (i + 1) a' s' k E' A' w' hl' hk' (hrd.mono hle) hf' hs' (hk.mono hle)
    split at h
    · rename_i hw
      simp only [wanted_rel hf hw, if_true]
      exact evOp_sound he hpr hr h hrd hf hs nx (fun E' v s' V w' hle hv hs' hk' => hk E' (.panic v) a s' _ A w' hle ⟨V, hv, rfl⟩ (hf.mono hle).weak hs' hk')
    · rename_i hw
      simp only [wanted_rel hf hw, Bool.false_eq_true, if_false]
      exact ⟨fun f _ => trivial, putK_ok h hf undef_rel hs nx⟩
    · cases h

/-! ### Drawn regions -/
def Off (ops : Array Oper) (A A' : Act) : Prop := A'.tmps.size = A.tmps.size ∧ A'.defers = A.defers ∧ ∀ i, (∀ o ∈ ops.toList, o.dst ≠ some i) → A'.tmps[i]? = A.tmps[i]?

def offQ (ops : Array Oper) (Q : Exit → Act → World → Prop) : Exit → Act → World → Prop
  | .panic c, A, w => ∀ A', Off ops A A' → Q (.panic c) A' w
  | X, A, w => Q X A w

theorem offQ_le {X : Exit} (h : offQ ops Q X A w) : Q X A w := by
  cases X with
  | panic c => exact h A ⟨rfl, rfl, fun _ _ => rfl⟩
  | _ => exact h

theorem offQ_put {i : Nat} {o : Oper} {V : Value} (hi : ops[i]? = some o) {c : List PanicEntry} (h : offQ ops Q (.panic c) (A.put o.dst V) w) : offQ ops Q (.panic c) A w := by
  intro A' hA'
  refine h A' ⟨?_, ?_, fun j hj => ?_⟩
  · rw [hA'.1]; unfold Act.put; split <;> simp
  · rw [hA'.2.1]; unfold Act.put; split <;> rfl
  · rw [hA'.2.2 j hj]
    unfold Act.put
    split
    · rename_i d hd
      have : d ≠ j := fun e => hj o (by have := Array.mem_of_getElem? hi; simpa using this) (by rw [hd, e])
      rw [Array.getElem?_setIfInBounds_ne this]
    · rfl

theorem delAll_get : ∀ {l : List Oper} {t : Tr AV} {i : Nat} {v : AV}, (delAll t l).get i = some v → t.get i = some v ∧ ∀ o ∈ l, o.dst ≠ some i
  | [], t, i, v, h => ⟨h, fun _ h => by cases h⟩
  | o :: l, t, i, v, h => by
    unfold delAll at h
    split at h
    · rename_i d hd
      obtain ⟨h1, h2⟩ := delAll_get h
      rw [Tr.get_del] at h1
      by_cases hi : i = d
      · rw [if_pos hi] at h1; cases h1
      · rw [if_neg hi] at h1
        refine ⟨h1, fun o' ho' => ?_⟩
        rcases List.mem_cons.1 ho' with rfl | ho'
        · rw [hd]; exact fun e => hi (Option.some.inj e).symm
        · exact h2 o' ho'
    · rename_i hd
      obtain ⟨h1, h2⟩ := delAll_get h
      refine ⟨h1, fun o' ho' => ?_⟩
      rcases List.mem_cons.1 ho' with rfl | ho'
      · rw [hd]; exact fun e => by cases e
      · exact h2 o' ho'

theorem off_weak (hf : FRel E a A) {A' : Act} (h : Off ops A A') : WRel E { a with t := delAll a.t ops.toList } A' := by
  refine ⟨h.1.trans hf.tmps.1, fun i v hv => ?_, by rw [h.2.1]; exact hf.defs⟩
  obtain ⟨h1, h2⟩ := delAll_get hv
  rw [h.2.2 i h2]
  exact hf.weak.tmps i v h1

/-! What is held. -/
theorem MRels.back {E E' : Em} (hE : E.le E') : ∀ {es : List (AV × AV)} {L L' : List MapEntry}, MRels E es L → MRels E' es L' → MRels E es L'
  | [], _, _, _, h' => h'
  | (k, v) :: es, L, L', h, h' => by
    simp only [MRels] at h h' ⊢
    obtain ⟨x, y, h1, h2, h3, rfl⟩ := h
    obtain ⟨x', y', h1', h2', h3', rfl⟩ := h'
    refine ⟨x', y', ?_, ?_, MRels.back hE h3 h3', rfl⟩
    · rw [VRel.same hE _ _ _ h1 h1']; exact h1
    · rw [VRel.same hE _ _ _ h2 h2']; exact h2

theorem TRel.back {E E' : Em} (hE : E.le E') {t : Tr AV} {n : Nat} {T T' : Array Value} (h : TRel E t n T) (h' : TRel E' t n T') : TRel E t n T' := by
  refine ⟨h'.1, fun i => ?_⟩
  have h1 := h.2 i
  have h2 := h'.2 i
  cases hg : t.get i with
  | none => simpa [hg] using h2
  | some v =>
    simp only [hg] at h1 h2 ⊢
    obtain ⟨V, _, h1⟩ := h1
    obtain ⟨V', h2, h2'⟩ := h2
    exact ⟨V', h2, by rw [VRel.same hE _ _ _ h1 h2']; exact h1⟩

theorem ORel.back {E E' : Em} (hE : E.le E') {p : Nat × Nat × Nat} {o : AO} {O O' : Obj} (h : ORel E p o O) (h' : ORel E' p o O') : ORel E p o O' := by
  cases o with
  | cells cs el frz =>
    simp only [ORel] at h h' ⊢
    obtain ⟨C, fz, rfl, hc, hf⟩ := h
    obtain ⟨C', fz', rfl, hc', hf'⟩ := h'
    refine ⟨C', fz', rfl, fun i v hv => ?_, hf'⟩
    obtain ⟨V, _, h2⟩ := hc i v hv
    obtain ⟨V', h1', h2'⟩ := hc' i v hv
    exact ⟨V', h1', by rw [VRel.same hE _ _ _ h2 h2']; exact h2⟩
  | map es =>
    simp only [ORel] at h h' ⊢
    obtain ⟨en, ck, rfl, hm, _⟩ := h
    obtain ⟨en', ck', rfl, hm', hB'⟩ := h'
    exact ⟨en', ck', rfl, hm.back hE hm', hB'⟩
  | loop st pend fn t n ps as b d =>
    simp only [ORel] at h h' ⊢
    obtain ⟨L, pd, h1, h2, h3, h4, h5, h6, h7, h8, h9⟩ := h
    obtain ⟨L', pd', h1', h2', h3', h4', h5', h6', h7', h8', h9'⟩ := h'
    rw [hE _ _ h8] at h8'
    cases h8'
    exact ⟨L', pd, h1', h2', h3', h4.back hE h4', h5', h6', h7', h8, h9'⟩
  | dfr taken => simpa [ORel] using h'
  | siter s pos left => simpa [ORel] using h'

def HInv (H : Nat → World → Prop) (E : Em) (s : St) (held : List (Nat × List Nat)) : Prop := ∀ i w, (∀ ids, (i, ids) ∈ held → ∀ id ∈ ids, Has E s w id) → H i w
def HCur (s : St) (held : List (Nat × List Nat)) : Prop := ∀ i ids, (i, ids) ∈ held → ∀ id ∈ ids, ∃ o, s.h.get id = some o

theorem HInv.now {H : Nat → World → Prop} {held : List (Nat × List Nat)} (h : HInv H E s held) (hc : HCur s held) (hs : Sim w0 E s w) (i : Nat) : H i w :=
  h i w fun ids hi id hid => let ⟨_, ho⟩ := hc i ids hi id hid; hs.has ho

theorem heldOk_spec {s s' : St} : ∀ {ids : List Nat}, heldOk s s' ids = true → ∀ id ∈ ids, ∃ o, s.h.get id = some o ∧ s'.h.get id = some o
  | [], _, _, h => by cases h
  | i :: l, h, id, hid => by
    unfold heldOk at h
    split at h
    · rename_i o o' ho ho'
      cases hb : beqO o o' with
      | false => rw [hb] at h; cases h
      | true =>
        rw [hb] at h
        rcases List.mem_cons.1 hid with rfl | hid
        · exact ⟨o, ho, by rw [ho', ← beqO_eq hb]⟩
        · exact heldOk_spec h id hid
    · cases h

theorem still_spec {ops : Array Oper} {j : Nat} {s s' : St} : ∀ {held : List (Nat × List Nat)}, stillOk ops j s s' held = true → ∀ i ids, (i, ids) ∈ held → depB ops 8 j i = true ∨ ((i, ids) ∈ letGo ops j held ∧ heldOk s s' ids = true)
  | [], _, _, _, h => by cases h
  | (i', ids') :: l, h, i, ids, hi => by
    unfold stillOk at h
    cases hb : (depB ops 8 j i' || heldOk s s' ids') with
    | false => rw [hb] at h; cases h
    | true =>
      rw [hb] at h
      simp only [cond_true] at h
      unfold letGo
      rcases List.mem_cons.1 hi with heq | hi
      · simp only [Prod.mk.injEq] at heq
        obtain ⟨rfl, rfl⟩ := heq
        cases hd : depB ops 8 j i with
        | true => exact .inl rfl
        | false => rw [hd] at hb; exact .inr ⟨by simp, by simpa using hb⟩
      · rcases still_spec h i ids hi with h1 | ⟨h1, h2⟩
        · exact .inl h1
        · refine .inr ⟨?_, h2⟩
          cases depB ops 8 j i' with
          | true => exact h1
          | false => exact List.mem_cons_of_mem _ h1

theorem letGo_mem {ops : Array Oper} {j : Nat} : ∀ {held : List (Nat × List Nat)} {x : Nat × List Nat}, x ∈ letGo ops j held → x ∈ held ∧ depB ops 8 j x.1 = false
  | [], _, h => by cases h
  | (i', ids') :: l, x, h => by
    unfold letGo at h
    cases hd : depB ops 8 j i' with
    | true => rw [hd] at h; have := letGo_mem (held := l) h; exact ⟨List.mem_cons_of_mem _ this.1, this.2⟩
    | false =>
      rw [hd] at h
      rcases List.mem_cons.1 h with rfl | h
      · exact ⟨by simp, hd⟩
      · have := letGo_mem h; exact ⟨List.mem_cons_of_mem _ this.1, this.2⟩

theorem hinv_step {E' : Em} {s' : St} {H : Nat → World → Prop} {held : List (Nat × List Nat)} {j : Nat} (hs : Sim w0 E s w) (hE : E.le E') (h : stillOk ops j s s' held = true) (hi : HInv H E s held) :
    HInv (drop ops j H) E' s' (letGo ops j held) ∧ HCur s' (letGo ops j held) := by
  constructor
  · intro i w1 h1 hnd
    refine hi i w1 fun ids hids id hid => ?_
    rcases still_spec h i ids hids with hd | ⟨hl, hok⟩
    · exact absurd (depB_dep hd) hnd
    · obtain ⟨o, ho, ho'⟩ := heldOk_spec hok id hid
      obtain ⟨p', o', O', g1, g2, g3, g4⟩ := h1 ids hl id hid
      rw [ho'] at g1; cases g1
      obtain ⟨p, O, hp, _, hr, _⟩ := hs.obj _ _ ho
      rw [hE _ _ hp] at g2
      simp only [Option.some.injEq] at g2
      subst g2
      exact ⟨p, o, O', ho, hp, g3, hr.back hE g4⟩
  · intro i ids hids id hid
    obtain ⟨hm, hd⟩ := letGo_mem hids
    rcases still_spec h i ids hm with hd' | ⟨_, hok⟩
    · rw [hd] at hd'; cases hd'
    · obtain ⟨o, _, ho'⟩ := heldOk_spec hok id hid
      exact ⟨o, ho'⟩

theorem pickTake_spec {listed : Array Bool} : ∀ {l : List Nat} {i : Nat} {o : Oper}, pickTake e ops listed l = some (i, o) → i ∈ l ∧ ops[i]? = some o ∧ passiveA e o.op = true ∧ Region.free .any ops listed i = true
  | [], _, _, h => by cases h
  | j :: l, i, o, h => by
    unfold pickTake at h
    split at h
    · rename_i oj hoj
      cases hb : (passiveA e oj.op && Region.free .any ops listed j) with
      | false => rw [hb] at h; have := pickTake_spec (l := l) h; exact ⟨List.mem_cons_of_mem _ this.1, this.2⟩
      | true =>
        rw [hb] at h
        simp only [cond_true, Option.some.injEq, Prod.mk.injEq] at h
        obtain ⟨rfl, rfl⟩ := h
        rw [Bool.and_eq_true] at hb
        exact ⟨by simp, hoj, hb.1, hb.2⟩
    · have := pickTake_spec h; exact ⟨List.mem_cons_of_mem _ this.1, this.2⟩

theorem passive_nd {o : Oper} (h : passiveA e o.op = true) (c : Call) : o.op ≠ .defer c := by
  intro hc; rw [hc] at h; simp [passiveA] at h

theorem noSel_spec : ∀ {l : List Oper}, noSel l = true → ∀ o ∈ l, ∀ cs b, o.op ≠ .select cs b
  | [], _, _, h => by cases h
  | x :: l, h, o, ho => by
    unfold noSel at h
    split at h
    · cases h
    · rename_i hx
      rcases List.mem_cons.1 ho with rfl | ho
      · exact fun cs b hc => hx _ _ hc
      · exact noSel_spec h o ho

theorem putK_some {dst : Option Tmp} {v : AV} {k : Ac → St → Bool} (h : putK a dst v s k = true) : ∃ a', a.put dst v = some a' ∧ k a' s = true := by
  unfold putK at h
  split at h
  · rename_i a' ha'; exact ⟨a', ha', h⟩
  · cases h

theorem evAny_sound (he : EnvOk e P) (hpr : PrimsOk P pr) (hr : Sound P r) (hsel : noSel ops.toList = true) (hQ : ∀ (i : Nat) (o : Oper) (V : Value), ops[i]? = some o → ∀ c a w, Q (.panic c) (a.put o.dst V) w → Q (.panic c) a w) :
    ∀ (f : Nat) (listed : Array Bool) (held : List (Nat × List Nat)) (a : Ac) (s : St) (k : Ac → St → Bool) (kp : AV → Ac → St → Bool) (E : Em) (A : Act) (w : World) (H : Nat → World → Prop), evAny e pr r rd ops f listed held a s k kp = true → RdRel E rd RD → FRel E a A → Sim w0 E s w →
      NOk w0 E k (Q .normal) → (∀ E' v V a' A' s' w', E.le E' → VRel E' v V → FRel E' a' A' → Sim w0 E' s' w' → kp v a' s' = true → Q (.panic [{ v := V, recovered := false }]) A' w') →
      HInv H E s held → HCur s held → Down ops listed → listed.size = ops.size → AnyG (FW RD) P ops Q H f listed A w := by
  have hsel' : ∀ (j : Nat) (o : Oper) cs b, ops[j]? = some o → o.op ≠ .select cs b := fun j o cs b ho => noSel_spec hsel o (by have := Array.mem_of_getElem? ho; simpa using this) cs b
  intro f
  induction f with
  | zero =>
    intro listed held a s k kp E A w H h hrd hf hs hk hkp hi hc hdn hsz
    simp only [evAny] at h
    split at h
    · rename_i hnil
      exact ⟨hnil, hk E a s A w (Em.le_refl E) hf hs h⟩
    · cases h
  | succ f ih =>
    intro listed held a s k kp E A w H h hrd hf hs hk hkp hi hc hdn hsz
    simp only [evAny] at h
    split at h
    · rename_i hnil
      exact ⟨fun _ => hk E a s A w (Em.le_refl E) hf hs h, fun j hj => by rw [hnil] at hj; cases hj⟩
    · rename_i i0 rs hready
      split at h
      · rename_i i o hpick
        obtain ⟨hmem, hio, hpas, hfree⟩ := pickTake_spec hpick
        rw [← hready] at hmem
        have hdn' : Down ops (listed.setIfInBounds i true) := by
          obtain ⟨_, o', ho', hall⟩ := mem_ready.1 hmem
          exact hdn.set ho' hall
        split at h
        · rename_i hw
          split at h
          · rename_i v ids hp
            cases hin : idsIn s ids with
            | false => rw [hin] at h; cases h
            | true =>
              rw [hin] at h
              simp only [cond_true] at h
              have hS : ∀ id ∈ ids, Has E s w id := idsIn_has hin hs
              obtain ⟨V, hv, hrun⟩ := stepP_sound he ⟨w0, w, hs⟩ hf.toARel hp hS
              have hy : Yld P ops (fun w => ∀ id ∈ ids, Has E s w id) o V A := .inl ⟨wanted_rel hf hw, fun w1 h1 => by
                obtain ⟨V1, hv1, hrun1⟩ := stepP_sound he ⟨w0, w, hs⟩ hf.toARel hp h1
                rw [hrun1, VRel.same (Em.le_refl E) _ _ _ hv hv1]⟩
              refine any_take (fw_ok RD) hio (passive_nd hpas) hsel' (hQ i o V hio) f H listed A w hdn hsz (Region.free_spec hio hfree) hmem hy hS (hi.now hc hs) ?_
              obtain ⟨a', ha', h⟩ := putK_some h
              have hle := Em.le_refl E
              cases ids with
              | nil => exact ih _ held a' s k kp E _ w _ h hrd (hf.put hv ha') hs hk hkp (fun i' w1 h1 => ⟨hi i' w1 h1, fun _ id hid => by cases hid⟩) hc hdn' (by simpa using hsz)
              | cons id0 ids' =>
                refine ih _ ((i, id0 :: ids') :: held) a' s k kp E _ w _ h hrd (hf.put hv ha') hs hk hkp (fun i' w1 h1 => ⟨hi i' w1 fun ids2 h2 => h1 ids2 (List.mem_cons_of_mem _ h2), fun heq => ?_⟩) ?_ hdn' (by simpa using hsz)
                · subst heq; exact h1 _ (by simp)
                · intro i' ids2 hm id hid
                  rcases List.mem_cons.1 hm with heq | hm
                  · simp only [Prod.mk.injEq] at heq
                    obtain ⟨rfl, rfl⟩ := heq
                    obtain ⟨_, o2, _, ho2, _⟩ := hS id hid
                    exact ⟨o2, ho2⟩
                  · exact hc i' ids2 hm id hid
          · cases h
        · rename_i hw
          obtain ⟨a', ha', h⟩ := putK_some h
          have hy : Yld P ops (fun _ => True) o undef A := .inr ⟨wanted_rel hf hw, rfl⟩
          refine any_take (fw_ok RD) hio (passive_nd hpas) hsel' (hQ i o undef hio) f H listed A w hdn hsz (Region.free_spec hio hfree) hmem hy trivial (hi.now hc hs) ?_
          exact ih _ held a' s k kp E _ w _ h hrd (hf.put undef_rel ha') hs hk hkp (fun i' w1 h1 => ⟨hi i' w1 h1, fun _ => trivial⟩) hc hdn' (by simpa using hsz)
        · cases h
      · refine ⟨fun h0 => (by rw [h0] at hready; cases hready), fun j hj => ?_⟩
        have hj' := hj
        rw [hready] at hj'
        have h := List.all_eq_true.1 h j hj'
        obtain ⟨_, oj, hoj, hall⟩ := mem_ready.1 hj
        have hdn' : Down ops (listed.setIfInBounds j true) := hdn.set hoj hall
        unfold wpOpIn
        simp only [hoj] at h ⊢
        split at h
        · rename_i hw
          simp only [wanted_rel hf hw, if_true]
          refine evOp_sound he hpr hr h hrd hf hs ?_ (fun E' v s' V w' hle hv hs' hk' => hkp E' v V a A s' w' hle hv (hf.mono hle) hs' hk')
          intro E' a' s' A' w' hle hf' hs' hk'
          dsimp only at hk'
          cases hst : stillOk ops j s s' held with
          | false => rw [hst] at hk'; cases hk'
          | true =>
            rw [hst] at hk'
            obtain ⟨hi', hc'⟩ := hinv_step hs hle hst hi
            exact ⟨hi'.now hc' hs', ih _ _ a' s' k kp E' A' w' _ hk' (hrd.mono hle) hf' hs' (hk.mono hle) (fun E'' v V a2 A2 s2 w2 hle2 => hkp E'' v V a2 A2 s2 w2 (Em.le_trans hle hle2)) hi' hc' hdn' (by simpa using hsz)⟩
        · rename_i hw
          simp only [wanted_rel hf hw, Bool.false_eq_true, if_false]
          obtain ⟨a', ha', h⟩ := putK_some h
          exact ⟨fun f _ => trivial, fun i' _ => hi.now hc hs i', ih _ held a' s k kp E _ w _ h hrd (hf.put undef_rel ha') hs hk hkp (fun i' w1 h1 _ => hi i' w1 h1) hc hdn' (by simpa using hsz)⟩
        · cases h

theorem any_region (he : EnvOk e P) (hpr : PrimsOk P pr) (hr : Sound P r) (hm : P.follows .mixedOrders = true) (hsel : noSel ops.toList = true) {id : Nat} {k : AE → Ac → St → Bool}
    (h : evAny e pr r rd ops ops.size (Array.replicate ops.size false) [] a s (fun a' s' => k .normal a' s') (fun v a' s' => k (.panic v) { a' with t := delAll a'.t ops.toList } s') = true)
    (hrd : RdRel E rd RD) (hf : FRel E a A) (hs : Sim w0 E s w) (hk : KOk w0 E k Q) : (Code.region id ops true).wpIn (FW RD) 0 P Q A w := by
  refine wpIn_mono (Q := offQ ops Q) (wpIn_region_any hm (AnyG.any (H := fun _ _ => True) ?_)) (fun X A w h => offQ_le h)
  refine evAny_sound he hpr hr hsel (fun i o V hi c a w h => offQ_put hi h) _ _ _ a s _ _ E A _ _ h hrd hf hs.drew ?_ ?_ (fun _ _ _ => trivial) (fun _ _ h => by cases h) ?_ (by simp)
  · intro E' a' s' A' w' hle hf' hs' hk'
    exact hk E' .normal a' s' .normal A' w' hle rfl hf' hs' hk'
  · intro E' v V a' A' s' w' hle hv hf' hs' hk' A2 hA2
    exact hk E' (.panic v) _ s' _ A2 w' hle ⟨V, hv, rfl⟩ (off_weak hf' hA2) hs' hk'
  · intro j o _ hl
    simp [Array.getD] at hl
end reg
end Go.AX
