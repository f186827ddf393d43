import Derived.Test.YtnaelolekokhbaaGreatAxMem
import Derived.Orders
import Derived.ChangeKeysEq
namespace Go.AX
open Go.RowKit

structure EnvOk (e : Env) (P : Program) : Prop where
  prog : e.P = P
  ty : ∀ t ti, e.info t = some ti → ∃ i, P.info? t = some i ∧ P.underlying t = some ti.desc ∧ i.size = ti.size ∧ i.bytes = ti.bytes ∧ i.zero = ti.zero
  fn : ∀ f g, e.fn.get f = some g → P.funcs[f]? = some g

/-- The frame. -/
structure ARel (E : Em) (a : Ac) (A : Act) : Prop where
  tmps : TRel E a.t a.n A.tmps

variable {e : Env} {P : Program} {w0 : World} {E : Em} {s : St} {w : World} {a : Ac} {A : Act}

theorem ofVal1_rel (v : Value) : VRel E (ofVal1 v) v := by
  cases v with
  | string b =>
    simp only [ofVal1, VRel, isBytes, strV]
    refine ⟨fun c hc => ?_, ?_⟩
    · obtain ⟨x, _, rfl⟩ := List.mem_map.1 hc; exact x.toNat_lt
    · congr 1
      rcases b with ⟨d⟩
      congr 1
      have : (UInt8.ofNat ∘ UInt8.toNat) = id := funext fun x => by simp
      simp [this]
  | _ => simp [ofVal1, VRel]

theorem ofVal_rel (v : Value) : VRel E (ofVal v) v := by
  cases v with
  | string b => exact ofVal1_rel (.string b)
  | agg cs =>
    simp only [ofVal, VRel]
    exact ⟨cs.toList, by simpa using VRels.map (f := ofVal1) (g := fun v => v) (fun x => ofVal1_rel x) cs.toList, by simp⟩
  | _ => simp [ofVal, VRel]

theorem toVal1_rel {v : AV} {V U : Value} (h : VRel E v V) (ht : toVal1 v = some U) : V = U := by
  cases v <;> simp [toVal1] at ht
  · subst ht; simpa [VRel] using h
  · subst ht; simp only [VRel] at h; exact h.2

theorem toVals1_rel : ∀ {vs : List AV} {L M : List Value}, VRels E vs L → toVals1 vs = some M → L = M
  | [], L, M, h, ht => by simp [toVals1] at ht; subst ht; simpa [VRels] using h
  | v :: vs, L, M, h, ht => by
    simp only [VRels] at h
    obtain ⟨V, Vs, hv, hvs, rfl⟩ := h
    simp only [toVals1] at ht
    cases h1 : toVal1 v with
    | none => simp [h1] at ht
    | some x =>
      cases h2 : toVals1 vs with
      | none => simp [h1, h2] at ht
      | some l =>
        simp only [h1, h2, Option.some.injEq] at ht
        subst ht
        rw [toVal1_rel hv h1, toVals1_rel hvs h2]

theorem toVal_rel {v : AV} {V U : Value} (h : VRel E v V) (ht : toVal v = some U) : V = U := by
  cases v with
  | agg vs =>
    simp only [toVal] at ht
    cases h2 : toVals1 vs with
    | none => simp [h2] at ht
    | some l =>
      simp only [h2, Option.some.injEq] at ht
      subst ht
      simp only [VRel] at h
      obtain ⟨C, hc, rfl⟩ := h
      rw [toVals1_rel hc h2]
  | raw v => exact toVal1_rel h (by simpa [toVal, toVal1] using ht)
  | str b => exact toVal1_rel h (by simpa [toVal, toVal1] using ht)
  | _ => simp [toVal] at ht

theorem pureRun_run {α : Type} {p : Program} : ∀ {x : Sem α} {r : α}, pureRun p x = some r → ∀ w, x.run p w = .ok r w
  | .pure a, r, h, w => by simp [pureRun] at h; simp [Sem.run, h]
  | .program k, r, h, w => by simp only [pureRun] at h; simp only [Sem.run]; exact pureRun_run h w
  | .load .., _, h, _ => by simp [pureRun] at h
  | .store .., _, h, _ => by simp [pureRun] at h
  | .new .., _, h, _ => by simp [pureRun] at h
  | .shape .., _, h, _ => by simp [pureRun] at h
  | .freeze .., _, h, _ => by simp [pureRun] at h
  | .frozen .., _, h, _ => by simp [pureRun] at h
  | .getObj .., _, h, _ => by simp [pureRun] at h
  | .setObj .., _, h, _ => by simp [pureRun] at h
  | .choose .., _, h, _ => by simp [pureRun] at h
  | .sys .., _, h, _ => by simp [pureRun] at h
  | .mark .., _, h, _ => by simp [pureRun] at h
  | .halt .., _, h, _ => by simp [pureRun] at h

theorem raw_rel {v : Value} : VRel E (.raw v) v := by simp [VRel]
theorem bool_rel {b : Bool} : VRel E (boolA b) (.bool b) := by simp [boolA, VRel]
theorem int_rel {n : Int} : VRel E (intA n) (.int .i64 n) := by simp [intA, VRel]
theorem undef_rel : VRel E undefA undef := by simp [undefA, undef, VRel]

theorem eval_rel (h : ARel E a A) (x : Operand) : VRel E (a.eval x) (A.eval x) := by
  cases x with
  | tmp t =>
    simp only [Ac.eval, Act.eval]
    have := h.tmps.2 t
    cases hg : a.t.get t with
    | none => simp only [hg] at this; rw [this]; exact undef_rel
    | some v => simp only [hg] at this; obtain ⟨V, h1, h2⟩ := this; simpa [h1] using h2
  | const v => exact ofVal1_rel v
  | global g => simp [Ac.eval, Act.eval, VRel]
  | func f => simp only [Ac.eval, Act.eval, VRel]; exact ⟨[], VRels.nil, rfl⟩

theorem evals_rel (h : ARel E a A) (l : List Operand) : VRels E (l.map a.eval) (l.map A.eval) := VRels.map (eval_rel h) l


/-! ### What reads memory -/
/-- Block id lies in the world as memory has it. -/
def Has (E : Em) (s : St) (w : World) (id : Nat) : Prop := ∃ p o O, s.h.get id = some o ∧ E id = some p ∧ w.heap[p.1]? = some O ∧ ORel E p o O

theorem Sim.has (h : Sim w0 E s w) {id : Nat} {o : AO} (hg : s.h.get id = some o) : Has E s w id := by
  obtain ⟨p, O, hp, hO, hr, _⟩ := h.obj id o hg
  exact ⟨p, o, O, hg, hp, hO, hr⟩

theorem run_isAgg {t : TypeId} {d : TypeDesc} (h : P.underlying t = some d) (w : World) : (isAgg t).run P w = .ok (isAggD d) w := by
  simp only [isAgg, Sem.run_bind, run_underlying h, Result.andThen]
  cases d <;> rfl

theorem run_size {t : TypeId} {i : TypeInfo} (h : P.info? t = some i) (w : World) : (sizeOf t).run P w = .ok i.size w := by
  simp [sizeOf, typeInfo, h]

theorem run_zero {t : TypeId} {i : TypeInfo} {z : Value} (h : P.info? t = some i) (hz : i.zero = some z) (w : World) : (zeroValue t).run P w = .ok z w := by
  simp [zeroValue, typeInfo, h, hz]

theorem run_load' {b o : Nat} {V : Value} (h : w.cell? ⟨b, o, none⟩ = some V) : (load ⟨b, o, none⟩).run P w = .ok V w := by
  simp [load, Sem.run, h]

/-- A cut of a block's cells, in the world. -/
theorem cut_rel {p : Nat × Nat × Nat} {cs : List AV} {el : TypeId} {fz : Nat} {O : Obj} (hO : w.heap[p.1]? = some O) (hr : ORel E p (.cells cs el fz) O) {off n : Nat} {l : List AV} (h : cutL off n cs = some l) :
    ∃ L : List Value, VRels E l L ∧ L.length = n ∧ ∀ j V, L[j]? = some V → w.cell? ⟨p.1, p.2.1 + off + j, none⟩ = some V := by
  simp only [ORel] at hr
  obtain ⟨C, fz', rfl, hc, _⟩ := hr
  obtain ⟨hlen, hget⟩ := cutL_get h
  have key : ∀ (m : Nat) (l : List AV) (q : Nat), (∀ i, i < l.length → l[i]? = cs[q + i]?) → l.length = m →
      ∃ L : List Value, VRels E l L ∧ L.length = m ∧ ∀ j V, L[j]? = some V → w.cell? ⟨p.1, p.2.1 + q + j, none⟩ = some V := by
    intro m
    induction m with
    | zero =>
      intro l q _ hl
      have : l = [] := by simpa using hl
      subst this
      exact ⟨[], VRels.nil, rfl, fun j V hj => by simp at hj⟩
    | succ m ih =>
      intro l q hq hl
      match l, hl with
      | v :: l, hl =>
        obtain ⟨L, h1, h2, h3⟩ := ih l (q + 1) (fun i hi => by have := hq (i + 1) (by simpa using hi); simp at this; rw [this]; congr 1; omega) (by simpa using hl)
        have h0 := hq 0 (by simp)
        simp at h0
        obtain ⟨V, hV, hv⟩ := hc q v h0.symm
        refine ⟨V :: L, VRels.cons hv h1, by simp [h2], fun j U hj => ?_⟩
        cases j with
        | zero => simp at hj; subst hj; rw [cell_of hO]; simpa using hV
        | succ j => simp at hj; have := h3 j U hj; rw [show p.2.1 + q + (j + 1) = p.2.1 + (q + 1) + j from by omega]; exact this
  exact key n l off (fun i hi => hget i (by omega)) hlen

theorem load_sound (he : EnvOk e P) {t : TypeId} {x v : AV} {X : Value} (hx : VRel E x X) (h : loadA e s t x = some v) (hr : ∀ id ∈ idsOf x, Has E s w id) :
    ∃ V, VRel E v V ∧ (Instr.loadAt t X).run P w = .ok V w := by
  unfold loadA at h
  split at h
  · rename_i id off
    simp only [VRel] at hx
    obtain ⟨p, hp, rfl⟩ := hx
    obtain ⟨p', o, O, hg, hp', hO, hrel⟩ := hr id (by simp [idsOf])
    rw [hp] at hp'; cases hp'
    split at h
    · rename_i cs el fz ti hcs hti
      have hg' := getCells_some hcs
      rw [hg] at hg'; cases hg'
      obtain ⟨i, hi, hu, hsz, _, _⟩ := he.ty _ _ hti
      simp only [Instr.loadAt, Instr.sureAddr, loadVar, Sem.run_bind, Sem.run_pure, Result.andThen, run_isAgg hu]
      cases hag : isAggD ti.desc with
      | true =>
        simp only [hag, cond_true] at h
        split at h
        · rename_i l hl
          cases h
          obtain ⟨L, h1, h2, h3⟩ := cut_rel hO hrel hl
          refine ⟨.agg L.toArray, by simp only [VRel]; exact ⟨L, h1, rfl⟩, ?_⟩
          have hrun := run_loadCells' (P := P) (w := w) (b := p.1) (o := p.2.1 + off) L 0 #[] (fun j V hj => by simpa using h3 j V hj)
          simp only [if_true, Sem.run_bind, run_size hi, Result.andThen, loadCells, hsz, ← h2]
          rw [hrun]
          simp
        · cases h
      | false =>
        simp only [hag, cond_false] at h
        simp only [ORel] at hrel
        obtain ⟨C, fz', rfl, hc, _⟩ := hrel
        obtain ⟨V, hV, hv⟩ := hc off v h
        refine ⟨V, hv, ?_⟩
        simp only [Bool.false_eq_true, if_false]
        exact run_load' (by rw [cell_of hO]; exact hV)
    · cases h
  · cases h

end Go.AX
