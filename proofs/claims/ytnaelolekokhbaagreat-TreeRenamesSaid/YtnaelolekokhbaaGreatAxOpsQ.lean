import Derived.Test.YtnaelolekokhbaaGreatAxOpsP
import Derived.MapKept
import Derived.Laws.Concat
namespace Go.AX
open Go.RowKit
variable {e : Env} {P : Program} {w0 : World} {E : Em} {s : St} {w : World} {a : Ac} {A : Act}

/-! ### Texts -/
theorem beq_dec (a b : Nat) : Nat.beq a b = decide (a = b) := by
  rw [Bool.eq_iff_iff]; simp [Nat.beq_eq]

theorem eqB_dec : ∀ (x y : List Nat), eqB x y = decide (x = y)
  | [], [] => by simp [eqB]
  | [], _ :: _ => by simp [eqB]
  | _ :: _, [] => by simp [eqB]
  | a :: x, b :: y => by
    simp only [eqB, beq_dec, eqB_dec x y]
    by_cases h : a = b <;> simp [h]

theorem ofNat_inj {a b : Nat} (ha : a < 256) (hb : b < 256) : UInt8.ofNat a = UInt8.ofNat b ↔ a = b := by
  constructor
  · intro h
    have := congrArg UInt8.toNat h
    simp [Nat.mod_eq_of_lt ha, Nat.mod_eq_of_lt hb] at this
    exact this
  · rintro rfl; rfl

theorem map_inj : ∀ {x y : List Nat}, isBytes x → isBytes y → (x.map UInt8.ofNat = y.map UInt8.ofNat ↔ x = y)
  | [], [], _, _ => by simp
  | [], _ :: _, _, _ => by simp
  | _ :: _, [], _, _ => by simp
  | a :: x, b :: y, hx, hy => by
    have ha := hx a (by simp)
    have hb := hy b (by simp)
    have ih := map_inj (x := x) (y := y) (fun c hc => hx c (by simp [hc])) (fun c hc => hy c (by simp [hc]))
    simp [ofNat_inj ha hb, ih]

theorem ltB_less : ∀ {x y : List Nat}, isBytes x → isBytes y → Op.bytesLess (x.map UInt8.ofNat) (y.map UInt8.ofNat) = ltB x y
  | [], [], _, _ => by simp [Op.bytesLess, ltB]
  | [], _ :: _, _, _ => by simp [Op.bytesLess, ltB]
  | _ :: _, [], _, _ => by simp [Op.bytesLess, ltB]
  | a :: x, b :: y, hx, hy => by
    have ha := hx a (by simp)
    have hb := hy b (by simp)
    have ih := ltB_less (x := x) (y := y) (fun c hc => hx c (by simp [hc])) (fun c hc => hy c (by simp [hc]))
    simp only [List.map_cons, Op.bytesLess, ltB, ih, beq_dec]
    have h1 : (UInt8.ofNat a < UInt8.ofNat b) ↔ a < b := by
      rw [UInt8.lt_iff_toNat_lt]; simp [Nat.mod_eq_of_lt ha, Nat.mod_eq_of_lt hb]
    have h2 : (UInt8.ofNat a == UInt8.ofNat b) = decide (a = b) := by
      rw [Bool.eq_iff_iff]; simp [ofNat_inj ha hb]
    rw [h2]
    have h3 : Nat.blt a b = decide (a < b) := by
      rw [Bool.eq_iff_iff]; simp [Nat.blt]; omega
    rw [h3]
    by_cases hl : a < b
    · simp [h1, hl]
    · by_cases he : a = b <;> simp [h1, hl, he]

theorem isBytes_append {x y : List Nat} (hx : isBytes x) (hy : isBytes y) : isBytes (x ++ y) := fun c hc => by
  simp at hc; rcases hc with h | h
  · exact hx c h
  · exact hy c h

theorem toList_mk (l : List UInt8) : (⟨l.toArray⟩ : ByteArray).toList = l := by
  rw [ByteArray.toList_eq]

theorem size_mk (l : List UInt8) : (⟨l.toArray⟩ : ByteArray).size = l.length := rfl

theorem append_mk (x y : List Nat) : (⟨(x.map UInt8.ofNat).toArray⟩ : ByteArray) ++ ⟨(y.map UInt8.ofNat).toArray⟩ = ⟨((x ++ y).map UInt8.ofNat).toArray⟩ := by
  ext1
  apply Array.ext'
  simp

theorem str_rel {x : List Nat} (h : isBytes x) : VRel E (.str x) (strV x) := by simp only [VRel]; exact ⟨h, trivial⟩

/-! ### Everyday arithmetic -/
theorem eqGuard_quiet {op : BinOp} {t : TypeId} {x y : Operand} {X Y : Value} (h : ¬ (X = .nilIface ∧ Y = .nilIface)) (h' : ∀ c d, ¬ (X = .agg c ∧ Y = .agg d)) (w : World) :
    (eqGuard op t x y X Y).run P w = .ok () w := by
  unfold eqGuard
  cases X with
  | nilIface => cases Y <;> first | exact absurd ⟨rfl, rfl⟩ h | (split <;> simp)
  | agg c => cases Y <;> first | exact absurd ⟨rfl, rfl⟩ (h' _ _) | (split <;> simp)
  | _ => split <;> simp

theorem binFast_sound {op : BinOp} {t : TypeId} {x y : AV} {v : AV} {X Y : Value} (hx : VRel E x X) (hy : VRel E y Y) (h : binFast op x y = some v) (w : World) (ox oy : Operand) :
    ∃ V, VRel E v V ∧ (do eqGuard op t ox oy X Y; binOp op t X Y : Sem Value).run P w = .ok V w := by
  unfold binFast at h
  split at h
  · rename_i k a k' b
    simp only [VRel] at hx hy
    subst hx hy
    have hq := eqGuard_quiet (P := P) (op := op) (t := t) (x := ox) (y := oy) (X := .int k a) (Y := .int k' b) (by simp) (by simp) w
    split at h
    · rename_i hk
      subst hk
      cases op <;> simp only [Option.some.injEq, reduceCtorEq] at h <;> subst h <;>
        exact ⟨_, raw_rel, by simp only [Sem.run_bind, hq, Result.andThen]; simp [binOp, Op.intArith, Op.intCmp]⟩
    · cases h
  · rename_i b c
    simp only [VRel] at hx hy
    obtain ⟨hb, rfl⟩ := hx
    obtain ⟨hc, rfl⟩ := hy
    have hq := eqGuard_quiet (P := P) (op := op) (t := t) (x := ox) (y := oy) (X := strV b) (Y := strV c) (by simp [strV]) (by simp [strV]) w
    have he : ((⟨(b.map UInt8.ofNat).toArray⟩ : ByteArray).toList == (⟨(c.map UInt8.ofNat).toArray⟩ : ByteArray).toList) = eqB b c := by
      rw [toList_mk, toList_mk, eqB_dec, Bool.eq_iff_iff]; simp [map_inj hb hc]
    have hl : Op.bytesLess (⟨(b.map UInt8.ofNat).toArray⟩ : ByteArray).toList (⟨(c.map UInt8.ofNat).toArray⟩ : ByteArray).toList = ltB b c := by
      rw [toList_mk, toList_mk, ltB_less hb hc]
    cases op <;> simp only [Option.some.injEq, reduceCtorEq] at h
    case add =>
      cases hn : Nat.ble (b.length + c.length) 1048576 with
      | false => simp [hn] at h
      | true =>
        simp only [hn, cond_true, Option.some.injEq] at h
        subst h
        have hle := Nat.le_of_ble_eq_true hn
        refine ⟨strV (b ++ c), str_rel (isBytes_append hb hc), ?_⟩
        simp only [Sem.run_bind, hq, Result.andThen]
        have hsum : ¬ ((((⟨(b.map UInt8.ofNat).toArray⟩ : ByteArray).size + (⟨(c.map UInt8.ofNat).toArray⟩ : ByteArray).size : Nat) : Int) > IntKind.i64.max) := by
          simp only [size_mk, List.length_map]
          have : (IntKind.i64.max : Int) = 9223372036854775807 := by decide
          rw [this]; omega
        simp only [binOp, strV, Op.stringOp, hsum, if_false, append_mk, Sem.run_pure]
    all_goals
      subst h
      refine ⟨_, raw_rel, ?_⟩
      simp only [Sem.run_bind, hq, Result.andThen]
      simp only [binOp, strV, Op.stringOp, he, hl, Sem.run_pure]
  · cases h


/-! ### Addresses against nil, and against each other -/
theorem equal_of {t : TypeId} {X Y : Value} {b : Bool} {w' : World} (h : ∀ n, (Op.equalIn (n + 1) t X Y).run P w = .ok b w') : (Op.equal t X Y).run P w = .ok b w' := h 9999

theorem eqA_sound {d : TypeDesc} {t : TypeId} (hd : P.underlying t = some d) {x y : AV} {X Y : Value} (hx : VRel E x X) (hy : VRel E y Y) {b : Bool} (h : eqA d x y = some b) (w : World) :
    (Op.equal t X Y).run P w = .ok b w ∧ (¬ (X = .nilIface ∧ Y = .nilIface)) ∧ (∀ c d, ¬ (X = .agg c ∧ Y = .agg d)) ∧ (∀ op, op = .eql → binOp op t X Y = do pure (.bool (← Op.equal t X Y))) ∧ (∀ op, op = .neq → binOp op t X Y = do pure (.bool (!(← Op.equal t X Y)))) := by
  unfold eqA at h
  split at h <;> simp only [Option.some.injEq, reduceCtorEq] at h <;> subst h <;> simp only [VRel] at hx hy
  · obtain ⟨p, _, rfl⟩ := hx; subst hy
    exact ⟨equal_of fun n => by simp [Op.equalIn, run_underlying hd], by simp, by simp, by rintro _ rfl; rfl, by rintro _ rfl; rfl⟩
  · obtain ⟨p, _, rfl⟩ := hy; subst hx
    exact ⟨equal_of fun n => by simp [Op.equalIn, run_underlying hd], by simp, by simp, by rintro _ rfl; rfl, by rintro _ rfl; rfl⟩
  · obtain ⟨p, _, rfl, _⟩ := hx; subst hy
    exact ⟨equal_of fun n => by simp [Op.equalIn, run_underlying hd], by simp, by simp, by rintro _ rfl; rfl, by rintro _ rfl; rfl⟩
  · obtain ⟨p, _, rfl⟩ := hx; subst hy
    exact ⟨equal_of fun n => by simp [Op.equalIn, run_underlying hd], by simp, by simp, by rintro _ rfl; rfl, by rintro _ rfl; rfl⟩
  · obtain ⟨p, _, rfl⟩ := hx; subst hy
    exact ⟨equal_of fun n => by simp [Op.equalIn, run_underlying hd], by simp, by simp, by rintro _ rfl; rfl, by rintro _ rfl; rfl⟩
  · obtain ⟨C, _, rfl⟩ := hx; subst hy
    exact ⟨equal_of fun n => by simp [Op.equalIn, run_underlying hd], by simp, by simp, by rintro _ rfl; rfl, by rintro _ rfl; rfl⟩
  · obtain ⟨U, _, rfl⟩ := hx; subst hy
    exact ⟨equal_of fun n => by simp [Op.equalIn, run_underlying hd], by simp, by simp, by rintro _ rfl; rfl, by rintro _ rfl; rfl⟩

theorem shape_of {b : Nat} {C : Array Value} {el : TypeId} {fz : Nat × Nat} (hb : w.heap[b]? = some (.cells C el fz)) : w.shape? b = some (el, C.size) := by
  simp [World.shape?, hb]

theorem eqP_sound (he : EnvOk e P) (h0 : ∃ w0 w1, Sim w0 E s w1) {d : TypeDesc} {t : TypeId} (hd : P.underlying t = some d) {x y : AV} {X Y : Value} (hx : VRel E x X) (hy : VRel E y Y) {b : Bool} {ids : List Nat} (h : eqP e s d x y = some (b, ids))
    (hr : ∀ id ∈ ids, Has E s w id) :
    (Op.equal t X Y).run P w = .ok b w ∧ (¬ (X = .nilIface ∧ Y = .nilIface)) ∧ (∀ c d, ¬ (X = .agg c ∧ Y = .agg d)) ∧ (∀ op, op = .eql → binOp op t X Y = do pure (.bool (← Op.equal t X Y))) ∧ (∀ op, op = .neq → binOp op t X Y = do pure (.bool (!(← Op.equal t X Y)))) := by
  unfold eqP at h
  split at h
  · rename_i el i o j q
    split at h
    · rename_i ei hei
      cases hz : Nat.beq ei.size 0 with
      | true => simp [hz] at h
      | false =>
        simp only [hz, cond_false] at h
        split at h
        · rename_i v1 ci _ v2 cj _ hci hcj
          simp only [Option.some.injEq, Prod.mk.injEq] at h
          obtain ⟨hb, rfl⟩ := h
          simp only [VRel] at hx hy
          obtain ⟨p, hp, rfl⟩ := hx
          obtain ⟨p', hp', rfl⟩ := hy
          refine ⟨?_, by simp, by simp, by rintro _ rfl; rfl, by rintro _ rfl; rfl⟩
          obtain ⟨inf, hinf, _, hsz, _, _⟩ := he.ty _ _ hei
          have hsz' : inf.size ≠ 0 := by rw [hsz]; intro h0; rw [h0] at hz; simp at hz
          obtain ⟨pi, oi, Oi, gi, ei', Hi, Ri⟩ := hr i (by simp)
          obtain ⟨pj, oj, Oj, gj, ej', Hj, Rj⟩ := hr j (by simp)
          rw [hp] at ei'; cases ei'
          rw [hp'] at ej'; cases ej'
          rw [getCells_some hci] at gi; cases gi
          rw [getCells_some hcj] at gj; cases gj
          refine equal_of fun n => ?_
          simp only [Op.equalIn, Sem.run_bind, run_underlying hd, Result.andThen, run_size hinf, hsz', ne_eq, not_false_eq_true, if_true]
          by_cases hij : i = j
          · subst hij
            rw [hp] at hp'; cases hp'
            simp only [beq_dec, decide_true, cond_true] at hb
            subst hb
            simp only [sameAddr, beq_self_eq_true, if_true, Sem.run_pure]
            congr 1
            rw [Bool.eq_iff_iff]; simp
          · obtain ⟨_, _, h0⟩ := h0
            have hne : p.1 ≠ p'.1 := fun hh => hij (h0.inj _ _ _ _ _ _ (getCells_some hci) (getCells_some hcj) hp hp' hh)
            simp only [beq_dec, hij, decide_false, cond_false] at hb
            subst hb
            simp only [ORel] at Ri Rj
            obtain ⟨Ci, fi, rfl, hCi, hfi⟩ := Ri
            obtain ⟨Cj, fj, rfl, hCj, hfj⟩ := Rj
            have hfi := hfi.2.1 rfl
            have hfj := hfj.2.1 rfl
            obtain ⟨_, hCi, _⟩ := hCi 0 v1 rfl
            obtain ⟨_, hCj, _⟩ := hCj 0 v2 rfl
            have hCi := (Array.getElem?_eq_some_iff.1 hCi).1
            have hCj := (Array.getElem?_eq_some_iff.1 hCj).1
            have si := shape_of Hi
            have sj := shape_of Hj
            have f1 : w.frozen? ⟨p.1, p.2.1 + o, none⟩ = false := frozen_of Hi (by omega)
            have f2 : w.frozen? ⟨p'.1, p'.2.1 + q, none⟩ = false := frozen_of Hj (by omega)
            have f3 : w.frozen? ⟨p.1, Ci.size, none⟩ = false := frozen_of Hi (by omega)
            have f4 : w.frozen? ⟨p'.1, Cj.size, none⟩ = false := frozen_of Hj (by omega)
            have hbne : (p.1 == p'.1) = false := by simpa using hne
            simp [sameAddr, hbne, f1, f2, f3, f4, noView, viewAt, mayBeOne, stringish, si, sj]
        · cases h
    · cases h
  · cases h

end Go.AX
