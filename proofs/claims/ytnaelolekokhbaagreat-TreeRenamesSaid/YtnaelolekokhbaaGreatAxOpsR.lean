import Derived.Test.YtnaelolekokhbaaGreatAxOpsQ
namespace Go.AX
open Go.RowKit
variable {e : Env} {P : Program} {w0 : World} {E : Em} {s : St} {w : World} {a : Ac} {A : Act}

theorem VRels.drop {E : Em} : ∀ {n : Nat} {vs : List AV} {L : List Value}, VRels E vs L → VRels E (vs.drop n) (L.drop n)
  | 0, vs, L, h => by simpa using h
  | n + 1, [], L, h => by simp only [VRels] at h; subst h; simpa using VRels.nil
  | n + 1, v :: vs, L, h => by
    simp only [VRels] at h
    obtain ⟨V, Vs, _, hvs, rfl⟩ := h
    simpa using VRels.drop (n := n) hvs

theorem VRels.take {E : Em} : ∀ {n : Nat} {vs : List AV} {L : List Value}, VRels E vs L → VRels E (vs.take n) (L.take n)
  | 0, vs, L, _ => by simpa using VRels.nil
  | n + 1, [], L, h => by simp only [VRels] at h; subst h; simpa using VRels.nil
  | n + 1, v :: vs, L, h => by
    simp only [VRels] at h
    obtain ⟨V, Vs, hv, hvs, rfl⟩ := h
    simpa using VRels.cons hv (VRels.take (n := n) hvs)

theorem part_sound (he : EnvOk e P) {t : TypeId} {cs : List AV} {C : List Value} (hc : VRels E cs C) {off : Nat} {v : AV} (h : partA e t cs off = some v) (w : World) :
    ∃ V, VRel E v V ∧ (part t C.toArray off).run P w = .ok V w := by
  unfold partA at h
  split at h
  · rename_i ti hti
    obtain ⟨i, hi, hu, hsz, _, _⟩ := he.ty _ _ hti
    simp only [part, Sem.run_bind, run_isAgg hu, Result.andThen]
    cases hag : isAggD ti.desc with
    | true =>
      simp only [hag, cond_true] at h
      split at h
      · rename_i l hl
        cases h
        obtain ⟨rfl, hle⟩ := cutL_some hl
        refine ⟨.agg ((C.drop off).take ti.size).toArray, by simp only [VRel]; exact ⟨_, hc.drop.take, rfl⟩, ?_⟩
        simp only [if_true, Sem.run_bind, run_size hi, Result.andThen, Sem.run_pure, hsz]
        congr 2
        simp [List.extract_eq_take_drop]
      · cases h
    | false =>
      simp only [hag, cond_false] at h
      obtain ⟨V, hV, hv⟩ := hc.get h
      refine ⟨V, hv, ?_⟩
      simp [hV]
  · cases h

theorem fields_get {d : TypeDesc} {f : Nat} {fd : Field} (h : (fieldsOf d)[f]? = some fd) : ∃ fs : Array Field, d = .struct fs ∧ fs[f]? = some fd := by
  cases d <;> simp [fieldsOf] at h
  exact ⟨_, rfl, h⟩

theorem fieldAddr_sound (he : EnvOk e P) {t : TypeId} {x v : AV} {X : Value} (hx : VRel E x X) {f : Nat} (h : fieldAddrA e t x f = some v) (w : World) :
    ∃ V, VRel E v V ∧ (Instr.fieldAt t X f).run P w = .ok V w := by
  unfold fieldAddrA at h
  split at h
  · rename_i ti id off hti
    split at h
    · rename_i fd hfd
      split at h
      · rename_i fi hfi
        cases hz : Nat.beq fi.size 0 with
        | true => simp [hz] at h
        | false =>
          simp only [hz, cond_false, Option.some.injEq] at h
          subst h
          obtain ⟨i, hi, hu, hsz, _, _⟩ := he.ty _ _ hti
          obtain ⟨j, hj, _, hsz', _, _⟩ := he.ty _ _ hfi
          obtain ⟨fs, hd, hf⟩ := fields_get hfd
          rw [hd] at hu
          simp only [VRel] at hx
          obtain ⟨p, hp, rfl⟩ := hx
          have hne : j.size ≠ 0 := by rw [hsz']; intro h0; rw [h0] at hz; simp at hz
          refine ⟨.pointer (some ⟨p.1, p.2.1 + (off + fd.offset), none⟩), by simp only [VRel]; exact ⟨p, hp, rfl⟩, ?_⟩
          simp [Instr.fieldAt, run_underlying hu, hf, Instr.sureAddr, fieldPlace, run_size hj, hne, Addr.add_none, Nat.add_assoc]
      · cases h
    · cases h
  · cases h

theorem field_sound (he : EnvOk e P) {t : TypeId} {x v : AV} {X : Value} (hx : VRel E x X) {f : Nat} (h : fieldA e t x f = some v) (w : World) :
    ∃ V, VRel E v V ∧ (Instr.field t X f).run P w = .ok V w := by
  unfold fieldA at h
  split at h
  · rename_i ti cs hti
    split at h
    · rename_i fd hfd
      obtain ⟨i, hi, hu, _, _, _⟩ := he.ty _ _ hti
      obtain ⟨fs, hd, hf⟩ := fields_get hfd
      rw [hd] at hu
      simp only [VRel] at hx
      obtain ⟨C, hc, rfl⟩ := hx
      obtain ⟨V, hv, hr⟩ := part_sound he hc h w
      exact ⟨V, hv, by simp [Instr.field, run_underlying hu, hf, asAgg, hr]⟩
    · cases h
  · cases h

theorem natOf_rel {x : AV} {n : Nat} {X : Value} (hx : VRel E x X) (h : natOf x = some n) : ∃ k, X = .int k n := by
  unfold natOf at h
  split at h
  · rename_i k m
    simp at h; subst h
    simp only [VRel] at hx
    exact ⟨k, hx⟩
  · cases h

theorem blt_iff {a b : Nat} : Nat.blt a b = true ↔ a < b := by simp [Nat.blt]; omega

theorem indexAddr_sound (he : EnvOk e P) {t : TypeId} {x i v : AV} {X I : Value} (hx : VRel E x X) (hi : VRel E i I) (h : indexAddrA e t x i = some v) (w : World) :
    ∃ V, VRel E v V ∧ (Instr.indexAt t X I).run P w = .ok V w := by
  unfold indexAddrA at h
  split at h
  · rename_i ti n hti hn
    obtain ⟨k, rfl⟩ := natOf_rel hi hn
    obtain ⟨inf, hinf, hu, _, _, _⟩ := he.ty _ _ hti
    split at h
    · rename_i len el id off hd
      split at h
      · rename_i eli heli
        cases hb : Nat.blt n len with
        | false => simp [hb] at h
        | true =>
          simp only [hb, cond_true, Option.some.injEq] at h
          subst h
          have hlt := blt_iff.1 hb
          obtain ⟨j, hj, _, hsz, _, _⟩ := he.ty _ _ heli
          rw [hd] at hu
          simp only [VRel] at hx
          obtain ⟨p, hp, rfl⟩ := hx
          refine ⟨.pointer (some ⟨p.1, p.2.1 + (off + n * eli.size), none⟩), by simp only [VRel]; exact ⟨p, hp, rfl⟩, ?_⟩
          have hle : (0 : Int) ≤ n ∧ (n : Int) < len := by omega
          simp [Instr.indexAt, asIntOf, run_underlying hu, Instr.sureAddr, hlt, run_size hj, Addr.add_none, hsz, Nat.add_assoc]
      · cases h
    · rename_i el id off len ci cap ex hd
      split at h
      · rename_i eli heli
        cases hb : Nat.blt n len with
        | false => simp [hb] at h
        | true =>
          simp only [hb, cond_true, Option.some.injEq] at h
          subst h
          have hlt := blt_iff.1 hb
          obtain ⟨j, hj, _, hsz, _, _⟩ := he.ty _ _ heli
          rw [hd] at hu
          simp only [VRel] at hx
          obtain ⟨p, hp, rfl, _⟩ := hx
          refine ⟨.pointer (some ⟨p.1, p.2.1 + (off + n * eli.size), none⟩), by simp only [VRel]; exact ⟨p, hp, rfl⟩, ?_⟩
          simp [Instr.indexAt, asIntOf, run_underlying hu, hlt, run_size hj, Addr.add_none, hsz, Nat.add_assoc]
      · cases h
    · cases h
  · cases h

theorem index_sound (he : EnvOk e P) {t : TypeId} {x i v : AV} {X I : Value} (hx : VRel E x X) (hi : VRel E i I) (h : indexA e t x i = some v) (w : World) :
    ∃ V, VRel E v V ∧ (Instr.index t X I).run P w = .ok V w := by
  unfold indexA at h
  split at h
  · rename_i ti n hti hn
    obtain ⟨k, rfl⟩ := natOf_rel hi hn
    obtain ⟨inf, hinf, hu, _, _, _⟩ := he.ty _ _ hti
    split at h
    · rename_i len el cs hd
      split at h
      · rename_i eli heli
        cases hb : Nat.blt n len with
        | false => simp [hb] at h
        | true =>
          simp only [hb, cond_true] at h
          have hlt := blt_iff.1 hb
          obtain ⟨j, hj, _, hsz, _, _⟩ := he.ty _ _ heli
          rw [hd] at hu
          simp only [VRel] at hx
          obtain ⟨C, hc, rfl⟩ := hx
          obtain ⟨V, hv, hr⟩ := part_sound he hc h w
          refine ⟨V, hv, ?_⟩
          simp [Instr.index, asIntOf, run_underlying hu, hlt, run_size hj, hsz, hr]
      · cases h
    · rename_i b hd
      split at h
      · rename_i c hc
        simp only [Option.some.injEq] at h
        subst h
        rw [hd] at hu
        simp only [VRel] at hx
        obtain ⟨hb, rfl⟩ := hx
        refine ⟨.int .u8 c, raw_rel, ?_⟩
        have hcb : c < 256 := hb c (List.mem_of_getElem? hc)
        have hg : (⟨(b.map UInt8.ofNat).toArray⟩ : ByteArray)[n]? = some (UInt8.ofNat c) := by
          have hlt : n < b.length := (List.getElem?_eq_some_iff.1 hc).1
          have hlt' : n < (⟨(b.map UInt8.ofNat).toArray⟩ : ByteArray).size := by simpa [size_mk] using hlt
          rw [getElem?_pos (⟨(b.map UInt8.ofNat).toArray⟩ : ByteArray) n hlt']
          have hcc : b[n] = c := (List.getElem?_eq_some_iff.1 hc).2
          simp only [Option.some.injEq]
          show (b.map UInt8.ofNat).toArray[n]'_ = _
          simp [hcc]
        simp [Instr.index, asIntOf, run_underlying hu, strV, hg, Nat.mod_eq_of_lt hcb]
      · cases h
    · cases h
  · cases h


/-! ### Slices of slices and texts -/
theorem bound_sound {x : AV} {X : Value} (hx : VRel E x X) {n y : Nat} (hn : natOf x = some n) (hle : n ≤ y) (code : BoundsCode) (w : World) : (Instr.sliceBound X y code).run P w = .ok n w := by
  obtain ⟨k, rfl⟩ := natOf_rel hx hn
  have : (0 : Int) ≤ n ∧ (n : Int) ≤ y := by omega
  simp [Instr.sliceBound, asIntOf, hle]

/-- Two bounds. -/
def OptRel (E : Em) : Option AV → Option Value → Prop
  | none, none => True
  | some v, some V => VRel E v V
  | _, _ => False

theorem bounds_sound {lo hi : Option AV} {LO HI : Option Value} (hl : OptRel E lo LO) (hh : OptRel E hi HI) {len cap cap' l h : Nat} (hb : sliceBoundsA len cap lo hi = some (l, h)) (hcap : cap ≤ cap') (isS : Bool) (w : World) :
    (Instr.sliceBounds isS len cap' LO HI none).run P w = .ok (l, h, cap') w ∧ l ≤ h ∧ h ≤ cap := by
  unfold sliceBoundsA at hb
  have key : ∀ {l0 h0 : Nat}, (bif Nat.ble l0 h0 && Nat.ble h0 cap then some (l0, h0) else none) = some (l, h) → (l0 ≤ h0 ∧ h0 ≤ cap) ∧ l0 = l ∧ h0 = h := fun {l0 h0} hq => by
    cases hc : Nat.ble l0 h0 && Nat.ble h0 cap with
    | false => rw [hc] at hq; simp at hq
    | true =>
      rw [hc] at hq
      simp only [cond_true, Option.some.injEq, Prod.mk.injEq] at hq
      simp only [Bool.and_eq_true] at hc
      exact ⟨⟨Nat.le_of_ble_eq_true hc.1, Nat.le_of_ble_eq_true hc.2⟩, hq⟩
  cases hi with
  | none =>
    cases HI with
    | some _ => exact hh.elim
    | none =>
      cases lo with
      | none =>
        cases LO with
        | some _ => exact hl.elim
        | none =>
          obtain ⟨⟨h1, h2⟩, rfl, rfl⟩ := key hb
          exact ⟨by simp [Instr.sliceBounds], by omega, by omega⟩
      | some v =>
        cases LO with
        | none => exact hl.elim
        | some V =>
          cases hn : natOf v with
          | none => simp [hn] at hb
          | some n =>
            simp only [hn] at hb
            obtain ⟨⟨h1, h2⟩, rfl, rfl⟩ := key hb
            exact ⟨by simp [Instr.sliceBounds, bound_sound hl hn h1], h1, h2⟩
  | some u =>
    cases HI with
    | none => exact hh.elim
    | some U =>
      cases hm : natOf u with
      | none => cases lo <;> simp [hm] at hb
      | some m =>
        cases lo with
        | none =>
          cases LO with
          | some _ => exact hl.elim
          | none =>
            simp only [hm] at hb
            obtain ⟨⟨_, h1⟩, rfl, rfl⟩ := key hb
            exact ⟨by simp [Instr.sliceBounds, bound_sound hh hm (Nat.le_trans h1 hcap)], by omega, h1⟩
        | some v =>
          cases LO with
          | none => exact hl.elim
          | some V =>
            cases hn : natOf v with
            | none => simp [hn] at hb
            | some n =>
              simp only [hm, hn] at hb
              obtain ⟨⟨h1, h2⟩, rfl, rfl⟩ := key hb
              exact ⟨by simp [Instr.sliceBounds, bound_sound hh hm (Nat.le_trans h2 hcap), bound_sound hl hn h1], h1, h2⟩


theorem OptRel.map (h : ARel E a A) (x : Option Operand) : OptRel E (x.map a.eval) (x.map A.eval) := by
  cases x with
  | none => exact trivial
  | some x => exact eval_rel h x

theorem isBytes_cut {b : List Nat} (hb : isBytes b) (l n : Nat) : isBytes ((b.drop l).take n) := fun c hc => hb c (List.mem_of_mem_drop (List.mem_of_mem_take hc))

theorem extract_mk (b : List Nat) (l h : Nat) : (⟨(b.map UInt8.ofNat).toArray⟩ : ByteArray).extract l h = ⟨(((b.drop l).take (h - l)).map UInt8.ofNat).toArray⟩ := by
  ext1
  apply Array.ext'
  simp [ByteArray.data_extract, List.extract_eq_take_drop]

theorem slice_sound (he : EnvOk e P) {t : TypeId} {x v : AV} {X : Value} {lo hi mx : Option AV} {LO HI MX : Option Value} (hx : VRel E x X) (hl : OptRel E lo LO) (hh : OptRel E hi HI) (hm : OptRel E mx MX)
    (h : sliceOpA e t x lo hi mx = some v) (w : World) : ∃ V, VRel E v V ∧ (Instr.sliceAt t X LO HI MX).run P w = .ok V w := by
  unfold sliceOpA at h
  cases mx with
  | some _ => simp at h
  | none =>
    cases MX with
    | some _ => exact hm.elim
    | none =>
      split at h
      · rename_i hnone; cases hnone
      split at h
      · cases h
      · rename_i ti hti
        obtain ⟨inf, hinf, hu, _, _, _⟩ := he.ty _ _ hti
        split at h
        · -- a text
          rename_i b hd
          rw [hd] at hu
          split at h
          · rename_i l m hb
            cases h
            simp only [VRel] at hx
            obtain ⟨hby, rfl⟩ := hx
            obtain ⟨hr, hlm, hmb⟩ := bounds_sound (P := P) hl hh hb (Nat.le_refl _) false w
            refine ⟨strV ((b.drop l).take (m - l)), str_rel (isBytes_cut hby _ _), ?_⟩
            simp [Instr.sliceAt, Instr.slice, run_underlying hu, strV, size_mk, hr, extract_mk]
          · cases h
        · -- a slice
          rename_i elem id off len ci cap ex hd
          rw [hd] at hu
          split at h
          · rename_i el l m hel hb
            obtain ⟨j, hj, _, hsz, _, _⟩ := he.ty _ _ hel
            simp only [VRel] at hx
            obtain ⟨p, hp, rfl, hlc, hcap⟩ := hx
            have hc' : cap ≤ (if ex = true then cap else p.2.2 - ci) := by
              cases ex with
              | true => simp
              | false => simpa using hcap rfl
            obtain ⟨hr, hlm, hmb⟩ := bounds_sound (P := P) hl hh hb hc' true w
            cases hlt : Nat.blt l cap || Nat.beq l 0 with
            | true =>
              simp only [hlt, cond_true, Option.some.injEq] at h
              subst h
              have hlt' : l < cap ∨ l = 0 := by simpa [blt_iff, beq_dec] using hlt
              have hnx : ∀ C, cap ≤ C → (if C = l then (some ⟨p.1, p.2.1 + off, none⟩ : Option Addr) else (some ⟨p.1, p.2.1 + off, none⟩ : Option Addr).map (·.add (l * el.size))) = some ⟨p.1, p.2.1 + (off + l * el.size), none⟩ := fun C hC => by
                simp only [Option.map_some, Addr.add_none]
                by_cases hCl : C = l
                · have : l = 0 := by omega
                  rw [if_pos hCl, this]; simp
                · rw [if_neg hCl, Nat.add_assoc]
              refine ⟨.slice (some ⟨p.1, p.2.1 + (off + l * el.size), none⟩) (m - l) (if ex = true then cap - l else p.2.2 - (ci + l)), ?_, ?_⟩
              · simp only [VRel]
                exact ⟨p, hp, rfl, by omega, fun hx => by have := hcap hx; omega⟩
              · simp only [Instr.sliceAt, Instr.slice, Sem.run_bind, run_underlying hu, Result.andThen, hr, run_size hj, Sem.run_pure, hsz]
                rw [hnx _ hc']
                congr 2
                cases ex with
                | true => simp
                | false => simp; omega
            | false =>
              simp only [hlt, cond_false] at h
              have hlt' : ¬ l < cap ∧ l ≠ 0 := by
                simp only [Bool.or_eq_false_iff] at hlt
                refine ⟨fun h' => ?_, fun h' => ?_⟩
                · have := blt_iff.2 h'; rw [hlt.1] at this; cases this
                · subst h'; simp at hlt
              have hlcap : l = cap := by omega
              have hml : m = l := by omega
              cases ex with
              | true =>
                simp only [cond_true, Option.some.injEq] at h
                subst h
                refine ⟨.slice (some ⟨p.1, p.2.1 + off, none⟩) 0 0, ?_, ?_⟩
                · simp only [VRel]; exact ⟨p, hp, by simp, Nat.le_refl _, fun h => by cases h⟩
                · simp only [if_true] at hr
                  simp only [Instr.sliceAt, Instr.slice, Sem.run_bind, run_underlying hu, Result.andThen, if_true, hr, run_size hj, Sem.run_pure]
                  simp [hlcap, hml]
              | false =>
                simp only [cond_false, Option.some.injEq] at h
                subst h
                refine ⟨_, by simp only [VRel]; exact ⟨p, hp, rfl⟩, ?_⟩
                simp only [Bool.false_eq_true, if_false] at hr
                simp only [Instr.sliceAt, Instr.slice, Sem.run_bind, run_underlying hu, Result.andThen, Bool.false_eq_true, if_false, hr, run_size hj, Sem.run_pure, Option.map_some, Addr.add_none, hsz]
                congr 2
                · split <;> rfl
                · omega
          · cases h
        · -- an empty slice at an end
          rename_i elem id off ci l0 sz hd
          rw [hd] at hu
          split at h
          · rename_i el q hel hb
            obtain ⟨j, hj, _, hsz, _, _⟩ := he.ty _ _ hel
            obtain ⟨l, m⟩ := q
            cases h
            simp only [VRel] at hx
            obtain ⟨p, hp, rfl⟩ := hx
            obtain ⟨hr, hlm, hmb⟩ := bounds_sound (P := P) (cap' := p.2.2 - ci - l0) hl hh hb (Nat.zero_le _) true w
            obtain rfl : m = 0 := by omega
            obtain rfl : l = 0 := by omega
            refine ⟨_, by simp only [VRel]; exact ⟨p, hp, rfl⟩, ?_⟩
            simp only [Instr.sliceAt, Instr.slice, Sem.run_bind, run_underlying hu, Result.andThen, hr, run_size hj, Sem.run_pure]
            simp [Addr.add]
          · cases h
        · -- an array's address
          rename_i n elem id off hd
          rw [hd] at hu
          split at h
          · rename_i el l m hel hb
            obtain ⟨j, hj, _, hsz, _, _⟩ := he.ty _ _ hel
            simp only [VRel] at hx
            obtain ⟨p, hp, rfl⟩ := hx
            obtain ⟨hr, hlm, hmb⟩ := bounds_sound (P := P) hl hh hb (Nat.le_refl _) false w
            cases hln : Nat.beq l n with
            | true =>
              simp only [hln, cond_true, Option.some.injEq] at h
              subst h
              have hln' : l = n := by simpa [beq_dec] using hln
              refine ⟨.slice (some ⟨p.1, p.2.1 + off, none⟩) 0 0, ?_, ?_⟩
              · simp only [VRel]; exact ⟨p, hp, by simp, Nat.le_refl _, fun h => by cases h⟩
              · simp only [Instr.sliceAt, Sem.run_bind, run_underlying hu, Result.andThen, Instr.sureAddr, hr, run_size hj, Sem.run_pure]
                have : m = n := by omega
                simp [hln', this]
            | false =>
              simp only [hln, cond_false, Option.some.injEq] at h
              subst h
              have hln' : l ≠ n := by simpa [beq_dec] using hln
              refine ⟨.slice (some ⟨p.1, p.2.1 + (off + l * el.size), none⟩) (m - l) (n - l), ?_, ?_⟩
              · simp only [VRel]; exact ⟨p, hp, by simp, by omega, fun h => by cases h⟩
              · simp only [Instr.sliceAt, Sem.run_bind, run_underlying hu, Result.andThen, Instr.sureAddr, hr, run_size hj, Sem.run_pure, hsz, Addr.add_none]
                have : ¬ n = l := fun h => hln' h.symm
                simp [this, Nat.add_assoc]
          · cases h
        · -- the nil slice
          rename_i elem hd
          rw [hd] at hu
          split at h
          · rename_i el q hel hb
            obtain ⟨j, hj, _, hsz, _, _⟩ := he.ty _ _ hel
            obtain ⟨l, m⟩ := q
            cases h
            simp only [VRel] at hx
            subst hx
            obtain ⟨hr, hlm, hmb⟩ := bounds_sound (P := P) (cap' := 0) hl hh hb (Nat.zero_le _) true w
            obtain rfl : m = 0 := by omega
            obtain rfl : l = 0 := by omega
            refine ⟨_, raw_rel, ?_⟩
            simp only [Instr.sliceAt, Instr.slice, Sem.run_bind, run_underlying hu, Result.andThen, hr, run_size hj, Sem.run_pure]
            simp
          · cases h
        · cases h


/-! ### Maps, read -/
theorem sameK_sound {d : TypeDesc} {x y : AV} {X Y : Value} (hx : VRel E x X) (hy : VRel E y Y) {b : Bool} (h : sameK d x y = some b) : Instr.sameNow d X Y = some b := by
  unfold sameK at h
  split at h
  · simp only [Option.some.injEq] at h
    subst h
    simp only [VRel] at hx hy
    obtain ⟨h1, rfl⟩ := hx
    obtain ⟨h2, rfl⟩ := hy
    rename_i x y
    simp only [Instr.sameNow, strV, Option.some.injEq, eqB_dec]
    rw [Bool.eq_iff_iff, MapKept.bytes_beq]
    constructor
    · intro hh
      have := congrArg (fun q : ByteArray => q.data.toList) hh
      simpa [map_inj h1 h2] using this
    · intro hh
      have : x = y := by simpa using hh
      rw [this]
  · simp only [VRel] at hx hy
    subst hx hy
    rename_i k a k' b'
    by_cases hk : k = k'
    · simp only [hk, if_true, Option.some.injEq] at h
      simp [Instr.sameNow, hk, h]
    · simp [hk] at h
  · simp only [VRel] at hx hy
    subst hx hy
    simp only [Option.some.injEq] at h
    simp [Instr.sameNow, h]
  · cases h

theorem findK_sound {d : TypeDesc} {k : AV} {K : Value} (hk : VRel E k K) : ∀ {es : List (AV × AV)} {L : List MapEntry}, MRels E es L → ∀ {i : Nat} {r : Option (Nat × AV)}, findK d k es i = some r →
    (r = none ∧ Instr.findNow d K L i = some none) ∨ (∃ j v V, r = some (j, v) ∧ VRel E v V ∧ Instr.findNow d K L i = some (some (j, V)) ∧ i ≤ j ∧ ∃ k' K', es[j - i]? = some (k', v) ∧ L[j - i]? = some K' ∧ K'.val = V ∧ sameK d k k' = some true)
  | [], L, h, i, r, hf => by
    simp only [MRels] at h; subst h
    simp only [findK, Option.some.injEq] at hf
    exact .inl ⟨hf.symm, rfl⟩
  | (k', v) :: es, L, h, i, r, hf => by
    simp only [MRels] at h
    obtain ⟨en, rest, h1, h2, h3, rfl⟩ := h
    simp only [findK] at hf
    cases hsk : sameK d k k' with
    | none => simp [hsk] at hf
    | some b =>
      have hs := sameK_sound hk h1 hsk
      cases b with
      | true =>
        simp only [hsk, Option.some.injEq] at hf
        exact .inr ⟨i, v, en.val, hf.symm, h2, by simp [Instr.findNow, hs], Nat.le_refl _, k', en, by simp, by simp, rfl, hsk⟩
      | false =>
        simp only [hsk] at hf
        rcases findK_sound hk h3 hf with ⟨hr, hn⟩ | ⟨j, u, U, hr, hu, hn, hle, k2, K2, g1, g2, g3, g4⟩
        · exact .inl ⟨hr, by simp [Instr.findNow, hs, hn]⟩
        · refine .inr ⟨j, u, U, hr, hu, by simp [Instr.findNow, hs, hn], by omega, k2, K2, ?_, ?_, g3, g4⟩
          · rw [show j - i = (j - (i + 1)) + 1 from by omega]; simpa using g1
          · rw [show j - i = (j - (i + 1)) + 1 from by omega]; simpa using g2

theorem checkKey_ok {d : TypeDesc} {t : TypeId} (hd : P.underlying t = some d) (hk : keyOk d = true) (b : Bool) (n : Nat) (K : Value) (w : World) : (Instr.checkKey b (n + 1) t K).run P w = .ok () w := by
  unfold Instr.checkKey
  cases d <;> simp [keyOk] at hk <;> simp [run_underlying hd]

theorem zero_sound (he : EnvOk e P) {t : TypeId} {z : AV} (h : zeroOf e t = some z) (w : World) : ∃ Z, VRel E z Z ∧ (zeroValue t).run P w = .ok Z w := by
  unfold zeroOf at h
  split at h
  · rename_i ti hti
    obtain ⟨i, hi, _, _, _, hz⟩ := he.ty _ _ hti
    split at h
    · rename_i v hv
      simp only [Option.some.injEq] at h
      subst h
      exact ⟨v, ofVal_rel v, run_zero hi (hz.trans hv) w⟩
    · cases h
  · cases h

theorem lookup_sound (he : EnvOk e P) {t : TypeId} {x k v : AV} {X K : Value} (hx : VRel E x X) (hk : VRel E k K) {ok : Bool} (h : lookupA e s t x k ok = some v) (hr : ∀ id ∈ idsOf x, Has E s w id) :
    ∃ V, VRel E v V ∧ (Instr.lookup t X K ok).run P w = .ok V w := by
  unfold lookupA at h
  split at h
  · cases h
  · rename_i ti hti
    obtain ⟨inf, hinf, hu, _, _, _⟩ := he.ty _ _ hti
    split at h
    · rename_i key elem hd
      rw [hd] at hu
      split at h
      · rename_i ki es hki hes
        obtain ⟨kin, hkin, hku, _, _, _⟩ := he.ty _ _ hki
        cases hok : keyOk ki.desc with
        | false => simp [hok] at h
        | true =>
          simp only [hok, cond_true] at h
          -- the entries
          obtain ⟨en, hen, hX⟩ : ∃ en : Array MapEntry, MRels E es en.toList ∧ ((X = .map none ∧ en = #[]) ∨ ∃ b ck, X = .map (some b) ∧ w.heap[b]? = some (.map en ck)) := by
            unfold mapsA at hes
            split at hes
            · rename_i id
              simp only [VRel] at hx
              obtain ⟨p, hp, rfl⟩ := hx
              obtain ⟨p', o, O, hg, hp', hO, hrel⟩ := hr id (by simp [idsOf])
              rw [hp] at hp'; cases hp'
              split at hes
              · rename_i es' hg'
                rw [hg] at hg'; cases hg'
                simp only [Option.some.injEq] at hes
                subst hes
                simp only [ORel] at hrel
                obtain ⟨en, ck, rfl, hm, _⟩ := hrel
                exact ⟨en, hm, .inr ⟨p.1, ck, rfl, hO⟩⟩
              · cases hes
            · simp only [Option.some.injEq] at hes
              subst hes
              simp only [VRel] at hx
              subst hx
              exact ⟨#[], by simp [MRels], .inl ⟨rfl, rfl⟩⟩
            · cases hes
          have hck : ∀ b, (Instr.checkKey b 10000 key K).run P w = .ok () w := fun b => checkKey_ok hku hok b 9999 K w
          cases hf : findK ki.desc k es 0 with
          | none => simp [hf] at h
          | some r =>
            rcases findK_sound hk hen hf with ⟨rfl, hn⟩ | ⟨j, u, U, rfl, hv, hn, _⟩
            · simp only [hf] at h
              cases hz : zeroOf e elem with
              | none => simp [hz] at h
              | some z =>
                simp only [hz, Option.some.injEq] at h
                obtain ⟨Z, hZ, hzr⟩ := zero_sound (E := E) he hz w
                have hfk := MapKept.run_findKey (w := w) hku hn
                refine ⟨if ok then .tuple #[Z, .bool false] else Z, ?_, ?_⟩
                · subst h; cases ok
                  · simpa using hZ
                  · simp only [cond_true, if_true, VRel]; exact ⟨[Z, .bool false], VRels.cons hZ (VRels.cons bool_rel VRels.nil), rfl⟩
                · rcases hX with ⟨rfl, rfl⟩ | ⟨b, ck, rfl, hO⟩
                  · simp [Instr.lookup, run_underlying hu, hck, hfk, hzr]
                  · simp [Instr.lookup, run_underlying hu, getObj, Sem.run, hO, hck, hfk, hzr]
            · simp only [hf, Option.some.injEq] at h
              have hfk := MapKept.run_findKey (w := w) hku hn
              refine ⟨if ok then .tuple #[U, .bool true] else U, ?_, ?_⟩
              · subst h; cases ok
                · simpa using hv
                · simp only [cond_true, if_true, VRel]; exact ⟨[U, .bool true], VRels.cons hv (VRels.cons bool_rel VRels.nil), rfl⟩
              · rcases hX with ⟨rfl, rfl⟩ | ⟨b, ck, rfl, hO⟩
                · simp [Instr.lookup, run_underlying hu, hck, hfk]
                · simp [Instr.lookup, run_underlying hu, getObj, Sem.run, hO, hck, hfk]
      · cases h
    · cases h

end Go.AX
