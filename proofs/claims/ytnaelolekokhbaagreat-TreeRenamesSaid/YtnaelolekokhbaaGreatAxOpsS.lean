import Derived.Test.YtnaelolekokhbaaGreatAxOpsR
import Derived.Laws.Tables
import Derived.Laws.BytesString
namespace Go.AX
open Go.RowKit
variable {e : Env} {P : Program} {w0 : World} {E : Em} {s : St} {w : World} {a : Ac} {A : Act}

theorem assert_sound (he : EnvOk e P) {xt t : TypeId} {x v : AV} {X : Value} (hx : VRel E x X) {ok : Bool} (h : assertA e x t ok = some v) (w : World) :
    ∃ V, VRel E v V ∧ (Instr.typeAssert X xt t ok).run P w = .ok V w := by
  unfold assertA at h
  split at h
  · rename_i ti hti
    obtain ⟨inf, hinf, hu, _, _, _⟩ := he.ty _ _ hti
    split at h
    · cases h
    · rename_i hni
      split at h
      · rename_i t' v'
        simp only [VRel] at hx
        obtain ⟨U, hu', rfl⟩ := hx
        cases hb : Nat.beq t' t with
        | true =>
          simp only [hb, cond_true, Option.some.injEq] at h
          have htt : t' = t := by simpa [beq_dec] using hb
          subst htt
          refine ⟨if ok then .tuple #[U, .bool true] else U, ?_, ?_⟩
          · subst h; cases ok
            · simpa using hu'
            · simp only [cond_true, if_true, VRel]; exact ⟨[U, .bool true], VRels.cons hu' (VRels.cons bool_rel VRels.nil), rfl⟩
          · unfold Instr.typeAssert
            simp only [Sem.run_bind, run_underlying hu, Result.andThen]
            cases hd : ti.desc <;> first | exact absurd hd (hni _) | simp
        | false =>
          simp only [hb, cond_false] at h
          have htt : ¬ t' = t := by simpa [beq_dec] using hb
          cases ok with
          | false => simp at h
          | true =>
            simp only [cond_true] at h
            cases hz : zeroOf e t with
            | none => simp [hz] at h
            | some z =>
              simp only [hz, Option.some.injEq] at h
              subst h
              obtain ⟨Z, hZ, hzr⟩ := zero_sound (E := E) he hz w
              refine ⟨.tuple #[Z, .bool false], ?_, ?_⟩
              · simp only [VRel]; exact ⟨[Z, .bool false], VRels.cons hZ (VRels.cons bool_rel VRels.nil), rfl⟩
              · unfold Instr.typeAssert
                simp only [Sem.run_bind, run_underlying hu, Result.andThen]
                cases hd : ti.desc <;> first | exact absurd hd (hni _) | simp [htt, hzr]
      · cases h
  · cases h

theorem len_sound (he : EnvOk e P) {tys : List TypeId} {args : List AV} {L : List Value} (hx : VRels E args L) {v : AV} (h : lenOpA e s tys args = some v) {ty : TypeId}
    (hr : ∀ id ∈ (match args with | x :: _ => idsOf x | [] => []), Has E s w id) : ∃ V, VRel E v V ∧ (Builtin.len_ tys.toArray ty L.toArray).run P w = .ok V w := by
  unfold lenOpA at h
  split at h
  · rename_i t tys x args
    split at h
    · cases h
    · rename_i ti hti
      obtain ⟨inf, hinf, hu, _, _, _⟩ := he.ty _ _ hti
      simp only [VRels] at hx
      obtain ⟨X, Xs, hx, _, rfl⟩ := hx
      split at h
      · rename_i l hd
        cases h
        rw [hd] at hu
        simp only [VRel] at hx
        obtain ⟨_, rfl⟩ := hx
        exact ⟨_, int_rel, by simp [Builtin.len_, run_underlying hu, strV, size_mk, goInt]⟩
      · rename_i n el hd
        cases h
        rw [hd] at hu
        exact ⟨_, int_rel, by simp [Builtin.len_, run_underlying hu, goInt]⟩
      · rename_i el id off n ci cap ex hd
        cases h
        rw [hd] at hu
        simp only [VRel] at hx
        obtain ⟨p, _, rfl, _⟩ := hx
        exact ⟨_, int_rel, by simp [Builtin.len_, run_underlying hu, goInt]⟩
      · rename_i el id off ci l sz hd
        cases h
        rw [hd] at hu
        simp only [VRel] at hx
        obtain ⟨p, _, rfl⟩ := hx
        exact ⟨_, int_rel, by simp [Builtin.len_, run_underlying hu, goInt]⟩
      · rename_i el q n c hd
        cases h
        rw [hd] at hu
        simp only [VRel] at hx
        subst hx
        exact ⟨_, int_rel, by simp [Builtin.len_, run_underlying hu, goInt]⟩
      · rename_i k el hd
        rw [hd] at hu
        split at h
        · rename_i es hm
          simp only [Option.some.injEq] at h
          subst h
          unfold mapsA at hm
          split at hm
          · rename_i id
            simp only [VRel] at hx
            obtain ⟨p, hp, rfl⟩ := hx
            obtain ⟨p', o, O, hg, hp', hO, hrel⟩ := hr id (by simp [idsOf])
            rw [hp] at hp'; cases hp'
            split at hm
            · rename_i es' hg'
              rw [hg] at hg'; cases hg'
              simp only [Option.some.injEq] at hm
              subst hm
              simp only [ORel] at hrel
              obtain ⟨en, ck, rfl, hmr, _⟩ := hrel
              have hlen : ∀ {es : List (AV × AV)} {L : List MapEntry}, MRels E es L → L.length = es.length := fun {es} => by
                induction es with
                | nil => intro L h; simp only [MRels] at h; simp [h]
                | cons q es ih => intro L h; obtain ⟨k, v⟩ := q; simp only [MRels] at h; obtain ⟨e, r, _, _, hr, rfl⟩ := h; simp [ih hr]
              refine ⟨_, int_rel, ?_⟩
              have := hlen hmr
              simp at this
              simp [Builtin.len_, run_underlying hu, getObj, Sem.run, hO, goInt, this]
            · cases hm
          · simp only [Option.some.injEq] at hm
            subst hm
            simp only [VRel] at hx
            subst hx
            exact ⟨_, int_rel, by simp [Builtin.len_, run_underlying hu, goInt]⟩
          · cases hm
        · cases h
      · cases h
  · cases h

theorem cap_sound (he : EnvOk e P) {tys : List TypeId} {args : List AV} {L : List Value} (hx : VRels E args L) {v : AV} (h : capOpA e tys args = some v) {ty : TypeId} (w : World) :
    ∃ V, VRel E v V ∧ (Builtin.cap_ tys.toArray ty L.toArray).run P w = .ok V w := by
  unfold capOpA at h
  split at h
  · rename_i t tys x args
    split at h
    · cases h
    · rename_i ti hti
      obtain ⟨inf, hinf, hu, _, _, _⟩ := he.ty _ _ hti
      simp only [VRels] at hx
      obtain ⟨X, Xs, hx, _, rfl⟩ := hx
      split at h
      · rename_i n el hd
        cases h
        rw [hd] at hu
        exact ⟨_, int_rel, by simp [Builtin.cap_, run_underlying hu, goInt]⟩
      · rename_i el id off n ci c hd
        cases h
        rw [hd] at hu
        simp only [VRel] at hx
        obtain ⟨p, _, rfl, _⟩ := hx
        exact ⟨_, int_rel, by simp [Builtin.cap_, run_underlying hu, goInt]⟩
      · rename_i el q n c hd
        cases h
        rw [hd] at hu
        simp only [VRel] at hx
        subst hx
        exact ⟨_, int_rel, by simp [Builtin.cap_, run_underlying hu, goInt]⟩
      · cases h
  · cases h


/-! ### Structs -/
theorem places_sound (he : EnvOk e P) : ∀ {fs : List Field} {pl : List (Nat × Nat)}, placesA e fs = some pl → fs.mapM (fun f => (P.info? f.type).map fun i => (f.offset, i.size)) = some pl
  | [], pl, h => by simp [placesA] at h; simp [h]
  | f :: fs, pl, h => by
    simp only [placesA] at h
    cases hf : e.info f.type with
    | none => simp [hf] at h
    | some fi =>
      cases hr : placesA e fs with
      | none => simp [hf, hr] at h
      | some l =>
        simp only [hf, hr, Option.some.injEq] at h
        obtain ⟨i, hi, _, hsz, _, _⟩ := he.ty _ _ hf
        subst h
        simp [List.mapM_cons, hi, hsz, places_sound he hr]

theorem foldl_set (cs : List Value) : ∀ (k : Nat) (off : Nat) (C : Array Value) (i : Nat), off + k + cs.length ≤ C.size →
    ((cs.zipIdx k).foldl (fun C (x : Value × Nat) => C.setIfInBounds (off + x.2) x.1) C).size = C.size ∧
    ((cs.zipIdx k).foldl (fun C (x : Value × Nat) => C.setIfInBounds (off + x.2) x.1) C)[i]? = if off + k ≤ i ∧ i < off + k + cs.length then cs[i - (off + k)]? else C[i]? := by
  induction cs with
  | nil => intro k off C i _; simp; intro h1 h2; omega
  | cons c cs ih =>
    intro k off C i h
    simp only [List.length_cons] at h
    obtain ⟨h1, h2⟩ := ih (k + 1) off (C.setIfInBounds (off + k) c) i (by simp; omega)
    simp only [List.zipIdx_cons, List.foldl_cons]
    refine ⟨by rw [h1]; simp, ?_⟩
    rw [h2]
    simp only [List.length_cons]
    by_cases hi : i = off + k
    · subst hi
      rw [if_neg (by omega), if_pos (by omega), Array.getElem?_setIfInBounds_self_of_lt (by omega)]
      simp
    · by_cases hj : off + (k + 1) ≤ i ∧ i < off + (k + 1) + cs.length
      · rw [if_pos hj, if_pos (by omega)]
        rw [show i - (off + k) = (i - (off + (k + 1))) + 1 from by omega]
        simp
      · rw [if_neg hj, if_neg (by omega)]
        rw [Array.getElem?_setIfInBounds_ne (by omega)]

theorem VRels.ofGet {E : Em} : ∀ {vs : List AV} {L : List Value}, L.length = vs.length → (∀ (i : Nat) (v : AV), vs[i]? = some v → ∃ V, L[i]? = some V ∧ VRel E v V) → VRels E vs L
  | [], [], _, _ => VRels.nil
  | [], _ :: _, h, _ => by simp at h
  | _ :: _, [], h, _ => by simp at h
  | v :: vs, V :: L, h, hg => by
    obtain ⟨U, hU, hv⟩ := hg 0 v rfl
    simp at hU; subst hU
    exact VRels.cons hv (VRels.ofGet (by simpa using h) fun i u hu => by simpa using hg (i + 1) u (by simpa using hu))

theorem fill_sound {place : Nat → Option (Nat × Nat)} : ∀ {parts : List (Nat × AV)} {PARTS : List (Nat × Value)} {cs r : List AV} {C : List Value}, VRels E cs C →
    PARTS.map (·.1) = parts.map (·.1) → VRels E (parts.map (·.2)) (PARTS.map (·.2)) → fillA place cs parts = some r → ∃ R : List Value, VRels E r R ∧ Instr.fill place C.toArray PARTS = some R.toArray
  | [], [], cs, r, C, hc, _, _, h => by simp [fillA] at h; subst h; exact ⟨C, hc, by simp [Instr.fill]⟩
  | [], _ :: _, _, _, _, _, h, _, _ => by simp at h
  | _ :: _, [], _, _, _, _, h, _, _ => by simp at h
  | (i, v) :: parts, (j, V) :: PARTS, cs, r, C, hc, hi, hv, h => by
    simp only [List.map_cons, List.cons.injEq] at hi
    obtain ⟨rfl, hi⟩ := hi
    simp only [List.map_cons, VRels, List.cons.injEq] at hv
    obtain ⟨V', Vs, hv1, hv2, hV', hVs⟩ := hv
    subst hV' hVs
    simp only [fillA] at h
    cases hp : place j with
    | none => simp [hp] at h
    | some q =>
      obtain ⟨off, size⟩ := q
      simp only [hp] at h
      cases hb : Nat.beq v.cells.length size && Nat.blt 0 size with
      | false => simp [hb] at h
      | true =>
        simp only [hb, cond_true] at h
        simp only [Bool.and_eq_true] at hb
        have hsz : v.cells.length = size := by simpa [beq_dec] using hb.1
        have hpos : 0 < size := blt_iff.1 hb.2
        cases hpu : putL cs off v.cells with
        | none => simp [hpu] at h
        | some cs' =>
          simp only [hpu] at h
          obtain ⟨h1, h2, h3⟩ := putL_some hpu
          have hcells := cells_rel hv1
          have hl1 := hcells.length
          have hl2 := hc.length
          have hfit' : off + V.cells.size ≤ C.length := by
            have : V.cells.size = v.cells.length := by simpa using hl1
            rcases h1 with h1 | h1
            · rw [h1] at hsz; simp at hsz; omega
            · omega
          · have hset := foldl_set V.cells.toList 0 off C.toArray
            have hnew : ∃ C' : List Value, C'.toArray = V.cells.zipIdx.foldl (fun cs (x : Value × Nat) => cs.setIfInBounds (off + x.2) x.1) C.toArray ∧ VRels E cs' C' := by
              refine ⟨(V.cells.zipIdx.foldl (fun cs (x : Value × Nat) => cs.setIfInBounds (off + x.2) x.1) C.toArray).toList, by simp, ?_⟩
              have hfold : V.cells.zipIdx.foldl (fun cs (x : Value × Nat) => cs.setIfInBounds (off + x.2) x.1) C.toArray = (V.cells.toList.zipIdx 0).foldl (fun cs (x : Value × Nat) => cs.setIfInBounds (off + x.2) x.1) C.toArray := by
                rw [← Array.foldl_toList, Array.toList_zipIdx]
              rw [hfold]
              have hsz' : off + 0 + V.cells.toList.length ≤ C.toArray.size := by simp; omega
              refine VRels.ofGet ?_ fun i u hu => ?_
              · have := (hset 0 hsz').1
                simp at this ⊢
                omega
              · rw [Array.getElem?_toList, (hset i hsz').2]
                rw [h3 i] at hu
                have hlen : V.cells.toList.length = v.cells.length := hl1
                by_cases hin : off ≤ i ∧ i < off + v.cells.length
                · rw [if_pos hin] at hu
                  rw [if_pos (by omega)]
                  simpa using hcells.get hu
                · rw [if_neg hin] at hu
                  rw [if_neg (by omega)]
                  simpa using hc.get hu
            obtain ⟨C', hC', hrel⟩ := hnew
            obtain ⟨R, hR, hfill⟩ := fill_sound hrel hi hv2 h
            refine ⟨R, hR, ?_⟩
            simp only [Instr.fill, hp]
            have hne : ¬ (V.cells.size ≠ size ∨ off + V.cells.size > C.toArray.size) := by
              have : V.cells.size = v.cells.length := by simpa using hl1
              simp; omega
            simp only [Bool.or_eq_true, decide_eq_true_eq, hne, if_false]
            rw [← hC']
            exact hfill


theorem build_sound (he : EnvOk e P) {t : TypeId} {parts : List (Nat × AV)} {PARTS : List (Nat × Value)} (hi : PARTS.map (·.1) = parts.map (·.1)) (hv : VRels E (parts.map (·.2)) (PARTS.map (·.2))) {v : AV}
    (h : buildA e t parts = some v) (w : World) : ∃ V, VRel E v V ∧ (Instr.build t PARTS.toArray).run P w = .ok V w := by
  unfold buildA at h
  split at h
  · rename_i z ti hz hti
    obtain ⟨inf, hinf, hu, _, _, hzz⟩ := he.ty _ _ hti
    obtain ⟨Z, hZ, hzr⟩ := zero_sound (E := E) he hz w
    have hZ' : inf.zero = some Z := by
      unfold zeroOf at hz
      simp only [hti] at hz
      split at hz
      · rename_i u hu'
        have := run_zero (w := w) hinf (hzz.trans hu')
        rw [this] at hzr
        cases hzr
        exact hzz.trans hu'
      · cases hz
    have hcells := cells_rel hZ
    split at h
    · rename_i fs hd
      rw [hd] at hu
      split at h
      · rename_i pl hpl
        split at h
        · rename_i cs hcs
          simp only [Option.some.injEq] at h
          subst h
          obtain ⟨R, hR, hf⟩ := fill_sound hcells hi hv hcs
          refine ⟨.agg R.toArray, by simp only [VRel]; exact ⟨R, hR, rfl⟩, run_build w t _ _ ?_⟩
          unfold Program.built
          simp only [hinf, hu, hZ', places_sound he hpl]
          simpa using hf
        · cases h
      · cases h
    · rename_i n el hd
      rw [hd] at hu
      split at h
      · rename_i eli heli
        obtain ⟨j, hj, _, hsz, _, _⟩ := he.ty _ _ heli
        split at h
        · rename_i cs hcs
          simp only [Option.some.injEq] at h
          subst h
          obtain ⟨R, hR, hf⟩ := fill_sound hcells hi hv hcs
          refine ⟨.agg R.toArray, by simp only [VRel]; exact ⟨R, hR, rfl⟩, run_build w t _ _ ?_⟩
          unfold Program.built
          simp only [hinf, hu, hZ', hj, hsz]
          simpa using hf
        · cases h
      · cases h
    · cases h
  · cases h

/-! ### Bytes, as a text -/
theorem bytesL_sound : ∀ {l : List AV} {b : List Nat} {L : List Value}, VRels E l L → bytesL l = some b → isBytes b ∧ L = (b.map Int.ofNat).map (Value.int .u8)
  | [], b, L, h, hb => by
    simp only [bytesL, Option.some.injEq] at hb
    simp only [VRels] at h
    subst hb h
    exact ⟨fun c hc => by simp at hc, rfl⟩
  | v :: l, b, L, h, hb => by
    simp only [VRels] at h
    obtain ⟨V, Vs, hv, hvs, rfl⟩ := h
    unfold bytesL at hb
    split at hb
    · rename_i h0; cases h0
    · rename_i c l' heq
      simp only [List.cons.injEq] at heq
      obtain ⟨rfl, rfl⟩ := heq
      cases hc : Nat.blt c 256 with
      | false => simp [hc] at hb
      | true =>
        simp only [hc, cond_true] at hb
        split at hb
        · rename_i r hr
          simp only [Option.some.injEq] at hb
          subst hb
          obtain ⟨h1, h2⟩ := bytesL_sound hvs hr
          simp only [VRel] at hv
          subst hv h2
          refine ⟨fun x hx => ?_, by simp⟩
          simp at hx
          rcases hx with rfl | hx
          · exact blt_iff.1 hc
          · exact h1 x hx
        · cases hb
    · cases hb

theorem foldl_push (l : List Nat) : ∀ r : ByteArray, (l.map Int.ofNat).foldl (fun r n => r.push (UInt8.ofNat n.toNat)) r = ⟨r.data ++ (l.map UInt8.ofNat).toArray⟩ := by
  induction l with
  | nil => intro r; simp
  | cons c l ih =>
    intro r
    simp only [List.map_cons, List.foldl_cons]
    rw [ih]
    congr 1
    apply Array.ext'
    simp [ByteArray.push]

theorem text_sound (he : EnvOk e P) {src dst : TypeId} {x v : AV} {X : Value} (hx : VRel E x X) {ids : List Nat} (h : textA e s src dst x = some (v, ids)) (hr : ∀ id ∈ ids, Has E s w id) :
    ∃ V, VRel E v V ∧ (convert src dst X).run P w = .ok V w := by
  unfold textA at h
  split at h
  · rename_i si di hsi hdi
    obtain ⟨i1, _, hu1, _⟩ := he.ty _ _ hsi
    obtain ⟨i2, _, hu2, _⟩ := he.ty _ _ hdi
    split at h
    · rename_i el id off len ci cap ex hd1 hd2
      rw [hd1] at hu1
      rw [hd2] at hu2
      split at h
      · rename_i eli heli
        obtain ⟨i3, _, hu3, _⟩ := he.ty _ _ heli
        split at h
        · rename_i hd3
          rw [hd3] at hu3
          split at h
          · rename_i b hb
            simp only [Option.some.injEq, Prod.mk.injEq] at h
            obtain ⟨rfl, rfl⟩ := h
            unfold bytesOfA at hb
            split at hb
            · rename_i cs _ _ hcs
              split at hb
              · rename_i l hl
                simp only [VRel] at hx
                obtain ⟨p, hp, rfl, _⟩ := hx
                obtain ⟨p', o, O, hg, hp', hO, hrel⟩ := hr id (by simp)
                rw [hp] at hp'; cases hp'
                rw [getCells_some hcs] at hg; cases hg
                obtain ⟨L, h1, h2, h3⟩ := cut_rel hO hrel hl
                obtain ⟨hby, rfl⟩ := bytesL_sound h1 hb
                refine ⟨strV b, str_rel hby, ?_⟩
                have hrun := run_loadCells' (P := P) (w := w) (b := p.1) (o := p.2.1 + off) ((b.map Int.ofNat).map (Value.int .u8)) 0 #[] (fun j V hj => by simpa using h3 j V hj)
                rw [h2] at hrun
                have hs := run_bytesToString (P := P) w ⟨p.1, p.2.1 + off, none⟩ len (if ex = true then cap else p.2.2 - ci) (b.map Int.ofNat) (by simpa [loadCells] using hrun)
                rw [foldl_push] at hs
                simp only [convert, Sem.run_bind, run_underlying hu1, run_underlying hu2, run_underlying hu3, Result.andThen]
                have hem : (⟨ByteArray.empty.data ++ (b.map UInt8.ofNat).toArray⟩ : ByteArray) = ⟨(b.map UInt8.ofNat).toArray⟩ := by
                  congr 1; apply Array.ext'; simp
                rw [hem] at hs
                exact hs
              · cases hb
            · cases hb
          · cases h
        · cases h
      · cases h
    · cases h
  · cases h

end Go.AX
