import Derived.Test.YtnaelolekokhbaaGreatAxOpsA
namespace Go.AX
open Go.RowKit
variable {e : Env} {P : Program} {w0 : World} {E : Em} {s : St} {w : World} {a : Ac} {A : Act}

theorem puts_set {b : Nat} {O O' : Obj} (hb : w.heap[b]? = some O) : Puts w { w with heap := w.heap.setIfInBounds b O' } b O' := by
  have hlt := (Array.getElem?_eq_some_iff.1 hb).1
  refine ⟨fun k hk => ?_, ?_, by simp, rfl, rfl, rfl⟩
  · exact Array.getElem?_setIfInBounds_ne (fun h => hk h.symm)
  · exact Array.getElem?_setIfInBounds_self_of_lt hlt

theorem Born.push {en : Array MapEntry} {ck : Nat} (h : Born en ck) (K V : Value) : Born (en.push { key := K, val := V, born := ck }) (ck + 1) := by
  refine ⟨fun x hx => ?_, ?_⟩
  · simp only [Array.toList_push, List.mem_append, List.mem_singleton] at hx
    rcases hx with hx | rfl
    · exact Nat.lt_succ_of_lt (h.1 x hx)
    · exact Nat.lt_succ_self ck
  · simp only [Array.toList_push, List.map_append, List.map_cons, List.map_nil]
    refine List.nodup_append.2 ⟨h.2, by simp, fun a ha b hb => ?_⟩
    simp only [List.mem_singleton] at hb
    subst hb
    obtain ⟨x, hx, rfl⟩ := List.mem_map.1 ha
    exact Nat.ne_of_lt (h.1 x hx)

theorem Born.same {en en' : Array MapEntry} {ck : Nat} (h : Born en ck) (he : en'.toList.map (·.born) = en.toList.map (·.born)) : Born en' ck := by
  refine ⟨fun x hx => ?_, by rw [he]; exact h.2⟩
  have : x.born ∈ en'.toList.map (·.born) := List.mem_map_of_mem hx
  rw [he] at this
  obtain ⟨y, hy, hxy⟩ := List.mem_map.1 this
  rw [← hxy]; exact h.1 y hy

theorem Born.modify {en : Array MapEntry} {ck : Nat} (h : Born en ck) (j : Nat) {f : MapEntry → MapEntry} (hf : ∀ m, (f m).born = m.born) : Born (en.modify j f) ck := by
  refine h.same ?_
  refine List.ext_getElem? fun i => ?_
  simp only [List.getElem?_map, Array.getElem?_toList, Array.getElem?_modify]
  split
  · cases en[i]? <;> simp [hf]
  · rfl

theorem Born.erase {en : Array MapEntry} {ck : Nat} (h : Born en ck) (j : Nat) : Born (en.eraseIdxIfInBounds j) ck := by
  have hs : (en.eraseIdxIfInBounds j).toList.Sublist en.toList := by simpa using List.eraseIdx_sublist en.toList j
  exact ⟨fun x hx => h.1 x (hs.subset hx), (hs.map (·.born)).nodup h.2⟩

theorem run_getMap {b : Nat} {en : Array MapEntry} {ck : Nat} (hb : w.heap[b]? = some (.map en ck)) : (getObj b).run P w = .ok (.map en ck) w := by
  simp [getObj, Sem.run, hb]
theorem run_setMap {b : Nat} {en : Array MapEntry} {ck : Nat} (hb : w.heap[b]? = some (.map en ck)) (O' : Obj) : (setObj b O').run P w = .ok () { w with heap := w.heap.setIfInBounds b O' } := by
  simp [setObj, Sem.run, hb]

theorem sameK_bits {d : TypeDesc} {x y : AV} {X Y : Value} (hx : VRel E x X) (hy : VRel E y Y) (h : sameK d x y = some true) (n : Nat) : Instr.sameBits (n + 1) Y X = true := by
  unfold sameK at h
  split at h
  · simp only [Option.some.injEq, eqB_dec, decide_eq_true_eq] at h
    subst h
    simp only [VRel] at hx hy
    rw [hx.2, hy.2]
    simp [Instr.sameBits, strV, MapKept.bytes_beq]
  · simp only [VRel] at hx hy
    subst hx hy
    rename_i k a k' b
    by_cases hk : k = k'
    · simp only [hk, if_true, Option.some.injEq, beq_iff_eq] at h
      simp [Instr.sameBits, hk, h]
    · simp [hk] at h
  · simp only [VRel] at hx hy
    subst hx hy
    simp only [Option.some.injEq, beq_iff_eq] at h
    simp [Instr.sameBits, h]
  · cases h

theorem MRels.get : ∀ {es : List (AV × AV)} {L : List MapEntry}, MRels E es L → ∀ {i : Nat} {q : AV × AV}, es[i]? = some q → ∃ m, L[i]? = some m ∧ VRel E q.1 m.key ∧ VRel E q.2 m.val
  | [], _, _, i, q, hq => by simp at hq
  | (k, v) :: es, L, h, i, q, hq => by
    simp only [MRels] at h
    obtain ⟨en, r, hk, hv, hr, rfl⟩ := h
    cases i with
    | zero => simp at hq; subst hq; exact ⟨en, by simp, hk, hv⟩
    | succ i => simp at hq; obtain ⟨m, hm, h1⟩ := MRels.get hr hq; exact ⟨m, by simpa using hm, h1⟩

theorem MRels.setL : ∀ {es : List (AV × AV)} {L : List MapEntry}, MRels E es L → ∀ {i : Nat} {k v : AV} {f : MapEntry → MapEntry}, (∀ m, VRel E k (f m).key ∧ VRel E v (f m).val) → MRels E (setL es i (k, v)) (L.modify i f)
  | [], L, h, i, k, v, f, hf => by simp only [MRels] at h; subst h; simp [AX.setL, MRels]
  | (k', v') :: es, L, h, i, k, v, f, hf => by
    simp only [MRels] at h
    obtain ⟨en, r, hk, hv, hr, rfl⟩ := h
    cases i with
    | zero => simp only [AX.setL, MRels]; exact ⟨f en, r, (hf en).1, (hf en).2, hr, by simp⟩
    | succ i => simp only [AX.setL, MRels]; exact ⟨en, r.modify i f, hk, hv, MRels.setL hr hf, by simp⟩

theorem MRels.snoc : ∀ {es : List (AV × AV)} {L : List MapEntry}, MRels E es L → ∀ {k v : AV} {m : MapEntry}, VRel E k m.key → VRel E v m.val → MRels E (es ++ [(k, v)]) (L ++ [m])
  | [], L, h, k, v, m, hk, hv => by simp only [MRels] at h; subst h; simp only [List.nil_append, MRels]; exact ⟨m, [], hk, hv, rfl, rfl⟩
  | (k', v') :: es, L, h, k, v, m, hk, hv => by
    simp only [MRels] at h
    obtain ⟨en, r, hk', hv', hr, rfl⟩ := h
    simp only [List.cons_append, MRels]
    exact ⟨en, r ++ [m], hk', hv', MRels.snoc hr hk hv, by simp⟩

theorem MRels.eraseL : ∀ {es : List (AV × AV)} {L : List MapEntry}, MRels E es L → ∀ {i : Nat}, MRels E (eraseL es i) (L.eraseIdx i)
  | [], L, h, i => by simp only [MRels] at h; subst h; simp [AX.eraseL, MRels]
  | (k', v') :: es, L, h, i => by
    simp only [MRels] at h
    obtain ⟨en, r, hk', hv', hr, rfl⟩ := h
    cases i with
    | zero => simpa [AX.eraseL] using hr
    | succ i => simp only [AX.eraseL, MRels]; exact ⟨en, r.eraseIdx i, hk', hv', MRels.eraseL hr, by simp⟩

theorem mapUpdate_acts (he : EnvOk e P) (hs : Sim w0 E s w) {t : TypeId} {x k v : AV} {X K V : Value} (hx : VRel E x X) (hk : VRel E k K) (hv : VRel E v V) {s' : St} (h : mapUpdateA e s t x k v = some s') :
    ∃ w', (Instr.mapUpdate t X K V).run P w = .ok () w' ∧ Sim w0 E s' w' := by
  unfold mapUpdateA at h
  split at h
  · rename_i ti id hti
    obtain ⟨inf, hinf, hu, _, _, _⟩ := he.ty _ _ hti
    split at h
    · rename_i key el es hd hg
      rw [hd] at hu
      split at h
      · rename_i ki hki
        obtain ⟨kin, hkin, hku, _, _, _⟩ := he.ty _ _ hki
        cases hok : keyOk ki.desc with
        | false => simp [hok] at h
        | true =>
          simp only [hok, cond_true] at h
          simp only [VRel] at hx
          obtain ⟨p, hp, rfl⟩ := hx
          obtain ⟨q, O, hq, hO, hrel, _⟩ := hs.obj id _ hg
          rw [hp] at hq; cases hq
          simp only [ORel] at hrel
          obtain ⟨en, ck, rfl, hm, hB⟩ := hrel
          have hck : ∀ b, (Instr.checkKey b 10000 key K).run P w = .ok () w := fun b => checkKey_ok hku hok b 9999 K w
          cases hf : findK ki.desc k es 0 with
          | none => simp [hf] at h
          | some r =>
            rcases findK_sound hk hm hf with ⟨rfl, hn⟩ | ⟨j, u, U, rfl, _, hn, _, k', K', g1, g2, g3, g4⟩
            · simp only [hf, Option.some.injEq] at h
              subst h
              have hfk := MapKept.run_findKey (w := w) hku hn
              refine ⟨_, ?_, hs.puts hg hp (puts_set (O' := .map (en.push { key := K, val := V, born := ck }) (ck + 1)) hO) ?_⟩
              · simp [Instr.mapUpdate, run_underlying hu, run_getMap hO, hck, hfk, run_setMap hO]
              · simp only [ORel]
                exact ⟨_, _, rfl, by simpa using hm.snoc (m := { key := K, val := V, born := ck }) hk hv, hB.push _ _⟩
            · simp only [hf, Option.some.injEq] at h
              subst h
              have hfk := MapKept.run_findKey (w := w) hku hn
              obtain ⟨m, hmg, hmk, hmv⟩ := hm.get g1
              simp only [Nat.sub_zero] at hmg g1
              have hmj : en[j]? = some m := by simpa using hmg
              have hbits : Instr.sameBits 10000 m.key K = true := sameK_bits hk hmk g4 9999
              refine ⟨_, ?_, hs.puts hg hp (puts_set (O' := .map (en.modify j fun m => { m with key := K, val := V }) ck) hO) ?_⟩
              · simp [Instr.mapUpdate, run_underlying hu, run_getMap hO, hck, hfk, run_setMap hO, Instr.keyThatStays, hmj, hbits]
              · simp only [ORel]
                exact ⟨_, _, rfl, by simpa using hm.setL (i := j) (f := fun m => { m with key := K, val := V }) (fun m => ⟨hk, hv⟩), hB.modify j (fun _ => rfl)⟩
      · cases h
    · cases h
  · cases h

theorem delete_acts (he : EnvOk e P) (hs : Sim w0 E s w) {tys : List TypeId} {args : List AV} {L : List Value} (hx : VRels E args L) {s' : St} {ty : TypeId} (h : deleteA e s tys args = some s') :
    ∃ w', (Builtin.delete_ tys.toArray ty L.toArray).run P w = .ok undef w' ∧ Sim w0 E s' w' := by
  unfold deleteA at h
  split at h
  · rename_i t tys x k
    simp only [VRels] at hx
    obtain ⟨X, Xs, hx, ⟨K, Ks, hk, hnil, rfl⟩, rfl⟩ := hx
    subst hnil
    split at h
    · rename_i ti id hti
      obtain ⟨inf, hinf, hu, _, _, _⟩ := he.ty _ _ hti
      split at h
      · rename_i key el es hd hg
        rw [hd] at hu
        split at h
        · rename_i ki hki
          obtain ⟨kin, hkin, hku, _, _, _⟩ := he.ty _ _ hki
          cases hok : keyOk ki.desc with
          | false => simp [hok] at h
          | true =>
            simp only [hok, cond_true] at h
            simp only [VRel] at hx
            obtain ⟨p, hp, rfl⟩ := hx
            obtain ⟨q, O, hq, hO, hrel, _⟩ := hs.obj id _ hg
            rw [hp] at hq; cases hq
            simp only [ORel] at hrel
            obtain ⟨en, ck, rfl, hm, hB⟩ := hrel
            have hck : ∀ b, (Instr.checkKey b 10000 key K).run P w = .ok () w := fun b => checkKey_ok hku hok b 9999 K w
            cases hf : findK ki.desc k es 0 with
            | none => simp [hf] at h
            | some r =>
              rcases findK_sound hk hm hf with ⟨rfl, hn⟩ | ⟨j, u, U, rfl, _, hn, _, k', K', g1, g2, g3, g4⟩
              · simp only [hf, Option.some.injEq] at h
                subst h
                have hfk := MapKept.run_findKey (w := w) hku hn
                have hs' := hs.puts hg hp (puts_set (O' := .map en ck) hO) (o' := .map es) (by simp only [ORel]; exact ⟨_, _, rfl, hm, hB⟩)
                refine ⟨{ w with heap := w.heap.setIfInBounds p.1 (.map en ck) }, ?_, ?_⟩
                · simp [Builtin.delete_, run_underlying hu, run_getMap hO, hck, hfk, run_setMap hO, undef]
                · refine ⟨fun i o hi => ?_, hs.inj, hs.fresh, hs'.below⟩
                  refine hs'.obj i o ?_
                  simp only [Tr.get_set]
                  by_cases hii : i = id
                  · subst hii; rw [hg] at hi; cases hi; simp
                  · rw [if_neg hii]; exact hi
              · simp only [hf, Option.some.injEq] at h
                subst h
                have hfk := MapKept.run_findKey (w := w) hku hn
                refine ⟨_, ?_, hs.puts hg hp (puts_set (O' := .map (en.eraseIdxIfInBounds j) ck) hO) ?_⟩
                · simp [Builtin.delete_, run_underlying hu, run_getMap hO, hck, hfk, run_setMap hO, undef]
                · simp only [ORel]
                  exact ⟨_, _, rfl, by simpa using hm.eraseL (i := j), hB.erase j⟩
        · cases h
      · cases h
    · cases h
  · cases h


/-! ### New slices -/
theorem repL_length (z : List AV) : ∀ n, (repL z n).length = n * z.length
  | 0 => by simp [repL]
  | n + 1 => by simp [repL, repL_length z n, Nat.succ_mul]; omega

/-- So many times the cells of a zero value. -/
def repV (Z : List Value) : Nat → List Value
  | 0 => []
  | n + 1 => Z ++ repV Z n

theorem repL_rel {z : List AV} {Z : List Value} (h : VRels E z Z) : ∀ n, VRels E (repL z n) (repV Z n)
  | 0 => VRels.nil
  | n + 1 => h.append (repL_rel h n)

theorem repV_get (Z : List Value) : ∀ (n i : Nat), i < n * Z.length → (repV Z n)[i]? = Z[i % Z.length]?
  | 0, i, h => by simp at h
  | n + 1, i, h => by
    simp only [repV]
    by_cases hi : i < Z.length
    · rw [List.getElem?_append_left hi, Nat.mod_eq_of_lt hi]
    · rw [List.getElem?_append_right (by omega), repV_get Z n (i - Z.length) (by rw [Nat.succ_mul] at h; omega)]
      congr 1
      rw [← Nat.mod_eq_sub_mod (by omega)]

theorem repV_length (Z : List Value) : ∀ n, (repV Z n).length = n * Z.length
  | 0 => by simp [repV]
  | n + 1 => by simp [repV, repV_length Z n, Nat.succ_mul]; omega

theorem zeros_eq {Z : Array Value} {n : Nat} (hz : 0 < Z.size ∨ n = 0) : ((Array.range (n * Z.size)).map (Z[· % Z.size]!)) = (repV Z.toList n).toArray := by
  apply Array.ext'
  simp only [Array.toList_map, Array.toList_range]
  refine List.ext_getElem? fun i => ?_
  by_cases hi : i < n * Z.size
  · have h1 := repV_get Z.toList n i (by simpa using hi)
    have hpos : 0 < Z.size := by
      rcases hz with h | h
      · exact h
      · subst h; simp at hi
    have hm : i % Z.size < Z.size := Nat.mod_lt _ hpos
    simp only [Array.length_toList] at h1
    rw [h1]
    simp [hi, hm, getElem!_pos]
  · have hlen := repV_length Z.toList n
    simp only [Array.length_toList] at hlen
    rw [List.getElem?_eq_none (by simp; omega), List.getElem?_eq_none (by omega)]

theorem run_ask (n : Nat) (w : World) : (askRoom n).run P w = .ok () w := by unfold askRoom; split <;> simp

theorem range0 : Array.range 0 = #[] := rfl

theorem natOf_int {x : AV} {n : Nat} {X : Value} (hx : VRel E x X) (h : natOf x = some n) : (asInt X).run P w = .ok (n : Int) w := by
  obtain ⟨k, rfl⟩ := natOf_rel hx h
  simp [asInt, asIntOf]

theorem wrap_small {n : Nat} (h : n ≤ 1048576) : IntKind.i64.wrap (n : Int) = n := by
  unfold IntKind.wrap
  have hb : (IntKind.i64.bits) = 64 := rfl
  have hs : IntKind.i64.signed = true := rfl
  simp only [hb, hs, Bool.true_and]
  have h1 : ((n : Int) % (2 ^ 64 : Int)) = n := Int.emod_eq_of_lt (by omega) (by omega)
  rw [h1]
  rw [if_neg (by simp; omega)]

theorem slice_new {id b K len cap : Nat} {ex : Bool} (hlc : len ≤ cap) (hk : ex = false → cap ≤ K) :
    VRel (E.put id (b, 0, K)) (.slice id 0 len 0 cap ex) (.slice (some ⟨b, 0, none⟩) len (if ex then cap else K)) := by
  simp only [VRel]
  exact ⟨_, Em.put_same _ _ _, by simp, hlc, fun h => by simpa using hk h⟩

theorem makeSlice_acts (he : EnvOk e P) (hs : Sim w0 E s w) {t : TypeId} {l c v : AV} {L C : Value} (hl : VRel E l L) (hc : VRel E c C) {s' : St} (h : makeSliceA e s t l c = some (v, s')) : Acts P w0 E w (Instr.makeSlice t L C) v s' := by
  unfold makeSliceA at h
  split at h
  · rename_i ti ln cn hti hln hcn
    obtain ⟨inf, hinf, hu, _, _, _⟩ := he.ty _ _ hti
    split at h
    · rename_i el hd
      rw [hd] at hu
      split at h
      · rename_i eli z heli hz
        obtain ⟨j, hj, _, hsz, hby, hzz⟩ := he.ty _ _ heli
        cases hcond : (Nat.ble ln cn && Nat.ble (cn * eli.bytes) 1048576 && Nat.ble cn 1048576) && (Nat.beq z.cells.length eli.size && Nat.blt 0 eli.size) with
        | false => simp [hcond] at h
        | true =>
          simp only [hcond, cond_true, Option.some.injEq, Prod.mk.injEq] at h
          obtain ⟨rfl, rfl⟩ := h
          simp only [Bool.and_eq_true] at hcond
          have h1 := Nat.le_of_ble_eq_true hcond.1.1.1
          have h2 := Nat.le_of_ble_eq_true hcond.1.1.2
          have h3 := Nat.le_of_ble_eq_true hcond.1.2
          have h4 : z.cells.length = eli.size := by simpa [beq_dec] using hcond.2.1
          have h5 : 0 < eli.size := blt_iff.1 hcond.2.2
          obtain ⟨Z, hZ, hzr⟩ := zero_sound (E := E) he hz w
          have hZc := cells_rel hZ
          have hZl : Z.cells.size = eli.size := by have := hZc.length; simp at this; omega
          obtain ⟨g1, g2⟩ := alloc_cells hs (repL_rel hZc cn) el 0 []
          refine ⟨.slice (some ⟨w.heap.size, 0, none⟩) ln cn, _, _, ?_, g1, ?_, g2⟩
          · have hi1 := natOf_int (P := P) (w := w) hl hln
            have hi2 := natOf_int (P := P) (w := w) hc hcn
            have hzero := zeros_eq (Z := Z.cells) (n := cn) (.inl (by omega))
            have e1 : (j.bytes : Int) * (cn : Int) ≤ 1048576 := by
              have h2' : ((cn * eli.bytes : Nat) : Int) ≤ 1048576 := by omega
              rw [Int.natCast_mul, Int.mul_comm] at h2'
              rw [hby]; exact h2'
            have hif : ¬ ((decide ((cn : Int) < 0) || decide ((j.bytes : Int) * (cn : Int) > 2 ^ 48) || decide ((ln : Int) < 0) || decide ((ln : Int) > (cn : Int))) = true) := by
              simp only [Bool.or_eq_true, decide_eq_true_eq]
              omega
            unfold Instr.makeSlice
            simp only [Sem.run_bind, run_underlying hu, Result.andThen, hi1, hi2, run_typeInfo w hj, wrap_small h3, wrap_small (Nat.le_trans h1 h3)]
            rw [if_neg hif]
            have hsz2 : j.size = Z.cells.size := by omega
            simp only [Sem.run_bind, run_ask, Result.andThen, run_size hj, Int.toNat_natCast, hsz2]
            by_cases hc0 : cn * Z.cells.size = 0
            · rw [if_pos hc0]
              have hcn0 : cn = 0 := by
                rcases Nat.mul_eq_zero.1 hc0 with h | h
                · exact h
                · omega
              subst hcn0
              simp [newRow, repV, range0]
            · rw [if_neg hc0]
              simp only [Sem.run_bind, hzr, Result.andThen, Sem.run_pure]
              rw [hzero]
              simp [newRow]
          · have := slice_new (E := E) (id := s.nx) (b := w.heap.size) (K := 0) (ex := true) h1 (by simp)
            simpa using this
      · cases h
    · cases h
  · cases h


theorem buildSlice_acts (he : EnvOk e P) (hs : Sim w0 E s w) {t : TypeId} {len : Nat} {parts : List (Nat × AV)} {PARTS : List (Nat × Value)} (hi : PARTS.map (·.1) = parts.map (·.1)) (hv : VRels E (parts.map (·.2)) (PARTS.map (·.2)))
    {v : AV} {s' : St} (h : buildSliceA e s t len parts = some (v, s')) : Acts P w0 E w (Instr.buildSlice t len PARTS.toArray) v s' := by
  unfold buildSliceA at h
  split at h
  · rename_i ti hti
    obtain ⟨inf, hinf, hu, _, _, _⟩ := he.ty _ _ hti
    split at h
    · rename_i el hd
      rw [hd] at hu
      split at h
      · rename_i eli z heli hz
        obtain ⟨j, hj, _, hsz, hby, hzz⟩ := he.ty _ _ heli
        cases hcond : Nat.ble (len * eli.size) 100000 && (Nat.beq z.cells.length eli.size && Nat.blt 0 eli.size) with
        | false => simp [hcond] at h
        | true =>
          simp only [hcond, cond_true] at h
          simp only [Bool.and_eq_true] at hcond
          have h1 := Nat.le_of_ble_eq_true hcond.1
          have h4 : z.cells.length = eli.size := by simpa [beq_dec] using hcond.2.1
          have h5 : 0 < eli.size := blt_iff.1 hcond.2.2
          split at h
          · rename_i cs hcs
            simp only [Option.some.injEq, Prod.mk.injEq] at h
            obtain ⟨rfl, rfl⟩ := h
            obtain ⟨Z, hZ, hzr⟩ := zero_sound (E := E) he hz w
            have hZc := cells_rel hZ
            have hZl : Z.cells.size = eli.size := by have := hZc.length; simp at this; omega
            obtain ⟨R, hR, hf⟩ := fill_sound (repL_rel hZc len) hi hv hcs
            obtain ⟨g1, g2⟩ := alloc_cells hs hR el 0 []
            refine ⟨.slice (some ⟨w.heap.size, 0, none⟩) len len, _, _, ?_, g1, ?_, g2⟩
            · have hzero := zeros_eq (Z := Z.cells) (n := len) (.inl (by omega))
              have hsz2 : j.size = Z.cells.size := by omega
              have hbig : ¬ (len * j.size > 2 ^ 24) := by rw [hsz]; omega
              unfold Instr.buildSlice
              simp only [Sem.run_bind, run_underlying hu, Result.andThen, run_size hj]
              rw [if_neg hbig]
              by_cases hc0 : len * j.size = 0
              · rw [if_pos hc0]
                have hl0 : len = 0 := by
                  rcases Nat.mul_eq_zero.1 hc0 with h | h
                  · exact h
                  · omega
                subst hl0
                have hf' : Instr.fill (fun i => some (i * j.size, j.size)) #[] PARTS = some R.toArray := by simpa [hsz, repV] using hf
                simp [hf', newRow, range0]
              · rw [if_neg hc0]
                simp only [Sem.run_bind, hzr, Result.andThen, Sem.run_pure, hsz2]
                rw [hzero]
                have hf' : Instr.fill (fun i => some (i * Z.cells.size, Z.cells.size)) (repV Z.cells.toList len).toArray PARTS = some R.toArray := by rw [hZl]; exact hf
                rw [hf']
                simp [newRow]
            · have := slice_new (E := E) (id := s.nx) (b := w.heap.size) (K := 0) (ex := true) (Nat.le_refl len) (by simp)
              simpa using this
          · cases h
      · cases h
    · cases h
  · cases h

end Go.AX
