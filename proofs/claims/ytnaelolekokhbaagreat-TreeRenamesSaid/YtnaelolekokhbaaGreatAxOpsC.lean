import Derived.Test.YtnaelolekokhbaaGreatAxOpsB
import Derived.Laws.IdiomStrings
import Derived.Laws.RangeString
import Derived.Laws.AppendOwn
namespace Go.AX
open Go.RowKit
variable {e : Env} {P : Program} {w0 : World} {E : Em} {s : St} {w : World} {a : Ac} {A : Act}

theorem cellsOfStr_rel {b : List Nat} (hb : isBytes b) : VRels E (cellsOfStr b) ((b.map UInt8.ofNat).map fun x => Value.int .u8 x.toNat) := by
  unfold cellsOfStr
  induction b with
  | nil => exact VRels.nil
  | cons c b ih =>
    simp only [List.map_cons]
    refine VRels.cons ?_ (ih fun x hx => hb x (by simp [hx]))
    have hc : c < 256 := hb c (by simp)
    simp [VRel, Nat.mod_eq_of_lt hc]

theorem bytes_acts (he : EnvOk e P) (hs : Sim w0 E s w) {src dst : TypeId} {x v : AV} {X : Value} (hx : VRel E x X) {s' : St} (h : bytesA e s src dst x = some (v, s')) : Acts P w0 E w (convert src dst X) v s' := by
  unfold bytesA at h
  split at h
  · rename_i si di b hsi hdi
    obtain ⟨_, _, hu1, _⟩ := he.ty _ _ hsi
    obtain ⟨_, _, hu2, _⟩ := he.ty _ _ hdi
    split at h
    · rename_i el hd1 hd2
      rw [hd1] at hu1
      rw [hd2] at hu2
      split at h
      · rename_i eli heli
        obtain ⟨_, _, hu3, _⟩ := he.ty _ _ heli
        split at h
        · rename_i hd3
          rw [hd3] at hu3
          simp only [Option.some.injEq, Prod.mk.injEq] at h
          obtain ⟨rfl, rfl⟩ := h
          simp only [VRel] at hx
          obtain ⟨hb, rfl⟩ := hx
          have hrun := run_bytes_of_string (P := P) w src dst el ⟨(b.map UInt8.ofNat).toArray⟩ hu1 hu2 hu3
          simp only [size_mk, List.length_map] at hrun
          have hge := grownCap_ge w b.length 0 el
          generalize hG : grownCap w b.length 0 el = G at hrun hge
          have hs1 : Sim w0 E s w.drew := hs.drew
          have hle := Em.le_put E s.nx (w.drew.heap.size, 0, G) hs1.free
          refine ⟨_, _, E.put s.nx (w.drew.heap.size, 0, G), hrun, hle, ?_, hs1.alloc ?_⟩
          · have := slice_new (E := E) (id := s.nx) (b := w.heap.size) (K := G) (ex := false) (Nat.le_refl b.length) (fun _ => hge)
            simpa using this
          · simp only [ORel]
            refine ⟨_, _, rfl, fun i v hv => ?_, ⟨fun i _ hi => by simp; omega, fun h0 => (by cases h0), fun _ => (by simp [bytesRow, size_mk]; omega), fun _ => rfl⟩⟩
            obtain ⟨V, hV, hr⟩ := (cellsOfStr_rel (E := E) hb).get hv
            refine ⟨V, ?_, hr.mono hle⟩
            simp only [bytesRow, Nat.zero_add]
            rw [Array.getElem?_append_left (by have := (List.getElem?_eq_some_iff.1 hV).1; simp at this ⊢; omega)]
            simpa using hV
        · cases h
      · cases h
    · cases h
  · cases h

theorem range_acts (hs : Sim w0 E s w) {t : TypeId} (hu : P.underlying t = some .string) {b : List Nat} (hb : isBytes b) : Acts P w0 E w (Instr.range t (strV b)) (.ptr s.nx 0) (s.alloc (.siter b 0 b)) := by
  have hle := Em.le_put E s.nx (w.heap.size, 0, 0) hs.free
  refine ⟨_, _, _, run_range_string w t _ hu, hle, ptr_new, hs.alloc (K := 0) ?_⟩
  simp only [ORel]
  simp [hb]

theorem next_acts (hs : Sim w0 E s w) {id : Nat} {b left : List Nat} {pos : Nat} (hg : s.h.get id = some (.siter b pos left)) {X : Value} (hx : VRel E (.ptr id 0) X) (ty : TypeId) :
    (left = [] → Acts P w0 E w (Instr.next X true ty) (.tuple [boolA false]) s) ∧
    (∀ c l, left = c :: l → c < 128 → Acts P w0 E w (Instr.next X true ty) (.tuple [boolA true, intA pos, .raw (.int .i32 (.ofNat c))]) { s with h := s.h.set id (.siter b (pos + 1) l) }) := by
  simp only [VRel] at hx
  obtain ⟨p, hp, rfl⟩ := hx
  obtain ⟨q, O, hq, hO, hrel, _⟩ := hs.obj id _ hg
  rw [hp] at hq; cases hq
  simp only [ORel] at hrel
  obtain ⟨hb, rfl, hleft, hd⟩ := hrel
  have hX : (⟨p.1, p.2.1 + 0, none⟩ : Addr) = ⟨p.1, 0, none⟩ := by rw [hd]
  rw [hX]
  have hget : (getObj p.1).run P w = .ok (.stringIter ⟨(b.map UInt8.ofNat).toArray⟩ pos) w := by simp [getObj, Sem.run, hO]
  refine ⟨fun hnil => ?_, fun c l hcl hc => ?_⟩
  · have hpos : ¬ pos < (⟨(b.map UInt8.ofNat).toArray⟩ : ByteArray).size := by
      rw [hnil] at hleft
      have := congrArg List.length hleft
      simp [size_mk] at this ⊢
      omega
    refine ⟨.tuple #[.bool false], w, E, ?_, Em.le_refl E, ?_, hs⟩
    · simp [Instr.next, hget, hpos]
    · simp only [VRel]; exact ⟨[.bool false], VRels.cons bool_rel VRels.nil, rfl⟩
  · have hcb : b[pos]? = some c := by
      have := congrArg (fun q => q[0]?) hleft
      simp [hcl] at this
      exact this.symm
    have hlt : pos < b.length := (List.getElem?_eq_some_iff.1 hcb).1
    have hlt' : pos < (⟨(b.map UInt8.ofNat).toArray⟩ : ByteArray).size := by simpa [size_mk] using hlt
    have hval : ((⟨(b.map UInt8.ofNat).toArray⟩ : ByteArray)[pos]'hlt').toNat = c := by
      have hcc : b[pos] = c := (List.getElem?_eq_some_iff.1 hcb).2
      show ((b.map UInt8.ofNat).toArray[pos]'_).toNat = _
      simp [hcc]; omega
    have hdec := decode_ascii ⟨(b.map UInt8.ofNat).toArray⟩ pos hlt' (by rw [hval]; exact hc)
    rw [hval] at hdec
    refine ⟨.tuple #[.bool true, .int .i64 pos, .int .i32 c], _, E, ?_, Em.le_refl E, ?_, hs.puts hg hp (puts_set (O' := .stringIter ⟨(b.map UInt8.ofNat).toArray⟩ (pos + 1)) hO) ?_⟩
    · simp [Instr.next, hget, hlt', hdec, goInt, setObj, Sem.run, hO]
    · simp only [VRel]; exact ⟨[.bool true, .int .i64 pos, .int .i32 c], VRels.cons bool_rel (VRels.cons int_rel (VRels.cons raw_rel VRels.nil)), rfl⟩
    · simp only [ORel]
      refine ⟨hb, trivial, ?_, hd⟩
      have := congrArg List.tail hleft
      simpa [hcl, List.tail_drop] using this

/-! ### Sources of copies -/
theorem first_sound (hs : Sim w0 E s w) {x : AV} {X : Value} (hx : VRel E x X) {n len size : Nat} (hl : lenA x = some len) (hn : n ≤ len) {cs : List AV} (h : firstA s size n x = some cs) :
    (∀ w' : World, (Builtin.lenOf X).run P w' = .ok len w') ∧ ∃ L : List Value, VRels E cs L ∧ ∀ d, (Builtin.firstCells size n X).run P { w with drawn := d } = .ok L.toArray { w with drawn := d } := by
  unfold firstA at h
  split at h
  · rename_i id off m ci cap ex
    simp only [lenA, Option.some.injEq] at hl
    subst hl
    simp only [VRel] at hx
    obtain ⟨p, hp, rfl, _⟩ := hx
    split at h
    · rename_i cells _ _ hcs
      obtain ⟨q, O, hq, hO, hrel, _⟩ := hs.obj id _ (getCells_some hcs)
      rw [hp] at hq; cases hq
      obtain ⟨L, h1, h2, h3⟩ := cut_rel hO hrel h
      refine ⟨fun _ => by simp [Builtin.lenOf], L, h1, fun d => ?_⟩
      have hrun := run_loadCells' (P := P) (w := { w with drawn := d }) (b := p.1) (o := p.2.1 + off) L 0 #[] (fun j V hj => by have := h3 j V hj; simp only [Nat.add_zero]; exact this)
      rw [h2] at hrun
      simpa [Builtin.firstCells, loadCells] using hrun
    · cases h
  · rename_i id off ci l sz
    simp only [lenA, Option.some.injEq] at hl
    subst hl
    simp only [Option.some.injEq] at h
    subst h
    obtain rfl : n = 0 := by omega
    simp only [VRel] at hx
    obtain ⟨p, hp, rfl⟩ := hx
    exact ⟨fun _ => by simp [Builtin.lenOf], [], VRels.nil, fun d => by simp [Builtin.firstCells, loadCells, loadCellsFrom]⟩
  · simp only [Option.some.injEq] at h
    subst h
    simp only [VRel] at hx
    subst hx
    rename_i m c
    simp only [lenA, Option.some.injEq] at hl
    subst hl
    exact ⟨fun _ => by simp [Builtin.lenOf], [], VRels.nil, fun d => by simp [Builtin.firstCells]⟩
  · rename_i b
    simp only [lenA, Option.some.injEq] at hl
    subst hl
    simp only [Option.some.injEq] at h
    subst h
    simp only [VRel] at hx
    obtain ⟨hb, rfl⟩ := hx
    refine ⟨fun _ => by simp [Builtin.lenOf, strV, size_mk], _, cellsOfStr_rel (b := b.take n) (fun c hc => hb c (List.mem_of_mem_take hc)), fun d => ?_⟩
    have hex := extract_mk b 0 n
    simp only [Builtin.firstCells, strV, Sem.run_pure, hex]
    congr 1
    apply Array.ext'
    simp
  · cases h

theorem copy_acts (he : EnvOk e P) (hs : Sim w0 E s w) {tys : List TypeId} {args : List AV} {L : List Value} (hx : VRels E args L) {v : AV} {s' : St} {ty : TypeId} (h : copyA e s tys args = some (v, s')) :
    Acts P w0 E w (Builtin.copy_ tys.toArray ty L.toArray) v s' := by
  unfold copyA at h
  split at h
  · rename_i t tys id off dl ci cap ex x
    simp only [VRels] at hx
    obtain ⟨X, Xs, hx, ⟨Y, Ys, hy, hnil, rfl⟩, rfl⟩ := hx
    subst hnil
    split at h
    · rename_i ti hti
      obtain ⟨inf, hinf, hu, _, _, _⟩ := he.ty _ _ hti
      split at h
      · rename_i elem hd
        rw [hd] at hu
        split at h
        · rename_i el xl hel hxl
          obtain ⟨j, hj, _, hsz, _, _⟩ := he.ty _ _ hel
          dsimp only at h
          split at h
          · rename_i cs hcs
            split at h
            · rename_i s1 hst
              simp only [Option.some.injEq, Prod.mk.injEq] at h
              obtain ⟨rfl, rfl⟩ := h
              obtain ⟨hlen, M, hM, hfirst⟩ := first_sound (P := P) hs hy hxl (Nat.min_le_left xl dl) hcs
              simp only [VRel] at hx
              obtain ⟨p, hp, rfl, _⟩ := hx
              obtain ⟨w', hr, hsim⟩ := storeCells_acts (P := P) hs hp hM hst
              refine ⟨_, w', E, ?_, Em.le_refl E, int_rel, hsim⟩
              have hf := hfirst w.drawn
              simp [Builtin.copy_, run_underlying hu, hlen, run_size hj, hsz, hf, hr, goInt]
            · cases h
          · cases h
        · cases h
      · cases h
    · cases h
  · cases h


/-! ### append -/
theorem growBy_le (m : Nat) : ∀ (r c : Nat), c ≤ m → Builtin.growBy m r c ≤ 2 * m + 1000
  | 0, c, h => by simp [Builtin.growBy]; omega
  | r + 1, c, h => by
    unfold Builtin.growBy
    split
    · omega
    · by_cases h' : c + (c + 768) / 4 ≤ m
      · exact growBy_le m r _ h'
      · have : ∀ r', Builtin.growBy m r' (c + (c + 768) / 4) = c + (c + 768) / 4 := fun r' => by
          cases r' with
          | zero => rfl
          | succ r' => unfold Builtin.growBy; rw [if_pos (by omega)]
        rw [this]; omega

theorem nextcap_le {need cap : Nat} (h : cap < need) : Builtin.nextslicecap need cap ≤ 2 * need + 1000 := by
  unfold Builtin.nextslicecap
  split
  · omega
  · split
    · omega
    · exact growBy_le need 4 cap (by omega)

/-- What is appended: so many elements, these cells. -/
structure App (P : Program) (w : World) (t xt ty el : TypeId) (i : TypeInfo) (z X : Value) (n : Nat) (L : List Value) : Prop where
  room : ∀ (b off sl sc : Nat) (w' : World), sl + n ≤ sc → (storeCells ⟨b, off + sl * i.size, none⟩ L).run P w = .ok () w' →
    (Builtin.append_ #[t, xt] ty #[.slice (some ⟨b, off, none⟩) sl sc, X]).run P w = .ok (.slice (some ⟨b, off, none⟩) (sl + n) sc) w'
  nil0 : n = 0 → (Builtin.append_ #[t, xt] ty #[.slice none 0 0, X]).run P w = .ok (.slice none 0 0) w
  grow : ∀ (base : Option Addr) (sl sc : Nat) (olds : List Value), sc < sl + n → sl + n ≤ 1048576 → Builtin.nextslicecap (sl + n) sc * i.bytes ≤ 281474976710656 →
    (Builtin.firstCells i.size sl (.slice base sl sc)).run P w.drew = .ok olds.toArray w.drew →
    (Builtin.append_ #[t, xt] ty #[.slice base sl sc, X]).run P w = .ok (.slice (some ⟨w.heap.size, 0, none⟩) (sl + n) (grownCap w (sl + n) sc el))
      (w.drew.alloc (.cells ((olds ++ L).toArray ++ Builtin.zeroCells z.cells (grownCap w (sl + n) sc el - (sl + n))) el))

theorem app_src {t xt ty el : TypeId} {i : TypeInfo} {z X : Value} {n : Nat} {L : List Value} (ht : P.underlying t = some (.slice el)) (hi : P.info? el = some i) (hz : i.zero = some z) (hs : Src P i.size xt X n L w) : App P w t xt ty el i z X n L := by
  refine ⟨fun b off sl sc w' hle hst => ?_, fun hn => ?_, fun base sl sc olds hlt hn hb hold => ?_⟩
  · rcases hs.kind with ⟨e', hk⟩ | hk <;> simp [Builtin.append_, run_underlying ht, run_underlying hk, sizeOf, typeInfo, hi, hs.len, hle, hs.cells, Addr.add_none, hst]
  · subst hn
    rcases hs.kind with ⟨e', hk⟩ | hk <;> simp [Builtin.append_, run_underlying ht, run_underlying hk, sizeOf, typeInfo, hi, hs.len, hs.cells]
  · exact run_append_grow_src (P := P) w t xt ty el i z ht hi hz base sl sc olds hold X n L hs hlt (by omega) hb

theorem app_zeros {t xt ty el : TypeId} {i : TypeInfo} {z : Value} {k k' : IntKind} {n : Nat} (ht : P.underlying t = some (.slice el)) (hi : P.info? el = some i) (hz : i.zero = some z) (hk : P.underlying xt = some (.int k)) (hn : n ≤ 1048576)
    (hb : n * i.bytes ≤ 1048576) (hn0 : 0 < n) (hsz : z.cells.size = i.size) (hpos : 0 < i.size) : App P w t xt ty el i z (.int k' n) n (repV z.cells.toList n) := by
  have hzc : ∀ m, Builtin.zeroCells z.cells m = (repV z.cells.toList m).toArray := fun m => by
    unfold Builtin.zeroCells
    exact zeros_eq (.inl (by omega))
  have hneg : ¬ ((n : Int) < 0) := by omega
  have hbig : ¬ ((n : Int) * (i.bytes : Int) > 2 ^ 48) := by
    have h2' : ((n * i.bytes : Nat) : Int) ≤ 1048576 := by omega
    rw [Int.natCast_mul] at h2'
    omega
  have hbig' : ¬ (281474976710656 < (n : Int) * (i.bytes : Int)) := by omega
  have hne : ¬ (n * i.size = 0) := fun h0 => by
    rcases Nat.mul_eq_zero.1 h0 with h | h <;> omega
  refine ⟨fun b off sl sc w' hle hst => ?_, fun hn0 => by omega, fun base sl sc olds hlt hn' hb' hold => ?_⟩
  · unfold Builtin.append_
    simp [run_underlying ht, run_underlying hk, sizeOf, typeInfo, hi, asInt, asIntOf, wrap_small hn, hneg, hbig', hle, Addr.add_none, hne, run_zero hi hz, hzc, hst]
  · have hnle : ¬ (sl + n ≤ sc) := by omega
    have h63' : ¬ (9223372036854775807 < ((sl : Int) + (n : Int))) := by omega
    have h48' : ¬ (281474976710656 < Builtin.nextslicecap (sl + n) sc * i.bytes) := by omega
    unfold Builtin.append_
    simp [run_underlying ht, run_underlying hk, sizeOf, typeInfo, hi, asInt, asIntOf, wrap_small hn, hneg, hbig', hnle, h63', h48', Question.forced, hold, newRow, grownCap, hne, run_zero hi hz, hzc]


theorem fit48 {n b : Nat} (h : n * b ≤ 1048576) (hn : 0 < n) {m : Nat} (hm : m ≤ 2 * n + 1000) : m * b ≤ 281474976710656 := by
  have h1 : b ≤ n * b := Nat.le_mul_of_pos_left b hn
  have h2 : m * b ≤ (2 * n + 1000) * b := Nat.mul_le_mul_right b hm
  have h3 : (2 * n + 1000) * b = 2 * (n * b) + 1000 * b := by rw [Nat.add_mul, Nat.mul_assoc]
  omega

theorem zeroCells_eq {Z : Array Value} (h : 0 < Z.size) (m : Nat) : Builtin.zeroCells Z m = (repV Z.toList m).toArray := zeros_eq (.inl h)

theorem grow_acts (hs : Sim w0 E s w) {t xt ty elem : TypeId} {i : TypeInfo} {el : TI} (hsz : i.size = el.size) (hby : i.bytes = el.bytes) {b v : AV} {Z B X : Value} (hb : VRel E b B) {n : Nat} {new : List AV} {L : List Value} (hnew : VRels E new L)
    (hZl : Z.cells.size = el.size) (hpos : 0 < el.size) (hlen : new.length = n * el.size) (hone : new.all AV.one = true) (app : App P w t xt ty elem i Z X n L) {s' : St} (h : growA s elem el b n new = some (v, s')) :
    Acts P w0 E w (Builtin.append_ #[t, xt] ty #[B, X]) v s' := by
  have hL := hnew.length
  have hZr : ∀ m, (repV Z.cells.toList m).length = m * el.size := fun m => by rw [repV_length]; simp [hZl]
  have hdbl : 2 * el.size / 2 = el.size := by omega
  unfold growA at h
  split at h
  · -- the nil slice
    simp only [VRel] at hb
    subst hb
    by_cases hn : n = 0
    · subst hn
      simp at h
      obtain ⟨rfl, rfl⟩ := h
      exact ⟨_, w, E, app.nil0 rfl, Em.le_refl E, raw_rel, hs⟩
    · have hnb : Nat.beq n 0 = false := by rw [beq_dec]; simpa using hn
      simp only [hnb, cond_false] at h
      cases hc : Nat.ble (n * el.bytes) 1048576 && Nat.ble n 1048576 with
      | false => simp [hc] at h
      | true =>
        simp only [hc, cond_true, Option.some.injEq, Prod.mk.injEq] at h
        obtain ⟨rfl, rfl⟩ := h
        simp only [Bool.and_eq_true] at hc
        have h1 := Nat.le_of_ble_eq_true hc.1
        have h2 := Nat.le_of_ble_eq_true hc.2
        have hrun := app.grow none 0 0 [] (by omega) (by omega) (by rw [hby, Nat.zero_add]; exact fit48 h1 (by omega) (nextcap_le (by omega))) (by simp [Builtin.firstCells])
        simp only [Nat.zero_add, List.nil_append] at hrun
        have hge := grownCap_ge w n 0 elem
        generalize grownCap w n 0 elem = G at hrun hge
        have hs1 : Sim w0 E s w.drew := hs.drew
        rw [zeroCells_eq (by omega)] at hrun
        have hrow : (L.toArray ++ (repV Z.cells.toList (G - n)).toArray) = (L ++ repV Z.cells.toList (G - n)).toArray := by simp
        rw [hrow] at hrun
        obtain ⟨g1, g2⟩ := alloc_cells' (frz := 2 * el.size) hs1 hnew elem G (repV Z.cells.toList (G - n)) (fun _ => by
          rw [hdbl, List.length_append, hZr, hL, hlen, ← Nat.add_mul]
          exact Nat.mul_le_mul_right _ (by omega))
        refine ⟨_, _, _, hrun, g1, ?_, g2⟩
        have := slice_new (E := E) (id := s.nx) (b := w.heap.size) (K := G) (ex := false) (Nat.le_refl n) (fun _ => hge)
        simpa using this
  · rename_i id off len ci cap ex
    simp only [VRel] at hb
    obtain ⟨p, hp, rfl, hlc, hcap⟩ := hb
    dsimp only at h
    split at h
    · cases h
    · rename_i cs el0 fz hcs
      have hg := getCells_some hcs
      obtain ⟨q, O, hq, hO, hrel, hbase⟩ := hs.obj id _ hg
      rw [hp] at hq; cases hq
      obtain ⟨C, hC⟩ : ∃ C, C = (if ex = true then cap else p.2.2 - ci) := ⟨_, rfl⟩
      rw [← hC]
      have hcC : cap ≤ C := by
        cases ex with
        | true => simp [hC]
        | false => simpa [hC] using hcap rfl
      cases hr : Nat.ble (len + n) cap with
      | true =>
        simp only [hr, cond_true] at h
        have hle := Nat.le_of_ble_eq_true hr
        split at h
        · rename_i s1 hst
          simp only [Option.some.injEq, Prod.mk.injEq] at h
          obtain ⟨rfl, rfl⟩ := h
          obtain ⟨w', hw', hsim⟩ := storeCells_acts (P := P) hs hp hnew hst
          have hrun := app.room p.1 (p.2.1 + off) len C w' (by omega) (by rw [hsz, Nat.add_assoc]; exact hw')
          refine ⟨_, w', E, hrun, Em.le_refl E, ?_, hsim⟩
          simp only [VRel]
          exact ⟨p, hp, by rw [hC], hle, hcap⟩
        · cases h
      | false =>
        simp only [hr, cond_false] at h
        have hgt : cap < len + n := by
          rcases Nat.lt_or_ge cap (len + n) with h' | h'
          · exact h'
          · have := Nat.ble_eq_true_of_le h'; rw [hr] at this; cases this
        split at h
        · cases h
        · rename_i old hold
          cases hc : Nat.ble ((len + n) * el.bytes) 1048576 && Nat.ble (len + n) 1048576 with
          | false => simp [hc] at h
          | true =>
            simp only [hc, cond_true] at h
            simp only [Bool.and_eq_true] at hc
            have h1 := Nat.le_of_ble_eq_true hc.1
            have h2 := Nat.le_of_ble_eq_true hc.2
            obtain ⟨OL, hOL, hOLl, hOLc⟩ := cut_rel hO hrel hold
            have hfirst : (Builtin.firstCells i.size len (.slice (some ⟨p.1, p.2.1 + off, none⟩) len C)).run P w.drew = .ok OL.toArray w.drew := by
              have hrun := run_loadCells' (P := P) (w := w.drew) (b := p.1) (o := p.2.1 + off) OL 0 #[] (fun j V hj => by have := hOLc j V hj; simp only [Nat.add_zero]; exact this)
              rw [hOLl, ← hsz] at hrun
              simpa [Builtin.firstCells, loadCells] using hrun
            have grown : C < len + n → Acts P w0 E w (Builtin.append_ #[t, xt] ty #[.slice (some ⟨p.1, p.2.1 + off, none⟩) len C, X]) (.slice s.nx 0 (len + n) 0 (len + n) false) (s.alloc (.cells (old ++ new) elem (2 * el.size))) := fun hlt => by
              have hrun := app.grow (some ⟨p.1, p.2.1 + off, none⟩) len C OL hlt h2 (by rw [hby]; exact fit48 h1 (by omega) (nextcap_le hlt)) hfirst
              have hge := grownCap_ge w (len + n) C elem
              generalize grownCap w (len + n) C elem = G at hrun hge
              have hs1 : Sim w0 E s w.drew := hs.drew
              rw [zeroCells_eq (by omega)] at hrun
              have hrow : ((OL ++ L).toArray ++ (repV Z.cells.toList (G - (len + n))).toArray) = ((OL ++ L) ++ repV Z.cells.toList (G - (len + n))).toArray := by simp
              rw [hrow] at hrun
              obtain ⟨g1, g2⟩ := alloc_cells' (frz := 2 * el.size) hs1 (hOL.append hnew) elem G (repV Z.cells.toList (G - (len + n))) (fun _ => by
                rw [hdbl, List.length_append, List.length_append, hZr, hL, hlen, hOLl, ← Nat.add_mul, ← Nat.add_mul]
                exact Nat.mul_le_mul_right _ (by omega))
              refine ⟨_, _, _, hrun, g1, ?_, g2⟩
              have := slice_new (E := E) (id := s.nx) (b := w.heap.size) (K := G) (ex := false) (Nat.le_refl (len + n)) (fun _ => hge)
              simpa using this
            cases ex with
            | true =>
              simp only [cond_true, Option.some.injEq, Prod.mk.injEq] at h
              obtain ⟨rfl, rfl⟩ := h
              exact grown (by simp at hC; omega)
            | false =>
              simp only [cond_false] at h
              cases hcc : Nat.beq el0 elem && (Nat.beq (fz / 2) el.size && Nat.ble off (ci * el.size)) with
              | false => simp [hcc] at h
              | true =>
                simp only [hcc, cond_true, Option.some.injEq, Prod.mk.injEq] at h
                obtain ⟨rfl, rfl⟩ := h
                simp only [Bool.and_eq_true] at hcc
                have he0 : el0 = elem := by simpa [beq_dec] using hcc.1
                have hf2 : fz / 2 = el.size := by simpa [beq_dec] using hcc.2.1
                have hoff := Nat.le_of_ble_eq_true hcc.2.2
                subst he0
                simp only [Bool.false_eq_true, if_false] at hC
                by_cases hin : len + n ≤ C
                · -- in place
                  have hrel' := hrel
                  simp only [ORel] at hrel'
                  obtain ⟨D, f, rfl, hD, hF1, hF2, hF3, hF4⟩ := hrel'
                  have hF3 := hF3 (by omega)
                  rw [hf2] at hF3
                  have hfits : p.2.1 + off + (len + n) * el.size ≤ D.size := by
                    have e1 : (len + n) * el.size ≤ (p.2.2 - ci) * el.size := Nat.mul_le_mul_right _ (by omega)
                    have e2 : (p.2.2 - ci) * el.size + ci * el.size = p.2.2 * el.size := by rw [← Nat.add_mul]; congr 1; omega
                    omega
                  have e3 : (len + n) * el.size = len * el.size + n * el.size := Nat.add_mul _ _ _
                  obtain ⟨w', D', hw', hpu, hDs, hDg⟩ := run_storeCells' (P := P) (b := p.1) (o := p.2.1 + off + len * el.size) L 0 w D el0 f hO (by rw [hL, hlen]; omega) (fun j h1 h2 => hF1 j (by omega) h2) (ones_rel hnew hone)
                  have hrun := app.room p.1 (p.2.1 + off) len C w' hin (by rw [hsz]; exact hw')
                  have hle := Em.le_put E s.nx (p.1, p.2.1 + off, C) hs.free
                  refine ⟨_, w', E.put s.nx (p.1, p.2.1 + off, C), hrun, hle, ?_, hs.moved hg hp rfl hpu ?_⟩
                  · simp only [VRel]
                    exact ⟨_, Em.put_same _ _ _, by simp, Nat.le_refl _, fun _ => by simpa using hin⟩
                  · simp only [ORel]
                    refine ⟨D', f, rfl, fun j u hu => ?_, fun j h1 h2 => hF1 j (by omega) (by omega), fun h0 => (by have := hF2 h0; omega), fun _ => ?_, fun h0 => (by omega)⟩
                    · have holdl : old.length = len * el.size := (cutL_get hold).1
                      by_cases hj : j < old.length
                      · rw [List.getElem?_append_left hj] at hu
                        obtain ⟨V, hV, hv⟩ := hOL.get hu
                        refine ⟨V, ?_, hv.mono hle⟩
                        have := hOLc j V hV
                        rw [cell_of hO] at this
                        rw [hDg, if_neg (by omega)]
                        exact this
                      · rw [List.getElem?_append_right (by omega)] at hu
                        obtain ⟨V, hV, hv⟩ := hnew.get hu
                        have hjl := (List.getElem?_eq_some_iff.1 hV).1
                        refine ⟨V, ?_, hv.mono hle⟩
                        rw [hDg, if_pos (by omega), show p.2.1 + off + j - (p.2.1 + off + len * el.size + 0) = j - old.length from by omega]
                        exact hV
                    · rw [hf2, hDs, hC]
                      have e2 : (p.2.2 - ci) * el.size + ci * el.size = p.2.2 * el.size ∨ p.2.2 - ci = 0 := by
                        by_cases h0 : p.2.2 - ci = 0
                        · exact .inr h0
                        · left; rw [← Nat.add_mul]; congr 1; omega
                      rcases e2 with e2 | e2
                      · show p.2.1 + off + (p.2.2 - ci) * el.size ≤ D.size
                        omega
                      · omega
                · -- a new row, and the old name goes
                  obtain ⟨V, w', E', hrun, hle, hv, hsim⟩ := grown (by omega)
                  refine ⟨V, w', E', hrun, hle, hv, hsim.weak rfl fun j o' hj => ?_⟩
                  have hidn : id ≠ s.nx := by have := hs.fresh _ _ hp; omega
                  simp only [St.alloc, Tr.get_set, Tr.get_del] at hj ⊢
                  by_cases hjn : j = s.nx
                  · rw [if_pos hjn] at hj ⊢
                    simp only [Option.some.injEq] at hj
                    subst hj
                    refine ⟨_, rfl, fun p O hO => ?_⟩
                    simp only [ORel] at hO ⊢
                    obtain ⟨D, f, rfl, hD, hF1, hF2, hF3, hF4⟩ := hO
                    exact ⟨D, f, rfl, hD, hF1, fun _ => hF2 (by omega), fun _ => (by have := hF3 (by omega); rw [hdbl] at this; rw [hf2]; exact this), fun h0 => (by omega)⟩
                  · rw [if_neg hjn] at hj ⊢
                    by_cases hji : j = id
                    · rw [if_pos hji] at hj; cases hj
                    · rw [if_neg hji] at hj
                      exact ⟨o', hj, fun _ _ h => h⟩
  · cases h


theorem append_acts (he : EnvOk e P) (hs : Sim w0 E s w) {tys : List TypeId} {args : List AV} {L : List Value} (hx : VRels E args L) {v : AV} {s' : St} {ty : TypeId} (h : appendA e s tys args = some (v, s')) :
    Acts P w0 E w (Builtin.append_ tys.toArray ty L.toArray) v s' := by
  unfold appendA at h
  split at h
  · rename_i st xt b x
    simp only [VRels] at hx
    obtain ⟨B, Bs, hb, ⟨X, Xs, hx, hnil, rfl⟩, rfl⟩ := hx
    subst hnil
    split at h
    · rename_i sti xti hsti hxti
      obtain ⟨_, _, hu, _⟩ := he.ty _ _ hsti
      obtain ⟨_, _, hux, _⟩ := he.ty _ _ hxti
      split at h
      · rename_i elem hd
        rw [hd] at hu
        split at h
        · rename_i el z hel hz
          obtain ⟨i, hi, _, hsz, hby, hzz⟩ := he.ty _ _ hel
          obtain ⟨Z, hZ, hzr⟩ := zero_sound (E := E) he hz w
          have hZ' : i.zero = some Z := by
            unfold zeroOf at hz
            simp only [hel] at hz
            split at hz
            · rename_i u hu'
              have := run_zero (w := w) hi (hzz.trans hu')
              rw [this] at hzr
              cases hzr
              exact hzz.trans hu'
            · cases hz
          cases hc : Nat.beq z.cells.length el.size && Nat.blt 0 el.size with
          | false => simp [hc] at h
          | true =>
            simp only [hc, cond_true] at h
            simp only [Bool.and_eq_true] at hc
            have hzl : z.cells.length = el.size := by simpa [beq_dec] using hc.1
            have hpos := blt_iff.1 hc.2
            have hZc := cells_rel hZ
            have hZl : Z.cells.size = el.size := by have := hZc.length; simp at this; omega
            have src : ∀ (_ : (∃ e', P.underlying xt = some (.slice e')) ∨ P.underlying xt = some .string), srcA s elem el b x = some (v, s') → Acts P w0 E w (Builtin.append_ #[st, xt] ty #[B, X]) v s' := fun hk h => by
              unfold srcA at h
              split at h
              · cases h
              · rename_i n hl
                split at h
                · cases h
                · rename_i new hnew
                  cases hc : Nat.beq new.length (n * el.size) && new.all AV.one with
                  | false => simp [hc] at h
                  | true =>
                    simp only [hc, cond_true] at h
                    simp only [Bool.and_eq_true] at hc
                    have hlen : new.length = n * el.size := by simpa [beq_dec] using hc.1
                    obtain ⟨hlen', M, hM, hfirst⟩ := first_sound (P := P) hs hx hl (Nat.le_refl n) hnew
                    have hone := ones_rel hM hc.2
                    have hsrc : Src P i.size xt X n M w := ⟨hk, hlen', by rw [hsz]; exact hfirst w.drawn, by rw [hsz]; exact hfirst (w.drawn + 1), by rw [hM.length, hlen, hsz], fun u hu => by
                      have := hone u hu
                      cases u <;> simp [oneV] at this <;> rfl⟩
                    exact grow_acts hs hsz hby hb hM hZl hpos hlen hc.2 (app_src hu hi hZ' hsrc) h
            split at h
            · rename_i k hd'
              rw [hd'] at hux
              split at h
              · rename_i n hn
                cases hc' : Nat.ble (n * el.bytes) 1048576 && (Nat.ble n 1048576 && (Nat.blt 0 n && z.cells.all AV.one)) with
                | false => simp [hc'] at h
                | true =>
                  simp only [hc', cond_true] at h
                  simp only [Bool.and_eq_true] at hc'
                  have h1 := Nat.le_of_ble_eq_true hc'.1
                  have h2 := Nat.le_of_ble_eq_true hc'.2.1
                  have h3 := blt_iff.1 hc'.2.2.1
                  obtain ⟨k', rfl⟩ := natOf_rel hx hn
                  have hall : (repL z.cells n).all AV.one = true := by
                    have : ∀ m, (repL z.cells m).all AV.one = true := fun m => by
                      induction m with
                      | zero => rfl
                      | succ m ih => simp only [repL, List.all_append, Bool.and_eq_true]; exact ⟨hc'.2.2.2, ih⟩
                    exact this n
                  exact grow_acts hs hsz hby hb (repL_rel hZc n) hZl hpos (by rw [repL_length, hzl]) hall (app_zeros hu hi hZ' hux h2 (by rw [hby]; exact h1) h3 (by omega) (by omega)) h
              · cases h
            · rename_i e' hd'
              exact src (.inl ⟨e', by rw [hd'] at hux; exact hux⟩) h
            · rename_i hd'
              exact src (.inr (by rw [hd'] at hux; exact hux)) h
            · cases h
        · cases h
      · cases h
    · cases h
  · cases h

end Go.AX
