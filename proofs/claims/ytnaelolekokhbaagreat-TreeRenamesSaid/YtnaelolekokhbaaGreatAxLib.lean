import Derived.Test.YtnaelolekokhbaaGreatAxPrim
import Derived.Test.YtnaelolekokhbaaGreatAxSound7
import Derived.Laws.Externs
import Derived.Laws.StandIn
import Derived.Lib.Join
import Derived.Lib.Repeat
import Derived.Sort.KeysCollected
import Derived.StringKeys
import Derived.Sort.EncStr
import Derived.Laws.AppendOwn
import Derived.Lib.IndexAny
namespace Go.AX
open Go.RowKit Go.Maps Go.Sort
open Go.WideElems (Fit rd rg)
open Go.WideShapes (sorted_perm)
open Go.Proofs (encStr)
open Go.WideMaps (keyOf_string_mk)
variable {P : Program} {w0 : World} {E : Em} {s : St} {w : World}

/-- What is asked of the library's functions. -/
structure LibOk (P : Program) (p : PN) : Prop where
  byte : ∀ (args : Array Value) (w : World), (callFunc p.indexByte args).run P w = ((Extern.BytealgIndexByte.indexByte args).run P w).andThen fun v w' => .ok (.value v) w'
  joinE : Enters P p.join
  join0 : ∀ (a : Option Addr) (c : Nat) (sep : ByteArray) (w : World), Calls P p.join #[.slice a 0 c, .string sep] w fun e w' => e = .returned (.string ⟨#[]⟩) ∧ w' = w
  join : ∀ (bk o c : Nat) (xs : List ByteArray) (sep : ByteArray) (w : World), (∀ (j : Nat) x, xs[j]? = some x → w.cell? ⟨bk, o + j, none⟩ = some (.string x)) → bk < w.heap.size → xs.length ≤ 140737488355328 → xs.length ≤ c →
    (Lib.join (xs.map (·.data.toList)) sep.data.toList).length ≤ 140737488355328 →
    Calls P p.join #[.slice (some ⟨bk, o, none⟩) xs.length c, .string sep] w fun e w' => e = .returned (.string ⟨(Lib.join (xs.map (·.data.toList)) sep.data.toList).toArray⟩) ∧ Below w.heap.size w w'
  repE : Enters P p.rep
  rep : ∀ (s : ByteArray) (c : Nat) (w : World), c ≤ 9223372036854775807 → s.size * c ≤ 140737488355328 →
    Calls P p.rep #[.string s, .int .i64 c] w fun e w' => e = .returned (.string ⟨(Lib.repeatL s.data.toList c).toArray⟩) ∧ Below w.heap.size w w'
  anyE : Enters P p.anyOf
  any : ∀ (s chars : ByteArray) (w : World), s.size < 4294967281 → chars.size < 4294967281 → (∀ (j : Nat) b, s.data.toList[j]? = some b → b.toNat < 128) → (∀ (j : Nat) b, chars.data.toList[j]? = some b → b.toNat < 128) →
    Calls P p.anyOf #[.string s, .string chars] w fun e w' => e = .returned (.bool (Lib.containsAny s.data.toList chars.data.toList)) ∧ Below w.heap.size w w'
  sortE : Enters P p.sorted
  tyS : P.underlying p.tyStr = some .string
  sorted : ∀ (c b nn : Nat) (D0 : DataW Unit) (R : Value → Option (DataW Unit × List MemPlace)) (W : World), c < W.heap.size → W.cell? ⟨c, 0, none⟩ = some (.map (some b)) → W.ownsMap P p.tyStr R b nn D0 → Maps.size D0 ≤ maxLen → Maps.size D0 * 16 ≤ 140737488355328 →
    Calls P p.sorted #[.func (.func p.keys) #[] #[.pointer (some ⟨c, 0, none⟩)]] W fun e w' => ∃ (v : Value) (ss : List (List UInt8)), e = .returned v ∧ ss.Perm (strKeys D0) ∧
      w'.ownsRow W.heap.size p.tyStr 1 v ss.length ((ss.mergeSort (fun x y => decide (x ≤ y))).map encStr) ∧ (v = .slice none 0 0 ↔ ss = []) ∧ Below W.heap.size W w'

theorem calls_fw {f : FuncId} {args : Array Value} {R : Ending → World → Prop} (h : Calls P f args w R) : CallsIn (FW none) 0 P f args w R := (callsIn_wide (n := 0)).2 h

/-- What lies above is new; nothing else has turned. -/
theorem Sim.grown (h : Sim w0 E s w) {w' : World} (hb : Below w.heap.size w w') : Sim w0 E s w' := by
  refine ⟨fun id o ho => ?_, h.inj, h.fresh, h.below.trans (hb.mono h.below.size)⟩
  obtain ⟨p, O, hp, hO, hr, hle⟩ := h.obj id o ho
  exact ⟨p, O, hp, by rw [hb.block p.1 (Array.getElem?_eq_some_iff.1 hO).1]; exact hO, hr, hle⟩

theorem Sim.add (h : Sim w0 E s w) {w' : World} (hb : Below w.heap.size w w') {g K : Nat} (hg : w.heap.size ≤ g) {o : AO} {O : Obj} (hO : w'.heap[g]? = some O) (ho : ORel (E.put s.nx (g, 0, K)) (g, 0, K) o O) :
    Sim w0 (E.put s.nx (g, 0, K)) (s.alloc o) w' := by
  have hle := Em.le_put E s.nx (g, 0, K) h.free
  have h' := h.grown hb
  have lt : ∀ {id o' p}, s.h.get id = some o' → E id = some p → p.1 < w.heap.size := fun {id o' p} hi hp => by
    obtain ⟨q, O', hq, hO', _, _⟩ := h.obj id o' hi
    rw [hp] at hq; cases hq
    exact (Array.getElem?_eq_some_iff.1 hO').1
  have old : ∀ {id o'}, (s.alloc o).h.get id = some o' → id ≠ s.nx → s.h.get id = some o' := fun {id o'} hi hne => by
    simp only [St.alloc, Tr.get_set] at hi
    rw [if_neg hne] at hi
    exact hi
  have olds : ∀ {id p}, (E.put s.nx (g, 0, K)) id = some p → id ≠ s.nx → E id = some p := fun {id p} hp hne => by
    unfold Em.put at hp
    rw [if_neg hne] at hp
    exact hp
  refine ⟨fun id o' ho' => ?_, fun id id' o1 o2 p p' h1 h2 e1 e2 hp => ?_, fun id p hp => ?_, h'.below⟩
  · by_cases hid : id = s.nx
    · subst hid
      simp only [St.alloc, Tr.get_set, if_true, Option.some.injEq] at ho'
      subst ho'
      exact ⟨_, O, Em.put_same _ _ _, hO, ho, Nat.le_trans h.below.size hg⟩
    · obtain ⟨q, O', hq, hO', hr, hB⟩ := h'.obj id o' (old ho' hid)
      exact ⟨q, O', hle _ _ hq, hO', hr.mono hle, hB⟩
  · by_cases hid : id = s.nx
    · by_cases hid' : id' = s.nx
      · rw [hid, hid']
      · subst hid
        rw [Em.put_same] at e1
        cases e1
        have := lt (old h2 hid') (olds e2 hid')
        simp only at hp
        omega
    · by_cases hid' : id' = s.nx
      · subst hid'
        rw [Em.put_same] at e2
        cases e2
        have := lt (old h1 hid) (olds e1 hid)
        simp only at hp
        omega
      · exact h.inj _ _ _ _ _ _ (old h1 hid) (old h2 hid') (olds e1 hid) (olds e2 hid') hp
  · by_cases hid : id = s.nx
    · subst hid; simp [St.alloc]
    · have := h.fresh id p (olds hp hid); simp only [St.alloc]; omega

/-! ### Bytes -/
def u8 (l : List Nat) : List UInt8 := l.map UInt8.ofNat

theorem joinL_u8 (sep : List Nat) : ∀ l : List (List Nat), u8 (joinL sep l) = Lib.join (l.map u8) (u8 sep)
  | [] => rfl
  | [a] => by simp [joinL, Lib.join, List.intercalate]
  | a :: b :: l => by
    have ih := joinL_u8 sep (b :: l)
    unfold joinL
    simp only [u8, List.map_append] at ih ⊢
    rw [ih]
    simp [Lib.join, List.intercalate, u8]

theorem joinL_bytes {sep : List Nat} (hs : isBytes sep) : ∀ {l : List (List Nat)}, (∀ x ∈ l, isBytes x) → isBytes (joinL sep l)
  | [], _ => by simp [joinL, isBytes]
  | [a], h => by simpa [joinL] using h a (by simp)
  | a :: b :: l, h => by
    intro c hc
    simp only [joinL, List.mem_append] at hc
    rcases hc with hc | hc | hc
    · exact h a (by simp) c hc
    · exact hs c hc
    · exact joinL_bytes hs (l := b :: l) (fun x hx => h x (List.mem_cons_of_mem _ hx)) c (by simpa [joinL] using hc)

theorem repB_u8 (b : List Nat) : ∀ n, u8 (repB b n) = Lib.repeatL (u8 b) n
  | 0 => rfl
  | n + 1 => by simp only [repB, Lib.repeatL, u8, List.map_append]; rw [show List.map UInt8.ofNat (repB b n) = u8 (repB b n) from rfl, repB_u8]; rfl

theorem repB_bytes {b : List Nat} (hb : isBytes b) : ∀ n, isBytes (repB b n)
  | 0 => by simp [repB, isBytes]
  | n + 1 => by
    intro c hc
    simp only [repB, List.mem_append] at hc
    rcases hc with hc | hc
    · exact hb c hc
    · exact repB_bytes hb n c hc

theorem findByte_rel : ∀ (b : List Nat) (c k : Nat), isBytes b → c < 256 → findByte b c k = ((List.range b.length).find? fun i => b[i]! == c).map (k + ·)
  | [], _, _, _, _ => rfl
  | a :: l, c, k, hb, hc => by
    unfold findByte
    rw [List.length_cons, List.range_succ_eq_map, List.find?_cons]
    cases h : Nat.beq a c with
    | true =>
      have : a = c := Nat.eq_of_beq_eq_true h
      simp [this]
    | false =>
      have hne : a ≠ c := Nat.ne_of_beq_eq_false h
      rw [findByte_rel l c (k + 1) (fun x hx => hb x (by simp [hx])) hc]
      simp only [cond_false, List.getElem!_cons_zero, List.find?_map, Function.comp_def, List.getElem!_cons_succ]
      have : (a == c) = false := by simp [hne]
      rw [this]
      simp only [Option.map_map]
      congr 1
      funext i
      simp only [Function.comp]
      omega

theorem firstIdx_rel {b : List Nat} {c : Nat} (hb : isBytes b) (hc : c < 256) : firstIdx ⟨(u8 b).toArray⟩ (c : Int).toNat.toUInt8 = (match findByte b c 0 with | some i => (i : Int) | none => -1) := by
  rw [findByte_rel b c 0 hb hc]
  unfold firstIdx
  have hsz : (⟨(u8 b).toArray⟩ : ByteArray).size = b.length := by simp [u8, ByteArray.size]
  rw [hsz]
  have hcon : ∀ (l : List Nat), (∀ i ∈ l, i < b.length) → l.find? (fun i => (⟨(u8 b).toArray⟩ : ByteArray)[i]! == (c : Int).toNat.toUInt8) = l.find? (fun i => b[i]! == c) := by
    intro l
    induction l with
    | nil => intro _; rfl
    | cons i l ih =>
      intro hl
      have hi := hl i (by simp)
      have h1 : ((⟨(u8 b).toArray⟩ : ByteArray)[i]! == (c : Int).toNat.toUInt8) = (b[i]! == c) := by
        have hi' : i < (⟨(u8 b).toArray⟩ : ByteArray).size := by rw [hsz]; exact hi
        rw [getElem!_pos (⟨(u8 b).toArray⟩ : ByteArray) i hi', getElem!_pos b i hi]
        show ((u8 b).toArray[i]'_ == _) = _
        have h2 : (u8 b).toArray[i]'(by simpa [u8] using hi) = UInt8.ofNat b[i] := by simp [u8]
        rw [h2]
        have h3 : (c : Int).toNat.toUInt8 = UInt8.ofNat c := by simp
        rw [h3, Bool.eq_iff_iff]
        simp [ofNat_inj (hb _ (List.getElem_mem hi)) hc]
      rw [List.find?_cons, List.find?_cons, h1, ih (fun j hj => hl j (List.mem_cons_of_mem _ hj))]
  rw [hcon _ (fun i hi => by simpa using hi)]
  cases (List.range b.length).find? (fun i => b[i]! == c) <;> simp

theorem ext_ok {p : PN} (h : LibOk P p) {g : FuncId} {args : List AV} {s' : St} {v : AV} {Args : List Value} (hp : primE p g args s = some (v, s')) (hv : VRels E args Args) (hs : Sim w0 E s w) :
    ∃ V w' E', (callFunc g Args.toArray).run P w = .ok (.value V) w' ∧ E.le E' ∧ VRel E' v V ∧ Sim w0 E' s' w' := by
  unfold primE at hp
  cases hg : Nat.beq g p.indexByte with
  | false => rw [hg] at hp; cases hp
  | true =>
    rw [hg] at hp
    simp only [cond_true] at hp
    split at hp
    · rename_i b c
      cases hc : Nat.blt c 256 with
      | false => rw [hc] at hp; cases hp
      | true =>
        rw [hc] at hp
        simp only [cond_true, Option.some.injEq, Prod.mk.injEq] at hp
        obtain ⟨rfl, rfl⟩ := hp
        simp only [VRels, VRel] at hv
        obtain ⟨_, _, ⟨hb, rfl⟩, ⟨_, _, rfl, rfl, rfl⟩, rfl⟩ := hv
        rw [Nat.eq_of_beq_eq_true hg]
        refine ⟨.int .i64 (firstIdx ⟨(u8 b).toArray⟩ (c : Int).toNat.toUInt8), w, E, ?_, Em.le_refl E, ?_, hs⟩
        · rw [h.byte]
          have := run_indexByte_string (P := P) ⟨(u8 b).toArray⟩ (c : Int) w
          show ((Extern.BytealgIndexByte.indexByte #[.string ⟨(u8 b).toArray⟩, .int .u8 (c : Int)]).run P w).andThen _ = _
          rw [this]
          rfl
        · rw [firstIdx_rel hb (Nat.blt_eq.mp hc)]
          cases findByte b c 0 with
          | none => exact int_rel
          | some i => exact int_rel
    · cases hp

theorem strsL_rel : ∀ {l : List AV} {bs : List (List Nat)} {L : List Value}, strsL l = some bs → VRels E l L → L = bs.map strV ∧ ∀ b ∈ bs, isBytes b
  | [], _, _, h, hv => by
    simp only [strsL, Option.some.injEq] at h
    simp only [VRels] at hv
    subst h hv
    exact ⟨rfl, fun _ h => by cases h⟩
  | x :: l, bs, L, h, hv => by
    unfold strsL at h
    split at h
    · rename_i heq; cases heq
    · rename_i b l' heq
      cases heq
      split at h
      · rename_i r hr
        simp only [Option.some.injEq] at h
        subst h
        simp only [VRels, VRel] at hv
        obtain ⟨_, Vs, ⟨hb, rfl⟩, hvs, rfl⟩ := hv
        obtain ⟨h1, h2⟩ := strsL_rel hr hvs
        refine ⟨by rw [h1]; rfl, fun x hx => ?_⟩
        rcases List.mem_cons.1 hx with rfl | hx
        · exact hb
        · exact h2 x hx
      · cases h
    · cases h

def ba (b : List Nat) : ByteArray := ⟨(u8 b).toArray⟩
theorem ba_list (b : List Nat) : (ba b).data.toList = u8 b := rfl

theorem join_ok {p : PN} (h : LibOk P p) {x : AV} {X : Value} {sep : List Nat} {l : List (List Nat)} (hx : strsOf s x = some l) (hX : VRel E x X) (hsep : isBytes sep) (h1 : (joinL sep l).length ≤ 1000000) (h2 : l.length ≤ 1000000) (hs : Sim w0 E s w) :
    CallsIn (FW none) 0 P p.join #[X, strV sep] w fun en w' => ∃ V E', en = .returned V ∧ E.le E' ∧ VRel E' (.str (joinL sep l)) V ∧ Sim w0 E' s w' := by
  have none_ : ∀ {a : Option Addr} {c : Nat}, l = [] → CallsIn (FW none) 0 P p.join #[.slice a 0 c, strV sep] w fun en w' => ∃ V E', en = .returned V ∧ E.le E' ∧ VRel E' (.str (joinL sep l)) V ∧ Sim w0 E' s w' := fun {a c} hl => by
    subst hl
    refine CallsIn.mono (calls_fw (h.join0 a c _ w)) ?_
    rintro en w' ⟨rfl, rfl⟩
    exact ⟨_, E, rfl, Em.le_refl E, by simp [VRel, joinL, isBytes, strV], hs⟩
  unfold strsOf at hx
  split at hx
  · rename_i id off len ci cap ex
    split at hx
    · rename_i cs el fz hcells
      split at hx
      · rename_i l' hcut
        have hg := getCells_some hcells
        simp only [VRel] at hX
        obtain ⟨q, hq, rfl, hlc, hex⟩ := hX
        obtain ⟨q', O, hq', hO, hr, _⟩ := hs.obj _ _ hg
        rw [hq] at hq'; cases hq'
        obtain ⟨L, hL, hLl, hLc⟩ := cut_rel hO hr hcut
        obtain ⟨rfl, hb⟩ := strsL_rel hx hL
        have hlen : (l.map ba).length = len := by simpa using hLl
        have hjoin : Lib.join ((l.map ba).map (·.data.toList)) (ba sep).data.toList = u8 (joinL sep l) := by
          rw [joinL_u8, List.map_map]; rfl
        have := h.join q.1 (q.2.1 + off) (if ex then cap else q.2.2 - ci) (l.map ba) (ba sep) w ?_ (Array.getElem?_eq_some_iff.1 hO).1 ?_ ?_ ?_
        · rw [hlen, hjoin] at this
          refine CallsIn.mono (calls_fw this) ?_
          rintro en w' ⟨rfl, hB⟩
          exact ⟨_, E, rfl, Em.le_refl E, by simp only [VRel]; exact ⟨joinL_bytes hsep hb, rfl⟩, hs.grown hB⟩
        · intro j y hy
          simp only [List.getElem?_map, Option.map_eq_some_iff] at hy
          obtain ⟨b, hb', rfl⟩ := hy
          exact hLc j _ (by simp only [List.getElem?_map, hb']; rfl)
        · simp; omega
        · rw [hlen]
          cases ex with
          | true => simpa using hlc
          | false => have := hex rfl; simp; omega
        · rw [hjoin]; simp [u8]; omega
      · cases hx
    · cases hx
  · rename_i c
    simp only [VRel] at hX
    subst hX
    simp only [Option.some.injEq] at hx
    exact none_ hx.symm
  · simp only [VRel] at hX
    obtain ⟨q, _, rfl⟩ := hX
    simp only [Option.some.injEq] at hx
    exact none_ hx.symm
  · cases hx

/-! ### The keys of a map, sorted -/
theorem insSort_perm (x : List Nat) : ∀ l, (insSort x l).Perm (x :: l)
  | [] => List.Perm.refl _
  | y :: l => by
    unfold insSort
    cases ltB x y with
    | true => exact List.Perm.refl _
    | false => exact ((insSort_perm x l).cons y).trans (List.Perm.swap x y l)

theorem sortL_perm : ∀ l, (sortL l).Perm l
  | [] => List.Perm.refl _
  | x :: l => (insSort_perm x (sortL l)).trans ((sortL_perm l).cons x)

theorem ltB_lt : ∀ {x y : List Nat}, isBytes x → isBytes y → ltB x y = true → u8 x < u8 y
  | _, [], _, _, h => by simp [ltB] at h
  | [], _ :: _, _, _, _ => by simp [u8]
  | a :: x, b :: y, hx, hy, h => by
    have ha := hx a (by simp)
    have hb := hy b (by simp)
    simp only [ltB] at h
    simp only [u8, List.map_cons]
    rw [List.cons_lt_cons_iff]
    cases h1 : Nat.blt a b with
    | true =>
      have := Nat.blt_eq.mp h1
      left
      rw [UInt8.lt_iff_toNat_lt]; simp [Nat.mod_eq_of_lt ha, Nat.mod_eq_of_lt hb, this]
    | false =>
      rw [h1] at h
      simp only [cond_false] at h
      cases h2 : Nat.beq a b with
      | false => rw [h2] at h; cases h
      | true =>
        rw [h2] at h
        have := Nat.eq_of_beq_eq_true h2
        subst this
        exact .inr ⟨rfl, ltB_lt (fun c hc => hx c (by simp [hc])) (fun c hc => hy c (by simp [hc])) h⟩

theorem incB_pairwise : ∀ {l : List (List Nat)}, (∀ b ∈ l, isBytes b) → incB l = true → (l.map u8).Pairwise (· < ·)
  | [], _, _ => List.Pairwise.nil
  | [x], _, _ => by simp
  | x :: y :: l, hb, h => by
    unfold incB at h
    cases h1 : ltB x y with
    | false => rw [h1] at h; cases h
    | true =>
      rw [h1] at h
      have hxy := ltB_lt (hb x (by simp)) (hb y (by simp)) h1
      have ih := incB_pairwise (l := y :: l) (fun b hb' => hb b (List.mem_cons_of_mem _ hb')) h
      rw [List.map_cons]
      refine List.pairwise_cons.2 ⟨fun z hz => ?_, ih⟩
      rw [List.map_cons] at hz ih
      rcases List.mem_cons.1 hz with rfl | hz
      · exact hxy
      · exact List.lt_trans hxy ((List.pairwise_cons.1 ih).1 z hz)

theorem keysL_rel : ∀ {es : List (AV × AV)} {ks : List (List Nat)} {L : List MapEntry}, keysL es = some ks → MRels E es L → L.map (·.key) = ks.map strV ∧ ∀ b ∈ ks, isBytes b
  | [], _, _, h, hv => by
    simp only [keysL, Option.some.injEq] at h
    simp only [MRels] at hv
    subst h hv
    exact ⟨rfl, fun _ h => by cases h⟩
  | (k, v) :: es, ks, L, h, hv => by
    unfold keysL at h
    split at h
    · rename_i heq; cases heq
    · rename_i b v' es' heq
      cases heq
      split at h
      · rename_i r hr
        simp only [Option.some.injEq] at h
        subst h
        simp only [MRels, VRel] at hv
        obtain ⟨e, r', ⟨hb, hk⟩, _, hm, rfl⟩ := hv
        obtain ⟨h1, h2⟩ := keysL_rel hr hm
        refine ⟨by simp [h1, hk], fun x hx => ?_⟩
        rcases List.mem_cons.1 hx with rfl | hx
        · exact hb
        · exact h2 x hx
      · cases h
    · cases h

theorem shortL_spec : ∀ {l : List (List Nat)}, shortL l = true → ∀ b ∈ l, b.length ≤ 1000000
  | [], _, _, h => by cases h
  | x :: l, h, b, hb => by
    unfold shortL at h
    cases h1 : Nat.ble x.length 1000000 with
    | false => rw [h1] at h; cases h
    | true =>
      rw [h1] at h
      rcases List.mem_cons.1 hb with rfl | hb
      · exact Nat.le_of_ble_eq_true h1
      · exact shortL_spec h b hb

def noElem : Value → Option (DataW Unit × List MemPlace) := fun _ => some (.nil, [])

theorem owns_of {p : PN} (h : LibOk P p) {b ck : Nat} {en : Array MapEntry} (hO : w.heap[b]? = some (.map en ck)) (hB : Born en ck) {ks : List (List Nat)} (hk : en.toList.map (·.key) = ks.map strV) (hnd : (ks.map u8).Nodup) (hlen : ks.length ≤ 1000000) (hshort : ∀ b ∈ ks, b.length ≤ 1000000) :
    ∃ D0 : DataW Unit, w.ownsMap P p.tyStr noElem b en.size D0 ∧ (strKeys D0).Perm (ks.map u8) ∧ Maps.size D0 = ks.length := by
  have hsz : en.size = ks.length := by
    have := congrArg List.length hk
    simpa using this
  have hkey : ∀ x ∈ en.toList, ∃ b ∈ ks, x.key = strV b := fun x hx => by
    have : x.key ∈ en.toList.map (·.key) := List.mem_map_of_mem hx
    rw [hk] at this
    obtain ⟨b, hb, he⟩ := List.mem_map.1 this
    exact ⟨b, hb, he.symm⟩
  have hrd : ∀ x ∈ en.toList, ∀ b ∈ ks, x.key = strV b → rd (H := Unit) P p.tyStr noElem x = some (.string (u8 b), .nil) := fun x _ b hb he => by
    unfold rd
    rw [he]
    have hs : (⟨(u8 b).toArray⟩ : ByteArray).size ≤ maxLen := by
      have := hshort b hb
      have h2 : (⟨(u8 b).toArray⟩ : ByteArray).size = b.length := by simp [u8, ByteArray.size]
      rw [h2]; unfold maxLen; omega
    have hk1 := keyOf_string_mk h.tyS hs
    show ((_ : Option Lit).bind _) = _
    rw [show strV b = .string ⟨(u8 b).toArray⟩ from rfl, hk1]
    rfl
  refine ⟨_, ⟨en, ck, hO, ⟨by rw [hsz]; unfold maxLen; omega, ?_, fun x hx => ?_⟩, Nat.le_refl _, rfl⟩, ?_, ?_⟩
  · rw [MapKept.stamped_iff]
    refine ⟨hB.1, hB.2, ?_⟩
    have h1 : (en.toList.map (·.key)).Pairwise (· ≠ ·) := by
      rw [hk]
      refine List.pairwise_map.2 ((List.pairwise_map.1 hnd).imp ?_)
      intro a b hab he
      apply hab
      have he : (Value.string ⟨(u8 a).toArray⟩) = .string ⟨(u8 b).toArray⟩ := he
      simpa using he
    exact List.pairwise_map.1 h1
  · obtain ⟨b, hb, he⟩ := hkey x hx
    exact ⟨_, hrd x hx b hb he⟩
  · have hperm := sorted_perm (en.toList.map (rg (H := Unit) P p.tyStr noElem))
    have h1 : (strKeys (.map ((en.toList.map (rg (H := Unit) P p.tyStr noElem)).foldr DataW.insert []))).Perm ((en.toList.map (rg (H := Unit) P p.tyStr noElem)).map fun q => strOf q.1) := hperm.map _
    refine h1.trans ?_
    have h2 : ((en.toList.map (rg (H := Unit) P p.tyStr noElem)).map fun q => strOf q.1) = ks.map u8 := by
      have gen : ∀ (L : List MapEntry) (ks' : List (List Nat)), L.map (·.key) = ks'.map strV → (∀ x ∈ L, ∀ b ∈ ks', x.key = strV b → rd (H := Unit) P p.tyStr noElem x = some (.string (u8 b), .nil)) → ((L.map (rg (H := Unit) P p.tyStr noElem)).map fun q => strOf q.1) = ks'.map u8 := by
        intro L
        induction L with
        | nil => intro ks' h1 _; cases ks' with
          | nil => rfl
          | cons _ _ => cases h1
        | cons x L ih =>
          intro ks' h1 h2
          cases ks' with
          | nil => cases h1
          | cons b ks' =>
            simp only [List.map_cons, List.cons.injEq] at h1 ⊢
            refine ⟨?_, ih ks' h1.2 fun y hy b' hb' => h2 y (List.mem_cons_of_mem _ hy) b' (List.mem_cons_of_mem _ hb')⟩
            unfold rg
            rw [h2 x (by simp) b (by simp) h1.1]
            rfl
      exact gen _ _ hk hrd
    rw [h2]
  · show (List.foldr DataW.insert [] _).length = _
    rw [(sorted_perm _).length_eq]
    simp [hsz]

theorem sorted_ok {p : PN} (h : LibOk P p) {id m : Nat} {el : TypeId} {es : List (AV × AV)} {ks : List (List Nat)} {q : Nat × Nat × Nat} {v : AV} {s' : St} (hq : E id = some q) (hg : s.h.get id = some (.cells [.map m] el 0)) (hm : s.h.get m = some (.map es)) (hk : keysL es = some ks)
    (hr : (match ks with | [] => some (.raw (.slice none 0 0), s) | ks => sortedA p s (sortL ks)) = some (v, s')) (hs : Sim w0 E s w) :
    CallsIn (FW none) 0 P p.sorted #[.func (.func p.keys) #[] #[.pointer (some ⟨q.1, q.2.1 + 0, none⟩)]] w fun en w' => ∃ V E', en = .returned V ∧ E.le E' ∧ VRel E' v V ∧ Sim w0 E' s' w' := by
  obtain ⟨q', O, hq', hO, hrel, _⟩ := hs.obj _ _ hg
  rw [hq] at hq'; cases hq'
  simp only [ORel] at hrel
  obtain ⟨C, fz, rfl, hC, _, _, _, h0⟩ := hrel
  have h0 := h0 rfl
  obtain ⟨V, hV, hv⟩ := hC 0 (.map m) rfl
  simp only [VRel] at hv
  obtain ⟨qm, hqm, rfl⟩ := hv
  obtain ⟨qm', Om, hqm', hOm, hrm, _⟩ := hs.obj _ _ hm
  rw [hqm] at hqm'; cases hqm'
  simp only [ORel] at hrm
  obtain ⟨en, ck, rfl, hmr, hB⟩ := hrm
  obtain ⟨hkey, hbytes⟩ := keysL_rel hk hmr
  have hcell : w.cell? ⟨q.1, 0, none⟩ = some (.map (some qm.1)) := by
    rw [cell_of hO, ← h0]; simpa using hV
  rw [h0, Nat.zero_add]
  have hlt := (Array.getElem?_eq_some_iff.1 hO).1
  cases ks with
  | nil =>
    simp only [Option.some.injEq, Prod.mk.injEq] at hr
    obtain ⟨rfl, rfl⟩ := hr
    obtain ⟨D0, hown, hperm, hsize⟩ := owns_of h hOm hB hkey (by simp) (by simp) (fun _ h => by cases h)
    refine CallsIn.mono (calls_fw (h.sorted q.1 qm.1 _ D0 noElem w hlt hcell hown (by rw [hsize]; simp) (by rw [hsize]; simp))) ?_
    rintro e1 w1 ⟨V1, ss, rfl, hss, _, hnil, hbel⟩
    have : ss = [] := by
      have := (hss.trans hperm).length_eq
      simpa using this
    exact ⟨V1, E, rfl, Em.le_refl E, by simp only [VRel]; exact hnil.2 this, hs.grown hbel⟩
  | cons k0 ks' =>
    simp only at hr
    generalize hks : k0 :: ks' = ks at *
    have hne : ks ≠ [] := by rw [← hks]; simp
    unfold sortedA at hr
    cases hchk : (incB (sortL ks) && Nat.ble (sortL ks).length 1000000 && shortL (sortL ks)) with
    | false => rw [hchk] at hr; cases hr
    | true =>
      rw [hchk] at hr
      simp only [cond_true, Option.some.injEq, Prod.mk.injEq] at hr
      obtain ⟨rfl, rfl⟩ := hr
      simp only [Bool.and_eq_true] at hchk
      obtain ⟨⟨hinc, hl⟩, hsh⟩ := hchk
      have hsp := sortL_perm ks
      have hlen : (sortL ks).length = ks.length := hsp.length_eq
      have hl := Nat.le_of_ble_eq_true hl
      have hsb : ∀ b ∈ sortL ks, isBytes b := fun b hb => hbytes b (hsp.mem_iff.1 hb)
      have hpw := incB_pairwise hsb hinc
      have hnd : (ks.map u8).Nodup := by
        have : ((sortL ks).map u8).Nodup := hpw.imp fun {a b} hab he => by subst he; exact List.lt_irrefl _ hab
        exact (hsp.map u8).nodup_iff.1 this
      obtain ⟨D0, hown, hperm, hsize⟩ := owns_of h hOm hB hkey hnd (by omega) (fun b hb => shortL_spec hsh b (hsp.mem_iff.2 hb))
      refine CallsIn.mono (calls_fw (h.sorted q.1 qm.1 _ D0 noElem w hlt hcell hown (by rw [hsize]; unfold maxLen; omega) (by rw [hsize]; omega))) ?_
      rintro e1 w1 ⟨V1, ss, rfl, hss, hrow, hnil, hbel⟩
      have hssk : ss.Perm ((sortL ks).map u8) := (hss.trans hperm).trans (hsp.map u8).symm
      have hsort : ss.mergeSort (fun x y => decide (x ≤ y)) = (sortL ks).map u8 := by
        have tr : ∀ a b c : List UInt8, leB a b = true → leB b c = true → leB a c = true := fun a b c h1 h2 => by simp only [leB, decide_eq_true_eq] at *; exact List.le_trans h1 h2
        have to : ∀ a b : List UInt8, (leB a b || leB b a) = true := fun a b => by simp only [leB, Bool.or_eq_true, decide_eq_true_eq]; exact List.le_total a b
        refine List.Perm.eq_of_pairwise (le := fun a b => leB a b = true) (fun a b _ _ h1 h2 => ?_) (List.pairwise_mergeSort tr to ss) (hpw.imp fun {a b} hab => ?_) ((List.mergeSort_perm ss _).trans hssk)
        · simp only [leB, decide_eq_true_eq] at h1 h2
          exact List.le_antisymm h1 h2
        · simp only [leB, decide_eq_true_eq]
          exact List.le_of_lt hab
      have hssl : ss.length = (sortL ks).length := by simpa using hssk.length_eq
      rw [hsort, hssl] at hrow
      obtain ⟨_, hrow⟩ := hrow
      rcases hrow with ⟨_, hz⟩ | ⟨g, cap, cur, rfl, hgle, hgO, hcap, _, hcur, htake⟩
      · rw [hlen] at hz
        exact absurd (List.length_eq_zero_iff.1 hz) hne
      · have hle := Em.le_put E s.nx (g, 0, cap) hs.free
        refine ⟨_, E.put s.nx (g, 0, cap), rfl, hle, ?_, hs.add hbel hgle hgO ?_⟩
        · simp only [VRel]
          exact ⟨_, Em.put_same _ _ _, by simp, Nat.le_refl _, fun _ => by simpa using hcap⟩
        · simp only [ORel]
          refine ⟨cur, (0, 0), rfl, fun i u hu => ?_, ⟨fun _ _ _ => by simp, fun _ => by simp, fun _ => by simp; omega, fun _ => rfl⟩⟩
          simp only [List.getElem?_map, Option.map_eq_some_iff] at hu
          obtain ⟨b, hb, rfl⟩ := hu
          refine ⟨strV b, ?_, by unfold VRel; exact ⟨hsb b (List.mem_of_getElem? hb), rfl⟩⟩
          have hi := (List.getElem?_eq_some_iff.1 hb).1
          have h3 : (cur.toList.take ((sortL ks).length * 1))[i]? = some (strV b) := by
            rw [htake]
            simp only [List.getElem?_map, hb]
            rfl
          rw [List.getElem?_take_of_lt (by omega)] at h3
          simpa using h3

theorem asciiB_spec : ∀ {l : List Nat}, asciiB l = true → ∀ c ∈ l, c < 128
  | [], _, c, hc => by cases hc
  | x :: l, h, c, hc => by
    simp only [asciiB] at h
    cases hx : Nat.blt x 128 with
    | false => rw [hx] at h; cases h
    | true =>
      rw [hx] at h
      rcases List.mem_cons.1 hc with rfl | hc
      · exact Nat.blt_eq.mp hx
      · exact asciiB_spec h c hc
theorem memB_spec {c : Nat} : ∀ {l : List Nat}, memB c l = decide (c ∈ l)
  | [] => by simp [memB]
  | x :: l => by
    simp only [memB, memB_spec (l := l)]
    cases hx : Nat.beq c x with
    | true => simp [Nat.eq_of_beq_eq_true hx]
    | false => simp [Nat.ne_of_beq_eq_false hx]
theorem u8_mem {c : Nat} {l : List Nat} (hc : c < 256) (hl : isBytes l) : UInt8.ofNat c ∈ u8 l ↔ c ∈ l := by
  unfold u8
  rw [List.mem_map]
  constructor
  · rintro ⟨d, hd, he⟩
    have h1 := congrArg UInt8.toNat he
    simp only [UInt8.toNat_ofNat'] at h1
    have := hl d hd
    rw [Nat.mod_eq_of_lt (by omega), Nat.mod_eq_of_lt (by omega)] at h1
    exact h1 ▸ hd
  · exact fun h => ⟨c, h, rfl⟩
theorem anyB_spec {cs : List Nat} (hcs : isBytes cs) : ∀ {l : List Nat}, isBytes l → anyB cs l = Lib.containsAny (u8 l) (u8 cs) := by
  intro l
  induction l with
  | nil => intro _; rfl
  | cons c l ih =>
    intro hl
    have ih := ih (fun x hx => hl x (List.mem_cons_of_mem _ hx))
    have hc := hl c (by simp)
    have hm := u8_mem hc hcs
    have hge := Lib.indexAny_ge (u8 cs) (u8 l)
    show (bif memB c cs then true else anyB cs l) = decide (0 ≤ Lib.indexAny (UInt8.ofNat c :: u8 l) (u8 cs))
    rw [memB_spec, ih]
    unfold Lib.indexAny Lib.containsAny
    by_cases h : c ∈ cs
    · have : (u8 cs).contains (UInt8.ofNat c) = true := by rw [List.contains_iff_mem]; exact hm.2 h
      simp only [h, decide_true, cond_true, this, if_true]
      rfl
    · have : (u8 cs).contains (UInt8.ofNat c) = false := by
        rw [← Bool.not_eq_true, List.contains_iff_mem]; exact fun hx => h (hm.1 hx)
      simp only [h, decide_false, cond_false, this, Bool.false_eq_true, if_false]
      by_cases h1 : Lib.indexAny (u8 l) (u8 cs) = -1
      · simp [h1]
      · have : (Lib.indexAny (u8 l) (u8 cs) == -1) = false := by simpa using h1
        rw [this]
        simp only [Bool.false_eq_true, if_false]
        rw [decide_eq_decide]
        omega

theorem prims_ok {p : PN} (h : LibOk P p) : PrimsOk P (primsOf p) := by
  refine ⟨fun hp hv hs => ext_ok h hp hv hs, fun {g args s s' v w0 w E Args} hp hv hs => ?_⟩
  simp only [primsOf, primF] at hp
  cases h1 : Nat.beq g p.join with
  | true =>
    rw [h1] at hp
    simp only [cond_true] at hp
    have := Nat.eq_of_beq_eq_true h1
    subst this
    refine ⟨h.joinE, ?_⟩
    split at hp
    · rename_i x sep
      split at hp
      · rename_i l hl
        cases hc : (Nat.ble (joinL sep l).length 1000000 && Nat.ble l.length 1000000) with
        | false => rw [hc] at hp; cases hp
        | true =>
          rw [hc] at hp
          simp only [cond_true, Option.some.injEq, Prod.mk.injEq] at hp
          obtain ⟨rfl, rfl⟩ := hp
          rw [Bool.and_eq_true] at hc
          simp only [VRels] at hv
          obtain ⟨X, _, hX, ⟨S, _, hS, rfl, rfl⟩, rfl⟩ := hv
          simp only [VRel] at hS
          obtain ⟨hsep, rfl⟩ := hS
          exact join_ok h hl hX hsep (Nat.le_of_ble_eq_true hc.1) (Nat.le_of_ble_eq_true hc.2) hs
      · cases hp
    · cases hp
  | false =>
    rw [h1] at hp
    simp only [cond_false] at hp
    cases h2 : Nat.beq g p.rep with
    | true =>
      rw [h2] at hp
      simp only [cond_true] at hp
      have := Nat.eq_of_beq_eq_true h2
      subst this
      refine ⟨h.repE, ?_⟩
      split at hp
      · rename_i b n
        cases hc : (Nat.ble (b.length * n) 1000000 && Nat.ble n 1000000) with
        | false => rw [hc] at hp; cases hp
        | true =>
          rw [hc] at hp
          simp only [cond_true, Option.some.injEq, Prod.mk.injEq] at hp
          obtain ⟨rfl, rfl⟩ := hp
          rw [Bool.and_eq_true] at hc
          have hc1 := Nat.le_of_ble_eq_true hc.1
          have hc2 := Nat.le_of_ble_eq_true hc.2
          simp only [VRels, VRel] at hv
          obtain ⟨_, _, ⟨hb, rfl⟩, ⟨_, _, rfl, rfl, rfl⟩, rfl⟩ := hv
          have hsz : (ba b).size = b.length := by simp [ba, u8, ByteArray.size]
          refine CallsIn.mono (calls_fw (h.rep (ba b) n w (by omega) (by rw [hsz]; omega))) ?_
          rintro en w' ⟨rfl, hB⟩
          refine ⟨_, E, rfl, Em.le_refl E, ?_, hs.grown hB⟩
          simp only [VRel]
          refine ⟨repB_bytes hb n, ?_⟩
          rw [ba_list, ← repB_u8]
          rfl
      · cases hp
    | false =>
      rw [h2] at hp
      simp only [cond_false] at hp
      cases h3 : Nat.beq g p.sorted with
      | false =>
        rw [h3] at hp
        simp only [cond_false] at hp
        cases h5 : Nat.beq g p.anyOf with
        | false => rw [h5] at hp; cases hp
        | true =>
          rw [h5] at hp
          simp only [cond_true] at hp
          have := Nat.eq_of_beq_eq_true h5
          subst this
          refine ⟨h.anyE, ?_⟩
          split at hp
          · rename_i b cs
            cases hc : (asciiB b && (asciiB cs && (Nat.ble b.length 1000000 && Nat.ble cs.length 1000000))) with
            | false => rw [hc] at hp; cases hp
            | true =>
              rw [hc] at hp
              simp only [cond_true, Option.some.injEq, Prod.mk.injEq] at hp
              obtain ⟨rfl, rfl⟩ := hp
              simp only [Bool.and_eq_true] at hc
              obtain ⟨ha1, ha2, hl1, hl2⟩ := hc
              have hl1 := Nat.le_of_ble_eq_true hl1
              have hl2 := Nat.le_of_ble_eq_true hl2
              simp only [VRels, VRel] at hv
              obtain ⟨_, _, ⟨hb, rfl⟩, ⟨_, _, ⟨hcs, rfl⟩, rfl, rfl⟩, rfl⟩ := hv
              have hsz : ∀ b : List Nat, (ba b).size = b.length := fun b => by simp [ba, u8, ByteArray.size]
              have has : ∀ (b : List Nat), asciiB b = true → ∀ (j : Nat) x, (ba b).data.toList[j]? = some x → x.toNat < 128 := by
                intro b hb j x hx
                rw [ba_list] at hx
                unfold u8 at hx
                rw [List.getElem?_map, Option.map_eq_some_iff] at hx
                obtain ⟨c, hc, rfl⟩ := hx
                have := asciiB_spec hb c (List.mem_of_getElem? hc)
                simp only [UInt8.toNat_ofNat']
                omega
              refine CallsIn.mono (calls_fw (h.any (ba b) (ba cs) w (by rw [hsz]; omega) (by rw [hsz]; omega) (has b ha1) (has cs ha2))) ?_
              rintro en w' ⟨rfl, hB⟩
              refine ⟨_, E, rfl, Em.le_refl E, ?_, hs.grown hB⟩
              simp only [VRel, boolA]
              rw [ba_list, ba_list, anyB_spec hcs hb]
          · cases hp
      | true =>
        rw [h3] at hp
        simp only [cond_true] at hp
        have := Nat.eq_of_beq_eq_true h3
        subst this
        refine ⟨h.sortE, ?_⟩
        split at hp
        · rename_i f id
          cases h4 : Nat.beq f p.keys with
          | false => rw [h4] at hp; cases hp
          | true =>
            rw [h4] at hp
            simp only [cond_true] at hp
            have := Nat.eq_of_beq_eq_true h4
            subst this
            split at hp
            · rename_i m el hg
              split at hp
              · rename_i es hm
                simp only [VRels, VRel] at hv
                obtain ⟨_, _, ⟨C, ⟨_, _, ⟨q, hq, rfl⟩, rfl, rfl⟩, rfl⟩, rfl, rfl⟩ := hv
                split at hp
                · rename_i hk
                  exact sorted_ok h hq hg hm hk hp hs
                · rename_i ks hne hk
                  refine sorted_ok h hq hg hm hk ?_ hs
                  cases ks with
                  | nil => exact absurd rfl hne
                  | cons _ _ => exact hp
                · cases hp
              · cases hp
            · cases hp
        · cases hp
end Go.AX
