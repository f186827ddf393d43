import Derived.Test.YtnkhohbgihfapaaGreatDoorOn2C3
set_option linter.unusedVariables false
set_option linter.unusedSimpArgs false
set_option linter.defProp false
namespace Go.AX
open Go.Proofs Go.RowKit
set_option maxRecDepth 1000000
set_option maxHeartbeats 4000000
set_option linter.unusedSimpArgs false
def kidsTo (i : Nat → Nat) (l : List (List Nat × Nat)) : List (List Nat × Nat) := l.map fun q => (q.1, i q.2)
def Nd.to (i : Nat → Nat) (mp : Nat) (nd : Nd) : Nd := { nd with kids := kidsTo i nd.kids, up := nd.up.map i, mp := mp }
theorem to_kind {i : Nat → Nat} {mp : Nat} {nd : Nd} : (nd.to i mp).kind = nd.kind := (rfl)
theorem to_data {i : Nat → Nat} {mp : Nat} {nd : Nd} : (nd.to i mp).data = nd.data := (rfl)
theorem to_kids {i : Nat → Nat} {mp : Nat} {nd : Nd} : (nd.to i mp).kids = kidsTo i nd.kids := (rfl)
theorem to_up {i : Nat → Nat} {mp : Nat} {nd : Nd} : (nd.to i mp).up = nd.up.map i := (rfl)
theorem to_name {i : Nat → Nat} {mp : Nat} {nd : Nd} : (nd.to i mp).name = nd.name := (rfl)
theorem to_mp {i : Nat → Nat} {mp : Nat} {nd : Nd} : (nd.to i mp).mp = mp := (rfl)
def Hom (i : Nat → Nat) (T0 T : Nodes) : Prop := ∀ k nd, T0 k = some nd → ∃ mp, T (i k) = some (nd.to i mp)
theorem lookK_to {i : Nat → Nat} {p : List Nat} : ∀ (l : List (List Nat × Nat)), lookK p (kidsTo i l) = (lookK p l).map i
  | [] => rfl
  | (q, j) :: l => by
    have ih := lookK_to (i := i) (p := p) l
    simp only [kidsTo] at ih
    simp only [kidsTo, List.map_cons, lookK]
    cases eqB p q with
    | true => rfl
    | false => exact ih
theorem setK_to {i : Nat → Nat} {p : List Nat} {n : Nat} : ∀ (l : List (List Nat × Nat)), setK p (i n) (kidsTo i l) = kidsTo i (setK p n l)
  | [] => rfl
  | (q, j) :: l => by
    have ih := setK_to (i := i) (p := p) (n := n) l
    simp only [kidsTo] at ih
    simp only [kidsTo, List.map_cons, setK]
    cases eqB p q with
    | true => rfl
    | false => simp only [cond_false, ih, List.map_cons]
theorem sortK_to {i : Nat → Nat} (l : List (List Nat × Nat)) : sortK (kidsTo i l) = sortK l := by
  have e : (kidsTo i l).map (·.1) = l.map (·.1) := by simp [kidsTo]
  unfold sortK
  rw [e]
theorem pathT_to {i : Nat → Nat} {T0 T : Nodes} (H : Hom i T0 T) : ∀ {f k : Nat} {p : List Nat}, pathT T0 f k = some p → pathT T f (i k) = some p
  | 0, _, _, h => by cases h
  | f + 1, k, p, h => by
    simp only [pathT] at h ⊢
    cases hk : T0 k with
    | none => rw [hk] at h; cases h
    | some nd =>
      obtain ⟨mp, hm⟩ := H k nd hk
      rw [hk] at h
      rw [hm]
      simp only [to_up, to_name] at h ⊢
      cases hu : nd.up with
      | none => rw [hu] at h; exact h
      | some u =>
        rw [hu] at h
        simp only [Option.map_some] at h ⊢
        cases hp : pathT T0 f u with
        | none => rw [hp] at h; cases h
        | some q => rw [hp] at h; rw [pathT_to H hp]; exact h
def toS (i : Nat → Nat) : Nat ⊕ Nat → Nat ⊕ Nat
  | .inl k => .inl (i k)
  | .inr n => .inr n
theorem walkT_to {i : Nat → Nat} {T0 T : Nodes} (H : Hom i T0 T) {root : Nat} {follow : Bool} : ∀ {f cur hops : Nat} {l : List (List Nat)} {o : Nat ⊕ Nat}, walkT T0 root follow f cur hops l = some o → walkT T (i root) follow f (i cur) hops l = some (toS i o)
  | 0, _, _, _, _, h => by simp only [walkT] at h; cases h
  | f + 1, cur, hops, [], o, h => by
    simp only [walkT] at h ⊢
    cases h
    rfl
  | f + 1, cur, hops, p :: rest, o, h => by
    simp only [walkT] at h ⊢
    cases hk : T0 cur with
    | none => rw [hk] at h; cases h
    | some nd =>
      obtain ⟨mp, hm⟩ := H cur nd hk
      rw [hk] at h
      rw [hm]
      simp only [to_kind, to_kids, lookK_to] at h ⊢
      cases hd : decide (nd.kind ≠ 1) with
      | true => rw [hd] at h; simp only [cond_true] at h ⊢; cases h; rfl
      | false =>
        rw [hd] at h
        simp only [cond_false] at h ⊢
        cases hl : lookK p nd.kids with
        | none => rw [hl] at h; cases h; rfl
        | some kid =>
          rw [hl] at h
          simp only [Option.map_some] at h ⊢
          cases hkk : T0 kid with
          | none => rw [hkk] at h; cases h
          | some kd =>
            obtain ⟨mp', hm'⟩ := H kid kd hkk
            rw [hkk] at h
            rw [hm']
            simp only [to_kind, to_data] at h ⊢
            cases hb : (decide (kd.kind ≠ 3) || (rest.isEmpty && !follow)) with
            | true => rw [hb] at h; simp only [cond_true] at h ⊢; exact walkT_to H h
            | false =>
              rw [hb] at h
              simp only [cond_false] at h ⊢
              cases h7 : Nat.blt 7 hops with
              | true => rw [h7] at h; simp only [cond_true] at h ⊢; cases h; rfl
              | false =>
                rw [h7] at h
                simp only [cond_false] at h ⊢
                cases hp : pathT T0 20 cur with
                | none => rw [hp] at h; cases h
                | some cw =>
                  rw [hp] at h
                  rw [pathT_to H hp]
                  simp only at h ⊢
                  cases hbb : (Nat.ble cw.length 1000 && (asciiB cw && asciiB kd.data)) with
                  | false => rw [hbb] at h; cases h
                  | true =>
                    rw [hbb] at h
                    simp only [cond_true] at h ⊢
                    cases ht : tcleanL cw kd.data with
                    | inr n => rw [ht] at h; cases h; rfl
                    | inl names =>
                      rw [ht] at h
                      simp only at h ⊢
                      cases hn : Nat.ble (names.length + rest.length) 50000 with
                      | false => rw [hn] at h; cases h
                      | true => rw [hn] at h; simp only [cond_true] at h ⊢; exact walkT_to H h
theorem namesT_to {i : Nat → Nat} {T0 T : Nodes} (H : Hom i T0 T) {cwd : Nat} {b : List Nat} {o : List (List Nat) ⊕ Nat} (h : namesT T0 cwd b = some o) : namesT T (i cwd) b = some o := by
  unfold namesT at h ⊢
  cases hp : pathT T0 20 cwd with
  | none => rw [hp] at h; cases h
  | some cw => rw [hp] at h; rw [pathT_to H hp]; exact h
theorem findT_to {i : Nat → Nat} {T0 T : Nodes} (H : Hom i T0 T) {root cwd : Nat} {b : List Nat} {follow : Bool} {o : Nat ⊕ Nat} (h : findT T0 root cwd b follow = some o) : findT T (i root) (i cwd) b follow = some (toS i o) := by
  unfold findT at h ⊢
  cases hp : namesT T0 cwd b with
  | none => rw [hp] at h; cases h
  | some r =>
    rw [hp] at h
    rw [namesT_to H hp]
    cases r with
    | inr n => cases h; rfl
    | inl names => exact walkT_to H h
def Mv.to (i : Nat → Nat) (m : Mv) : Mv := ⟨i m.u, m.old, i m.j, i m.v, m.nm, m.y.map i⟩
end Go.AX
namespace Go.AX
open Go.Proofs Go.RowKit
set_option maxRecDepth 1000000
set_option maxHeartbeats 4000000
set_option linter.unusedSimpArgs false
structure Md where
  nodes : List Nd
  root : Nat
  cwd : Nat
  fds : List (Option Nat)
  many : Int
structure An where
  status : Int
  num : Int
  kind : Int
  mode : Int
  data : List Nat
  names : List (List Nat)
def an0 : An := ⟨0, 0, 0, 0, [], []⟩
def Md.T (M : Md) : Nodes := fun k => M.nodes[k]?
def fdsA (ι : Nat → Nat) (fds : List (Option Nat)) : List (Option Nat) := fds.map (Option.map ι)
structure RepM (s : St) (x : Nat) (M : Md) (ι μ : Nat → Nat) : Prop where
  nd : ∀ k nd, M.T k = some nd → NRep s (ι k) (nd.to ι (μ k))
  tr : s.h.get x = some (trA (ι M.root) (ι M.cwd) (fdsA ι M.fds) M.many)
  ij : ∀ j k, j < M.nodes.length → k < M.nodes.length → ι j = ι k → j = k
  mj : ∀ j k, j < M.nodes.length → k < M.nodes.length → μ j = μ k → j = k
  kd : ∀ k nd, M.T k = some nd → ∀ q ∈ nd.kids, q.2 < M.nodes.length
  up : ∀ k nd u, M.T k = some nd → nd.up = some u → u < M.nodes.length
  rt : M.root < M.nodes.length
  cw : M.cwd < M.nodes.length
  f8 : M.fds.length = 8
  fd : ∀ o ∈ M.fds, ∀ k, o = some k → k < M.nodes.length
  mn : -1000000 ≤ M.many ∧ M.many ≤ 1000000
  da : ∀ k nd, M.T k = some nd → nd.data.length ≤ 40000
def Own (x : Nat) (M : Md) (ι μ : Nat → Nat) (i : Nat) : Prop := i = x ∨ ∃ k, k < M.nodes.length ∧ (i = ι k ∨ i = μ k)
def World (s : St) (x : Nat) (M : Md) (L : List (Nat × AO)) : Prop := Below0 s ∧ ∃ ι μ, RepM s x M ι μ ∧ ∀ q ∈ L, s.h.get q.1 = some q.2 ∧ ¬ Own x M ι μ q.1
theorem T_lt {M : Md} {k : Nat} {nd : Nd} (h : M.T k = some nd) : k < M.nodes.length := by
  unfold Md.T at h
  exact (List.getElem?_eq_some_iff.mp h).1
theorem T_of {M : Md} {k : Nat} (h : k < M.nodes.length) : ∃ nd, M.T k = some nd := ⟨M.nodes[k], List.getElem?_eq_getElem h⟩
open Classical in
noncomputable def tOf (M : Md) (ι μ : Nat → Nat) : Nodes := fun i => if h : ∃ k, k < M.nodes.length ∧ ι k = i then (M.T (Classical.choose h)).map (Nd.to ι (μ (Classical.choose h))) else none
section
variable {s : St} {x : Nat} {M : Md} {ι μ : Nat → Nat} (R : RepM s x M ι μ)
include R
theorem RepM.at {k : Nat} {nd : Nd} (h : M.T k = some nd) : tOf M ι μ (ι k) = some (nd.to ι (μ k)) := by
  have hex : ∃ j, j < M.nodes.length ∧ ι j = ι k := ⟨k, T_lt h, rfl⟩
  have hc := Classical.choose_spec hex
  have e : Classical.choose hex = k := R.ij _ _ hc.1 (T_lt h) hc.2
  unfold tOf
  rw [dif_pos hex, e, h]
  rfl
theorem RepM.inv {i : Nat} {nd' : Nd} (h : tOf M ι μ i = some nd') : ∃ k nd, i = ι k ∧ M.T k = some nd ∧ nd' = nd.to ι (μ k) := by
  by_cases hex : ∃ j, j < M.nodes.length ∧ ι j = i
  · obtain ⟨k, hk, rfl⟩ := hex
    obtain ⟨nd, hn⟩ := T_of hk
    rw [R.at hn] at h
    cases h
    exact ⟨k, nd, rfl, hn, rfl⟩
  · unfold tOf at h
    rw [dif_neg hex] at h
    cases h
theorem RepM.hom : Hom ι M.T (tOf M ι μ) := fun k _ h => ⟨μ k, R.at h⟩
theorem RepM.rep : RepT s (tOf M ι μ) := fun i nd' h => by
  obtain ⟨k, nd, rfl, hn, rfl⟩ := R.inv h
  exact R.nd k nd hn
theorem RepM.inj : ∀ j k nd kd, M.T j = some nd → M.T k = some kd → ι j = ι k → j = k := fun j k _ _ hj hk e => R.ij j k (T_lt hj) (T_lt hk) e
theorem RepM.im {j k : Nat} (hj : j < M.nodes.length) (hk : k < M.nodes.length) : ι j ≠ μ k := by
  intro e
  obtain ⟨jd, hj⟩ := T_of hj
  obtain ⟨kd, hk⟩ := T_of hk
  have h1 := (R.nd j jd hj).1
  have h2 := (R.nd k kd hk).2
  rw [e] at h1
  have h2 : s.h.get (μ k) = _ := h2
  rw [h2] at h1
  cases h1
theorem RepM.xi {k : Nat} (hk : k < M.nodes.length) : ι k ≠ x := by
  intro e
  obtain ⟨kd, hk⟩ := T_of hk
  have h1 := (R.nd k kd hk).1
  rw [e, R.tr] at h1
  simp [ndA, trA] at h1
theorem RepM.xm {k : Nat} (hk : k < M.nodes.length) : μ k ≠ x := by
  intro e
  obtain ⟨kd, hk⟩ := T_of hk
  have h1 : s.h.get (μ k) = _ := (R.nd k kd hk).2
  rw [e, R.tr] at h1
  simp [trA] at h1
theorem RepM.li (hB : Below0 s) {k : Nat} (hk : k < M.nodes.length) : ι k < s.nx := by
  obtain ⟨kd, hk⟩ := T_of hk
  exact hB _ _ (R.nd k kd hk).1
theorem RepM.lm (hB : Below0 s) {k : Nat} (hk : k < M.nodes.length) : μ k < s.nx := by
  obtain ⟨kd, hk⟩ := T_of hk
  exact hB _ _ (R.nd k kd hk).2
theorem RepM.lx (hB : Below0 s) : x < s.nx := hB _ _ R.tr
theorem RepM.da1 : ∀ n nd, tOf M ι μ n = some nd → nd.data.length ≤ 40000 := fun n nd' h => by
  obtain ⟨k, nd, rfl, hn, rfl⟩ := R.inv h
  exact R.da k nd hn
theorem RepM.da2 : ∀ n nd, tOf M ι μ n = some nd → nd.data.length ≤ 1000000 := fun n nd h => Nat.le_trans (R.da1 n nd h) (by decide)
theorem World.new {s' : St} {M' : Md} {L : List (Nat × AO)} (hB : Below0 s) (hL : ∀ q ∈ L, s.h.get q.1 = some q.2 ∧ ¬ Own x M ι μ q.1) (hB' : Below0 s') (hlen : M'.nodes.length = M.nodes.length)
    (hn : ∀ k nd, M'.T k = some nd → NRep s' (ι k) (nd.to ι (μ k)) ∧ (∀ q ∈ nd.kids, q.2 < M.nodes.length) ∧ (∀ u, nd.up = some u → u < M.nodes.length) ∧ nd.data.length ≤ 40000)
    (hrt : M'.root = M.root) (hcw : M'.cwd < M.nodes.length) (h8 : M'.fds.length = 8) (hfd : ∀ o ∈ M'.fds, ∀ k, o = some k → k < M.nodes.length) (hmn : -1000000 ≤ M'.many ∧ M'.many ≤ 1000000)
    (htr : s'.h.get x = some (trA (ι M'.root) (ι M'.cwd) (fdsA ι M'.fds) M'.many)) (hfr : ∀ i, i < s.nx → ¬ Own x M ι μ i → s'.h.get i = s.h.get i) : World s' x M' L := by
  refine ⟨hB', ι, μ, ⟨fun k nd h => (hn k nd h).1, htr, ?_, ?_, ?_, ?_, ?_, ?_, h8, ?_, hmn, fun k nd h => (hn k nd h).2.2.2⟩, ?_⟩
  · rw [hlen]; exact R.ij
  · rw [hlen]; exact R.mj
  · rw [hlen]; exact fun k nd h => (hn k nd h).2.1
  · rw [hlen]; exact fun k nd u h hu => (hn k nd h).2.2.1 u hu
  · rw [hlen, hrt]; exact R.rt
  · rw [hlen]; exact hcw
  · rw [hlen]; exact hfd
  · intro q hq
    obtain ⟨h1, h2⟩ := hL q hq
    refine ⟨(hfr _ (hB _ _ h1) h2).trans h1, ?_⟩
    unfold Own at h2 ⊢
    rw [hlen]
    exact h2
theorem World.same {s' : St} {L : List (Nat × AO)} (hB : Below0 s) (hL : ∀ q ∈ L, s.h.get q.1 = some q.2 ∧ ¬ Own x M ι μ q.1) (hB' : Below0 s') (he : Ext s s') : World s' x M L := by
  refine World.new R hB hL hB' rfl (fun k nd h => ⟨?_, R.kd k nd h, fun u hu => R.up k nd u h hu, R.da k nd h⟩) rfl R.cw R.f8 R.fd R.mn ((he.2 _ (R.lx hB)).trans R.tr) (fun i hi _ => he.2 i hi)
  have := R.nd k nd h
  exact ⟨(he.2 _ (R.li hB (T_lt h))).trans this.1, (he.2 _ (R.lm hB (T_lt h))).trans this.2⟩
end
theorem World.ext {s s' : St} {x : Nat} {M : Md} {L : List (Nat × AO)} (h : World s x M L) (he : Ext s s') (hB' : Below0 s') : World s' x M L := by
  obtain ⟨hB, ι, μ, R, hL⟩ := h
  exact World.same R hB hL hB' he
def Kt (s : St) (x : Nat) (M : Md) (L : List (Nat × AO)) (kr kp : AV → St → Bool) : Nat ⊕ (An × Md) → Prop
  | .inl n => ∀ s', World s' x M L → s.nx ≤ s'.nx → kp (.iface 130 (.raw (.int .i64 ((n : Nat) : Int)))) s' = true
  | .inr (an, M') => ∀ s' V, World s' x M' L → s.nx ≤ s'.nx → SlV s' V an.names → kr (.agg (anL an.status an.num an.kind an.mode an.data V)) s' = true
theorem slv_nil {s : St} : SlV s nilS [] := Or.inl ⟨rfl, rfl⟩
def do1 (M : Md) (c : Cl) : Option (Nat ⊕ (An × Md)) := match findT M.T M.root M.cwd c.path false with
  | none => none
  | some (.inr n) => some (.inl n)
  | some (.inl k) => match M.T k with
    | none => none
    | some nd => some (.inr (⟨0, statT nd, nd.kind, nd.mode, [], []⟩, M))
def do2 (M : Md) (c : Cl) : Option (Nat ⊕ (An × Md)) := match findT M.T M.root M.cwd c.path true with
  | none => none
  | some (.inr n) => some (.inl n)
  | some (.inl k) => match M.T k with
    | none => none
    | some nd => bif decide (nd.kind = 1) then some (.inl 4) else match readT nd.data c.off c.num with
      | .inr e => some (.inl e)
      | .inl d => some (.inr (⟨0, (d.length : Int), 0, 0, d, []⟩, M))
theorem do2_c {s : St} (H : Ok TE Tryz.prog pr3) {x : Nat} {M : Md} {L : List (Nat × AO)} (hW : World s x M L) {c : Cl} (hop : c.op = 2) {r : Nat ⊕ (An × Md)} (h : do2 M c = some r) {kr kp : AV → St → Bool} (hk : Kt s x M L kr kp r) :
    (sem Tryz.prog).call 53 [.ptr x 0, .agg (clL c)] s kr kp = true := by
  have hW' := hW
  obtain ⟨hB, ι, μ, R, hL⟩ := hW'
  unfold do2 at h
  cases hf : findT M.T M.root M.cwd c.path true with
  | none => rw [hf] at h; cases h
  | some out =>
  rw [hf] at h
  cases out with
  | inr n =>
    have hf' : findT (tOf M ι μ) (ι M.root) (ι M.cwd) c.path true = some (.inr n) := findT_to R.hom hf
    cases h
    exact look2_c H R.rep hB R.tr hop hf' (fun n h => by cases h) R.da2 (fun n nd s' h => by cases h) (fun n nd d s' h => by cases h) (fun n nd d s' h => by cases h) (fun n s' h e b => by cases h; exact hk s' (hW.ext e b) e.1)
  | inl k =>
    have hf' : findT (tOf M ι μ) (ι M.root) (ι M.cwd) c.path true = some (.inl (ι k)) := findT_to R.hom hf
    simp only at h
    cases hT : M.T k with
    | none => rw [hT] at h; cases h
    | some nd =>
      rw [hT] at h
      simp only at h
      have hA := R.at hT
      refine look2_c H R.rep hB R.tr hop hf' (fun n h => by cases h; exact ⟨_, hA⟩) R.da2 (fun n nd' s' h1 h2 h3 e b => ?_) (fun n nd' d s' h1 h2 h3 h4 e b => ?_) (fun n nd' d s' h1 h2 h3 h4 e b => ?_) (fun n s' h => by cases h)
      all_goals (cases h1; rw [hA] at h2; cases h2)
      · have h3 : nd.kind = 1 := h3
        rw [decide_eq_true h3] at h
        cases h
        exact hk s' (hW.ext e b) e.1
      · have h3 : nd.kind ≠ 1 := h3
        have h4 : readT nd.data c.off c.num = _ := h4
        rw [decide_eq_false h3, cond_false, h4] at h
        cases h
        exact hk s' nilS (hW.ext e b) e.1 slv_nil
      · have h3 : nd.kind ≠ 1 := h3
        have h4 : readT nd.data c.off c.num = _ := h4
        rw [decide_eq_false h3, cond_false, h4] at h
        cases h
        exact hk s' (hW.ext e b) e.1
def do3 (M : Md) (c : Cl) : Option (Nat ⊕ (An × Md)) := bif M.nodes.all (fun nd => (sortK nd.kids).isSome) then (match findT M.T M.root M.cwd c.path true with
  | none => none
  | some (.inr n) => some (.inl n)
  | some (.inl k) => match M.T k with
    | none => none
    | some nd => bif !decide (nd.kind = 1) then some (.inl 3) else match sortK nd.kids with
      | none => none
      | some nm => some (.inr (⟨0, 0, 0, 0, [], nm⟩, M))) else none
theorem do3_c {s : St} (H : Ok TE Tryz.prog pr3) {x : Nat} {M : Md} {L : List (Nat × AO)} (hW : World s x M L) {c : Cl} (hop : c.op = 3) {r : Nat ⊕ (An × Md)} (h : do3 M c = some r) {kr kp : AV → St → Bool} (hk : Kt s x M L kr kp r) :
    (sem Tryz.prog).call 53 [.ptr x 0, .agg (clL c)] s kr kp = true := by
  have hW' := hW
  obtain ⟨hB, ι, μ, R, hL⟩ := hW'
  unfold do3 at h
  cases ha : M.nodes.all (fun nd => (sortK nd.kids).isSome) with
  | false => rw [ha] at h; cases h
  | true =>
  rw [ha, cond_true] at h
  have hs : ∀ n nd, tOf M ι μ n = some nd → ∃ nm, sortK nd.kids = some nm := by
    intro n nd' hn
    obtain ⟨k, nd, rfl, hn2, rfl⟩ := R.inv hn
    have := List.all_eq_true.mp ha nd (List.mem_of_getElem? hn2)
    rw [to_kids, sortK_to]
    exact Option.isSome_iff_exists.mp this
  cases hf : findT M.T M.root M.cwd c.path true with
  | none => rw [hf] at h; cases h
  | some out =>
  rw [hf] at h
  cases out with
  | inr n =>
    have hf' : findT (tOf M ι μ) (ι M.root) (ι M.cwd) c.path true = some (.inr n) := findT_to R.hom hf
    cases h
    exact look3_c H R.rep hB R.tr hop hf' (fun n h => by cases h) hs (fun n nd s' h => by cases h) (fun n nd d V s' h => by cases h) (fun n s' h e b => by cases h; exact hk s' (hW.ext e b) e.1)
  | inl k =>
    have hf' : findT (tOf M ι μ) (ι M.root) (ι M.cwd) c.path true = some (.inl (ι k)) := findT_to R.hom hf
    simp only at h
    cases hT : M.T k with
    | none => rw [hT] at h; cases h
    | some nd =>
      rw [hT] at h
      simp only at h
      have hA := R.at hT
      refine look3_c H R.rep hB R.tr hop hf' (fun n h => by cases h; exact ⟨_, hA⟩) hs (fun n nd' s' h1 h2 h3 e b => ?_) (fun n nd' nm V s' h1 h2 h3 h4 hV e b => ?_) (fun n s' h => by cases h)
      all_goals (cases h1; rw [hA] at h2; cases h2)
      · have h3 : nd.kind ≠ 1 := h3
        rw [decide_eq_false h3] at h
        cases h
        exact hk s' (hW.ext e b) e.1
      · have h3 : nd.kind = 1 := h3
        rw [to_kids, sortK_to] at h4
        rw [decide_eq_true h3, Bool.not_true, cond_false, h4] at h
        cases h
        exact hk s' V (hW.ext e b) e.1 hV
def do4 (M : Md) (c : Cl) : Option (Nat ⊕ (An × Md)) := match findT M.T M.root M.cwd c.path false with
  | none => none
  | some (.inr n) => some (.inl n)
  | some (.inl k) => match M.T k with
    | none => none
    | some nd => bif decide (nd.kind = 3) then some (.inr (⟨0, 0, 0, 0, nd.data, []⟩, M)) else some (.inl 5)
def do10 (M : Md) (c : Cl) : Option (Nat ⊕ (An × Md)) := match findT M.T M.root M.cwd c.path true with
  | none => none
  | some (.inr n) => some (.inl n)
  | some (.inl k) => match M.T k with
    | none => none
    | some nd => bif decide (c.mode < 0 ∨ c.mode > 511) then some (.inl 5) else some (.inr (an0, { M with nodes := M.nodes.set k { nd with mode := c.mode } }))
def do8 (M : Md) (c : Cl) : Option (Nat ⊕ (An × Md)) := bif Nat.ble c.data.length 10000000000000000000 then (match findT M.T M.root M.cwd c.path true with
  | none => none
  | some (.inr n) => some (.inl n)
  | some (.inl k) => match M.T k with
    | none => none
    | some nd => bif decide (nd.kind = 1) then some (.inl 4) else match writeT nd.data c.off c.data with
      | .inr e => some (.inl e)
      | .inl d => bif Nat.ble d.length 40000 then some (.inr (⟨0, (c.data.length : Int), 0, 0, [], []⟩, { M with nodes := M.nodes.set k { nd with data := d } })) else none) else none
def do9 (M : Md) (c : Cl) : Option (Nat ⊕ (An × Md)) := match findT M.T M.root M.cwd c.path true with
  | none => none
  | some (.inr n) => some (.inl n)
  | some (.inl k) => match M.T k with
    | none => none
    | some nd => bif decide (nd.kind = 1) then some (.inl 4) else bif decide (c.num < 0) then some (.inl 5) else bif decide (c.num > 1024) then some (.inl 9) else
      some (.inr (an0, { M with nodes := M.nodes.set k { nd with data := sizedL nd.data c.num.toNat } }))
end Go.AX
namespace Go.AX
open Go.Proofs Go.RowKit
set_option maxRecDepth 1000000
set_option maxHeartbeats 4000000
set_option linter.unusedSimpArgs false
theorem eight {α : Type} : ∀ {l : List α}, l.length = 8 → ∃ a b c d e f g h, l = [a, b, c, d, e, f, g, h]
  | [a, b, c, d, e, f, g, h], _ => ⟨a, b, c, d, e, f, g, h, rfl⟩
theorem RepM.tr8 {s : St} {x : Nat} {M : Md} {ι μ : Nat → Nat} (R : RepM s x M ι μ) : ∃ f0 f1 f2 f3 f4 f5 f6 f7, ∀ m : Int, trA (ι M.root) (ι M.cwd) (fdsA ι M.fds) m = .cells [.ptr (ι M.root) 0, .ptr (ι M.cwd) 0, f0, f1, f2, f3, f4, f5, f6, f7, .raw (.int .i64 m)] 106 0 := by
  obtain ⟨a, b, c, d, e, f, g, h, hl⟩ := eight R.f8
  rw [hl]
  exact ⟨upA (a.map ι), upA (b.map ι), upA (c.map ι), upA (d.map ι), upA (e.map ι), upA (f.map ι), upA (g.map ι), upA (h.map ι), fun m => rfl⟩
theorem mem_setK {p : List Nat} {n : Nat} : ∀ {l : List (List Nat × Nat)} {q : List Nat × Nat}, q ∈ setK p n l → q.2 = n ∨ q ∈ l
  | [], q, h => by
    simp only [setK, List.mem_singleton] at h
    exact Or.inl (by rw [h])
  | (r, j) :: l, q, h => by
    simp only [setK] at h
    cases he : eqB p r with
    | true =>
      rw [he] at h
      simp only [cond_true, List.mem_cons] at h
      rcases h with rfl | h
      · exact Or.inl rfl
      · exact Or.inr (List.mem_cons_of_mem _ h)
    | false =>
      rw [he] at h
      simp only [cond_false, List.mem_cons] at h
      rcases h with rfl | h
      · exact Or.inr (List.mem_cons_self ..)
      · exact (mem_setK h).imp_right (List.mem_cons_of_mem _)
theorem kidsTo_congr {i j : Nat → Nat} {l : List (List Nat × Nat)} (h : ∀ q ∈ l, i q.2 = j q.2) : kidsTo i l = kidsTo j l := by
  unfold kidsTo
  exact List.map_congr_left fun q hq => by rw [h q hq]
theorem to_congr {i j : Nat → Nat} {mp : Nat} {nd : Nd} (h : ∀ q ∈ nd.kids, i q.2 = j q.2) (h2 : ∀ u, nd.up = some u → i u = j u) : nd.to i mp = nd.to j mp := by
  unfold Nd.to
  rw [kidsTo_congr h]
  cases hu : nd.up with
  | none => rfl
  | some u => simp only [Option.map_some, h2 u hu]
def addN (M : Md) (u : Nat) (ud : Nd) (nm : List Nat) (nw : Nd) : Md := { M with nodes := M.nodes.set u { ud with kids := setK nm M.nodes.length ud.kids } ++ [nw], many := M.many + 1 }
def do5 (M : Md) (c : Cl) : Option (Nat ⊕ (An × Md)) := match placeT M.T M.root M.cwd c.path with
  | none => none
  | some (.inr n) => some (.inl n)
  | some (.inl (u, nm)) => match M.T u with
    | none => none
    | some ud => match deepT M.T 20 u with
      | none => none
      | some d => match pathT M.T 20 u with
        | none => none
        | some p => bif Nat.ble (p.length + nm.length) 1000000 && Nat.ble d 1000000 then (match lookK nm ud.kids with
          | some _ => some (.inl 2)
          | none => bif decide (c.mode < 0 ∨ c.mode > 511) then some (.inl 5) else bif !fitsB (d + 1) (joinP p nm).length then some (.inl 8) else bif decide (M.many ≥ 128) then some (.inl 10) else
            some (.inr (an0, addN M u ud nm ⟨2, c.mode, [], [], some u, nm, 0⟩))) else none
def do6 (M : Md) (c : Cl) : Option (Nat ⊕ (An × Md)) := match placeT M.T M.root M.cwd c.path with
  | none => none
  | some (.inr n) => some (.inl n)
  | some (.inl (u, nm)) => match M.T u with
    | none => none
    | some ud => match deepT M.T 20 u with
      | none => none
      | some d => match pathT M.T 20 u with
        | none => none
        | some p => bif Nat.ble (p.length + nm.length) 1000000 && Nat.ble d 1000000 then (match lookK nm ud.kids with
          | some _ => some (.inl 2)
          | none => bif decide (c.mode < 0 ∨ c.mode > 511) then some (.inl 5) else bif !fitsB (d + 1) (joinP p nm).length then some (.inl 8) else bif decide (M.many ≥ 128) then some (.inl 10) else
            some (.inr (an0, addN M u ud nm ⟨1, c.mode, [], [], some u, nm, 0⟩))) else none
def do7 (M : Md) (c : Cl) : Option (Nat ⊕ (An × Md)) := match placeT M.T M.root M.cwd c.path with
  | none => none
  | some (.inr n) => some (.inl n)
  | some (.inl (u, nm)) => match M.T u with
    | none => none
    | some ud => match deepT M.T 20 u with
      | none => none
      | some d => match pathT M.T 20 u with
        | none => none
        | some p => bif Nat.ble (p.length + nm.length) 1000000 && Nat.ble d 1000000 then (match lookK nm ud.kids with
          | some _ => some (.inl 2)
          | none => bif !targetB c.data then some (.inl 5) else bif !fitsB (d + 1) (joinP p nm).length then some (.inl 8) else bif decide (M.many ≥ 128) then some (.inl 10) else
            some (.inr (an0, addN M u ud nm ⟨3, 511, c.data, [], some u, nm, 0⟩))) else none
end Go.AX
namespace Go.AX
open Go.Proofs Go.RowKit
set_option maxRecDepth 1000000
set_option maxHeartbeats 4000000
set_option linter.unusedSimpArgs false
def doRm (M : Md) (c : Cl) (file : Bool) : Option (Nat ⊕ (An × Md)) := match placeT M.T M.root M.cwd c.path with
  | none => none
  | some (.inr n) => some (.inl n)
  | some (.inl (u, nm)) => match M.T u with
    | none => none
    | some ud => match lookK nm ud.kids with
      | none => some (.inl 1)
      | some j => match M.T j with
        | none => none
        | some jd => bif file && decide (jd.kind = 1) then some (.inl 4) else bif !file && !decide (jd.kind = 1) then some (.inl 3) else bif !file && !jd.kids.isEmpty then some (.inl 6) else bif !file && Nat.beq j M.cwd then some (.inl 13)
          else bif decide (-999999 ≤ M.many) then some (.inr (an0, { M with nodes := M.nodes.set u { ud with kids := eraseK nm ud.kids }, many := M.many - 1 })) else none
def renN (l : List Nd) (m : Mv) (ud vd jd : Nd) : List Nd := ((bif Nat.beq m.u m.v then l.set m.j { jd with up := some m.v, name := m.nm } else (l.set m.j { jd with up := some m.v, name := m.nm }).set m.u { ud with kids := eraseK m.old ud.kids })).set m.v { vd with kids := setK m.nm m.j (lessK m.u m.v m.old ud vd).kids }
def do13 (M : Md) (c : Cl) : Option (Nat ⊕ (An × Md)) := match renT M.T M.root M.cwd c.path c.path2 with
  | none => none
  | some (.inl n) => some (.inl n)
  | some (.inr none) => some (.inr (an0, M))
  | some (.inr (some m)) => match M.T m.u with
    | none => none
    | some ud => match M.T m.v with
      | none => none
      | some vd => match M.T m.j with
        | none => none
        | some jd => bif decide (-999999 ≤ M.many) then some (.inr (an0, { M with nodes := renN M.nodes m ud vd jd, many := bif m.y.isSome then M.many - 1 else M.many })) else none
theorem World.fds {s s' : St} {x : Nat} {M : Md} {ι μ : Nat → Nat} (R : RepM s x M ι μ) {L : List (Nat × AO)} (hB : Below0 s) (hL : ∀ q ∈ L, s.h.get q.1 = some q.2 ∧ ¬ Own x M ι μ q.1) (hB' : Below0 s') {cwd : Nat} {l : List (Option Nat)} (hc : cwd < M.nodes.length) (h8 : l.length = 8) (hl : ∀ o ∈ l, ∀ k, o = some k → k < M.nodes.length)
    (ht : Turned s s' x (trA (ι M.root) (ι cwd) (fdsA ι l) M.many)) : World s' x { M with cwd := cwd, fds := l } L := by
  refine World.new R hB hL hB' rfl (fun j jd h => ?_) rfl hc h8 hl R.mn ht.2.1 (fun i hi ho => ht.2.2 i hi (fun e => ho (Or.inl e)))
  have h : M.T j = some jd := h
  have old := R.nd j jd h
  have hjl := T_lt h
  exact ⟨⟨(ht.2.2 _ (R.li hB hjl) (R.xi hjl)).trans old.1, (ht.2.2 _ (R.lm hB hjl) (R.xm hjl)).trans old.2⟩, R.kd j jd h, fun u hu => R.up j jd u h hu, R.da j jd h⟩
def do14 (M : Md) (c : Cl) : Option (Nat ⊕ (An × Md)) := match findT M.T M.root M.cwd c.path true with
  | none => none
  | some (.inr n) => some (.inl n)
  | some (.inl k) => match M.T k with
    | none => none
    | some nd => bif decide (nd.kind = 1) then some (.inl 4) else match freeF M.fds 0 with
      | none => some (.inl 10)
      | some i => some (.inr (⟨0, (i : Int), 0, 0, [], []⟩, { M with cwd := M.cwd, fds := M.fds.set i (some k) }))
def do15 (M : Md) (c : Cl) : Option (Nat ⊕ (An × Md)) := match fdT M.fds c.fd with
  | none => some (.inl 12)
  | some k => match M.T k with
    | none => none
    | some nd => match readT nd.data c.off c.num with
      | .inr e => some (.inl e)
      | .inl d => some (.inr (⟨0, (d.length : Int), 0, 0, d, []⟩, M))
def do16 (M : Md) (c : Cl) : Option (Nat ⊕ (An × Md)) := match fdT M.fds c.fd with
  | none => some (.inl 12)
  | some k => match M.T k with
    | none => none
    | some nd => bif Nat.ble c.data.length 10000000000000000000 then (match writeT nd.data c.off c.data with
      | .inr e => some (.inl e)
      | .inl d => bif Nat.ble d.length 40000 then some (.inr (⟨0, (c.data.length : Int), 0, 0, [], []⟩, { M with nodes := M.nodes.set k { nd with data := d } })) else none) else none
def do17 (M : Md) (c : Cl) : Option (Nat ⊕ (An × Md)) := match fdT M.fds c.fd with
  | none => some (.inl 12)
  | some _ => some (.inr (an0, { M with cwd := M.cwd, fds := M.fds.set c.fd.toNat none }))
end Go.AX
namespace Go.AX
open Go.Proofs Go.RowKit
set_option maxRecDepth 1000000
set_option maxHeartbeats 40000000
set_option linter.unusedSimpArgs false
theorem World.alloc {s : St} {x : Nat} {M : Md} {L : List (Nat × AO)} (h : World s x M L) (o : AO) : World (s.alloc o) x M ((s.nx, o) :: L) := by
  obtain ⟨hB, ι, μ, R, hL⟩ := h
  obtain ⟨hB', ι', μ', R', hL'⟩ := World.same R (L := L) hB hL (below_alloc hB o) (Ext.alloc s o)
  refine ⟨below_alloc hB o, ι, μ, ?_, ?_⟩
  · have he := Ext.alloc s o
    exact ⟨fun k nd hk => ⟨(he.2 _ (R.li hB (T_lt hk))).trans (R.nd k nd hk).1, (he.2 _ (R.lm hB (T_lt hk))).trans (R.nd k nd hk).2⟩, (he.2 _ (R.lx hB)).trans R.tr, R.ij, R.mj, R.kd, R.up, R.rt, R.cw, R.f8, R.fd, R.mn, R.da⟩
  · intro q hq
    simp only [List.mem_cons] at hq
    rcases hq with rfl | hq
    · refine ⟨al_same, ?_⟩
      rintro (e | ⟨k, hk, e | e⟩)
      · have := R.lx hB
        simp only at e
        omega
      · have := R.li hB hk
        simp only at e
        omega
      · have := R.lm hB hk
        simp only at e
        omega
    · obtain ⟨h1, h2⟩ := hL q hq
      exact ⟨((Ext.alloc s o).2 _ (hB _ _ h1)).trans h1, h2⟩
theorem World.get {s : St} {x : Nat} {M : Md} {L : List (Nat × AO)} (h : World s x M L) {q : Nat × AO} (hq : q ∈ L) : s.h.get q.1 = some q.2 := by
  obtain ⟨hB, ι, μ, R, hL⟩ := h
  exact (hL q hq).1
theorem World.get0 {s : St} {x : Nat} {M : Md} {L : List (Nat × AO)} {i : Nat} {o : AO} (h : World s x M ((i, o) :: L)) : s.h.get i = some o := h.get (q := (i, o)) (List.mem_cons_self ..)
theorem World.get1 {s : St} {x : Nat} {M : Md} {L : List (Nat × AO)} {q : Nat × AO} {i : Nat} {o : AO} (h : World s x M (q :: (i, o) :: L)) : s.h.get i = some o := h.get (q := (i, o)) (List.mem_cons_of_mem _ (List.mem_cons_self ..))
theorem World.below {s : St} {x : Nat} {M : Md} {L : List (Nat × AO)} (h : World s x M L) : Below0 s := h.1
theorem World.lt {s : St} {x : Nat} {M : Md} {L : List (Nat × AO)} (h : World s x M L) {q : Nat × AO} (hq : q ∈ L) : q.1 < s.nx := h.1 _ _ (h.get hq)
theorem World.sub {s : St} {x : Nat} {M : Md} {L L' : List (Nat × AO)} (h : World s x M L) (hs : ∀ q ∈ L', q ∈ L) : World s x M L' := by
  obtain ⟨hB, ι, μ, R, hL⟩ := h
  exact ⟨hB, ι, μ, R, fun q hq => hL q (hs q hq)⟩
theorem World.set {s : St} {x : Nat} {M : Md} {L : List (Nat × AO)} {a : Nat} {o : AO} (h : World s x M ((a, o) :: L)) (hne : ∀ q ∈ L, q.1 ≠ a) (o' : AO) : World { s with h := s.h.set a o' } x M ((a, o') :: L) := by
  obtain ⟨hB, ι, μ, R, hL⟩ := h
  obtain ⟨ha, hno⟩ := hL (a, o) (List.mem_cons_self ..)
  have hno : ¬ Own x M ι μ a := hno
  have f : ∀ i, i ≠ a → ({ s with h := s.h.set a o' } : St).h.get i = s.h.get i := fun i hi => hs_ne hi
  have hx : x ≠ a := fun e => hno (Or.inl e.symm)
  have hi : ∀ k, k < M.nodes.length → ι k ≠ a := fun k hk e => hno (Or.inr ⟨k, hk, Or.inl e.symm⟩)
  have hm : ∀ k, k < M.nodes.length → μ k ≠ a := fun k hk e => hno (Or.inr ⟨k, hk, Or.inr e.symm⟩)
  refine ⟨below_set hB (hB _ _ ha) _, ι, μ, ?_, ?_⟩
  · exact ⟨fun k nd hk => ⟨(f _ (hi _ (T_lt hk))).trans (R.nd k nd hk).1, (f _ (hm _ (T_lt hk))).trans (R.nd k nd hk).2⟩, (f _ hx).trans R.tr, R.ij, R.mj, R.kd, R.up, R.rt, R.cw, R.f8, R.fd, R.mn, R.da⟩
  · intro q hq
    simp only [List.mem_cons] at hq
    rcases hq with rfl | hq
    · exact ⟨hs_same, hno⟩
    · obtain ⟨h1, h2⟩ := hL q (List.mem_cons_of_mem _ hq)
      exact ⟨(f _ (hne q hq)).trans h1, h2⟩
theorem SlV.set {s : St} {V : AV} {names : List (List Nat)} (h : SlV s V names) {a : Nat} {cs : List AV} {t z : Nat} (ha : s.h.get a = some (.cells cs t z)) (ht : t ≠ 9) (o : AO) : SlV { s with h := s.h.set a o } V names := by
  rcases h with h | h | ⟨id, off, ci, cap, ex, cs', fz, h1, h2, h3⟩
  · exact Or.inl h
  · exact Or.inr (Or.inl h)
  · refine Or.inr (Or.inr ⟨id, off, ci, cap, ex, cs', fz, h1, (hs_ne ?_).trans h2, h3⟩)
    intro e
    rw [e, ha] at h2
    simp only [Option.some.injEq, AO.cells.injEq] at h2
    exact ht h2.2.1
def outM (M : Md) : Nat ⊕ (An × Md) → An × Md
  | .inl n => (⟨(n : Int), 0, 0, 0, [], []⟩, M)
  | .inr q => q
def Dt (s : St) (x : Nat) (L : List (Nat × AO)) (kr : AV → St → Bool) (q : An × Md) : Prop :=
  ∀ s' V, World s' x q.2 L → s.nx ≤ s'.nx → SlV s' V q.1.names → kr (.agg (anL q.1.status q.1.num q.1.kind q.1.mode q.1.data V)) s' = true
theorem eq_tn {s : St} {i j : Nat} {d : Option (AV × List Nat)} : eqS TE s .eql 63 (.ptr i j) (.raw (.pointer none)) d = some (.raw (.bool false), []) := by kernel_rfl
theorem an_str : (43 : Nat) ≠ 9 := by decide
theorem fr_1' {x : Nat} : fieldAddrA TE 106 (.ptr x 0) 1 = some (.ptr x 1) := by kernel_rfl
theorem do_look {s : St} (H : Ok TE Tryz.prog pr3) {x : Nat} {M : Md} {L : List (Nat × AO)} (hW : World s x M L) {c : Cl} (h1 : 1 ≤ c.op) (h2 : c.op ≤ 4) {r : Nat ⊕ (An × Md)}
    (hsub : ∀ s L kr kp, World s x M L → Kt s x M L kr kp r → (sem Tryz.prog).call 53 [.ptr x 0, .agg (clL c)] s kr kp = true) {kr kp : AV → St → Bool} (hk : Dt s x L kr (outM M r)) :
    (sem Tryz.prog).call 25 [.ptr x 0, .agg (clL c)] s kr kp = true := by
  refine w_call H 77 fn_25 rfl rfl ?_
  have m1 : (s.nx = s.nx + 1) = False := by simp
  have m2 : (s.nx + 1 = s.nx) = False := by simp
  have hL1 : ∀ q ∈ (s.nx, AO.cells (clL c) 47 0) :: L, q.1 ≠ s.nx + 1 := by
    intro q hq
    simp only [List.mem_cons] at hq
    rcases hq with rfl | hq
    · simp
    · have := hW.lt hq
      omega
  have hW2 := (hW.alloc (.cells (clL c) 47 0)).alloc (.cells (anL 0 0 0 0 [] nilS) 43 0)
  have o1 : decide (c.op < 1) = false := by rw [decide_eq_false_iff_not]; omega
  have o2 : decide (c.op > 18) = false := by rw [decide_eq_false_iff_not]; omega
  have o3 : decide (c.op ≤ 4) = true := by rw [decide_eq_true_eq]; omega
  unfold clL at hW2 ⊢
  repeat (first | with_reducible (refine w_one H ?_; constructor) | simp only [rB, rP, rQ, boolA, intA, resultA, resA, reduceIte, reduceCtorEq, Nat.reduceAdd, Nat.reduceLT, Nat.reduceEqDiff, UInt8.reduceToNat, pe3, pf3, all_an, cells_agg, fc_0, ld_3, ld_9, m1, m2, b_lt, b_gt, b_le, b_eqi, o1, o2, o3, b_pp, eq_tn, o_defer, deferA_fn, ld_cl, ldG_cl])
  refine hsub _ _ _ _ hW2 ?_
  cases r with
  | inl n =>
    intro s1 w1 l1
    have c1 : s1.h.get (s.nx + 1) = some (.cells (anL 0 0 0 0 [] nilS) 43 0) := w1.get0
    repeat (first | with_reducible (refine w_one H ?_; constructor) | simp only [rB, rP, rQ, boolA, intA, resultA, resA, reduceIte, reduceCtorEq, Nat.reduceAdd, Nat.reduceLT, Nat.reduceEqDiff, UInt8.reduceToNat, pe3, pf3] | (with_reducible refine caught H c1 ?_))
    repeat (first | with_reducible (refine w_one H ?_; constructor) | simp only [rB, rP, rQ, boolA, intA, resultA, resA, reduceIte, reduceCtorEq, Nat.reduceAdd, Nat.reduceLT, Nat.reduceEqDiff, UInt8.reduceToNat, pe3, pf3, c1, ld_an, ldG_an, Tryz.results25])
    exact hk _ nilS ((w1.set hL1 _).sub (fun q hq => List.mem_cons_of_mem _ (List.mem_cons_of_mem _ hq))) (Nat.le_trans (by show s.nx ≤ s.nx + 1 + 1; omega) l1) slv_nil
  | inr q =>
    obtain ⟨an, M'⟩ := q
    intro s1 V w1 l1 hV
    have c1 : s1.h.get (s.nx + 1) = some (.cells (anL 0 0 0 0 [] nilS) 43 0) := w1.get0
    repeat (first | with_reducible (refine w_one H ?_; constructor) | simp only [rB, rP, rQ, boolA, intA, resultA, resA, reduceIte, reduceCtorEq, Nat.reduceAdd, Nat.reduceLT, Nat.reduceEqDiff, UInt8.reduceToNat, pe3, pf3, c1, st_an hV.cells1.2, stA_an] | (with_reducible refine passed H ?_))
    repeat (first | with_reducible (refine w_one H ?_; constructor) | simp only [rB, rP, rQ, boolA, intA, resultA, resA, reduceIte, reduceCtorEq, Nat.reduceAdd, Nat.reduceLT, Nat.reduceEqDiff, UInt8.reduceToNat, pe3, pf3, c1, ld_an, ldG_an, Tryz.results25])
    exact hk _ V ((w1.set hL1 _).sub (fun q hq => List.mem_cons_of_mem _ (List.mem_cons_of_mem _ hq))) (Nat.le_trans (by show s.nx ≤ s.nx + 1 + 1; omega) l1) (hV.set c1 an_str _)
end Go.AX
namespace Go.AX
open Go.Proofs Go.RowKit
set_option maxRecDepth 1000000
set_option maxHeartbeats 40000000
set_option linter.unusedSimpArgs false
def do18 (M : Md) (c : Cl) : Option (Nat ⊕ (An × Md)) := match findT M.T M.root M.cwd c.path true with
  | none => none
  | some (.inr n) => some (.inl n)
  | some (.inl k) => match M.T k with
    | none => none
    | some nd => bif !decide (nd.kind = 1) then some (.inl 3) else some (.inr (an0, { M with cwd := k, fds := M.fds }))
def doR (M : Md) (c : Cl) : Nat → Option (Nat ⊕ (An × Md))
  | 1 => do1 M c
  | 2 => do2 M c
  | 3 => do3 M c
  | 4 => do4 M c
  | 5 => do5 M c
  | 6 => do6 M c
  | 7 => do7 M c
  | 8 => do8 M c
  | 9 => do9 M c
  | 10 => do10 M c
  | 11 => doRm M c true
  | 12 => doRm M c false
  | 13 => do13 M c
  | 14 => do14 M c
  | 15 => do15 M c
  | 16 => do16 M c
  | 17 => do17 M c
  | 18 => do18 M c
  | _ => none
def doM (M : Md) (c : Cl) : Option (An × Md) := bif decide (c.op < 1) || decide (c.op > 18) then some (⟨5, 0, 0, 0, [], []⟩, M) else match doR M c c.op.toNat with
  | none => none
  | some r => some (outM M r)
end Go.AX
