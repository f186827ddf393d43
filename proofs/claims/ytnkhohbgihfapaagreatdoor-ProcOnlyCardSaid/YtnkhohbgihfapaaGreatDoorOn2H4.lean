import Derived.Shelf.SlSortCmp.WholeK
import Derived.Shelf.SlSortCmp.NoneTotal
import Derived.Shelf.SlGeneric
import Derived.Ground.SlsfProg
import Derived.Test.YtnkhohbgihfapaaGreatDoorProg
import Derived.Test.YtnkhohbgihfapaaGreatDoorOn2H2
import Derived.Test.YtnkhohbgihfapaaGreatDoorOn2H3
import Derived.Test.YtnkhohbgihfapaaGreatDoorOn2A5
set_option linter.unusedVariables false
set_option linter.unusedSimpArgs false
set_option linter.defProp false
namespace Go.Proofs
open Go.Shelf
def Tryz.laysSF_ren : Go.Shelf.Ren := ⟨fun | 6 => 125 | 15 => 163 | 14 => 162 | 28 => 202 | 29 => 203 | 20 => 194 | 21 => 195 | 22 => 196 | 23 => 197 | 24 => 198 | 25 => 199 | 26 => 200 | 27 => 201 | 46 => 236 | 47 => 237 | 48 => 238 | 49 => 239 | 50 => 240 | 57 => 267 | n => n, fun | 22 => 26 | 24 => 25 | 25 => 204 | 3 => 3 | 39 => 45 | 0 => 0 | 53 => 262 | 55 => 56 | 4 => 4 | 46 => 256 | 45 => 255 | 50 => 119 | 5 => 5 | 9 => 9 | 66 => 291 | 70 => 295 | 76 => 310 | 77 => 311 | n => n, fun | n => n⟩
theorem Tryz.laysSF : Go.Proofs.SlLaysF0.n6 Tryz.prog Tryz.laysSF_ren := {
  mixed := by kernel_rfl
  f6 := ⟨Tryz.f125.name, by decide, Tryz.func125.trans (congrArg some (by kernel_rfl))⟩
  f14 := ⟨Tryz.f162.name, by decide, Tryz.func162.trans (congrArg some (by kernel_rfl))⟩
  f15 := Tryz.func163.trans (congrArg some (by kernel_rfl))
  f20 := ⟨Tryz.f194.name, by decide, Tryz.func194.trans (congrArg some (by kernel_rfl))⟩
  f21 := ⟨Tryz.f195.name, by decide, Tryz.func195.trans (congrArg some (by kernel_rfl))⟩
  f22 := ⟨Tryz.f196.name, by decide, Tryz.func196.trans (congrArg some (by kernel_rfl))⟩
  f23 := ⟨Tryz.f197.name, by decide, Tryz.func197.trans (congrArg some (by kernel_rfl))⟩
  f24 := ⟨Tryz.f198.name, by decide, Tryz.func198.trans (congrArg some (by kernel_rfl))⟩
  f25 := ⟨Tryz.f199.name, by decide, Tryz.func199.trans (congrArg some (by kernel_rfl))⟩
  f26 := ⟨Tryz.f200.name, by decide, Tryz.func200.trans (congrArg some (by kernel_rfl))⟩
  f27 := ⟨Tryz.f201.name, by decide, Tryz.func201.trans (congrArg some (by kernel_rfl))⟩
  f28 := Tryz.func202.trans (congrArg some (by kernel_rfl))
  f29 := Tryz.func203.trans (congrArg some (by kernel_rfl))
  f46 := ⟨Tryz.f236.name, by decide, Tryz.func236.trans (congrArg some (by kernel_rfl))⟩
  f47 := Tryz.func237.trans (congrArg some (by kernel_rfl))
  f48 := Tryz.func238.trans (congrArg some (by kernel_rfl))
  f49 := ⟨Tryz.f239.name, by decide, Tryz.func239.trans (congrArg some (by kernel_rfl))⟩
  f50 := ⟨Tryz.f240.name, by decide, Tryz.func240.trans (congrArg some (by kernel_rfl))⟩
  f57 := ⟨Tryz.f267.name, by decide, Tryz.func267.trans (congrArg some (by kernel_rfl))⟩
  t0 := Tryz.underlying0
  a0 := Tryz.isAgg0
  z0 := Tryz.sizeOf0
  v0 := Tryz.zeroValue0
  t3 := Tryz.underlying3
  a3 := Tryz.isAgg3
  z3 := Tryz.sizeOf3
  v3 := Tryz.zeroValue3
  t4 := Tryz.underlying4
  a4 := Tryz.isAgg4
  z4 := Tryz.sizeOf4
  v4 := Tryz.zeroValue4
  t5 := Tryz.underlying5
  a5 := Tryz.isAgg5
  z5 := Tryz.sizeOf5
  v5 := Tryz.zeroValue5
  t9 := Tryz.underlying9
  a9 := Tryz.isAgg9
  z9 := Tryz.sizeOf9
  v9 := Tryz.zeroValue9
  t22 := Tryz.underlying26
  a22 := Tryz.isAgg26
  z22 := Tryz.sizeOf26
  v22 := Tryz.zeroValue26
  t25 := Tryz.underlying204
  a25 := Tryz.isAgg204
  z25 := Tryz.sizeOf204
  v25 := Tryz.zeroValue204
  t39 := Tryz.underlying45
  a39 := Tryz.isAgg45
  z39 := Tryz.sizeOf45
  v39 := Tryz.zeroValue45
  t45 := Tryz.underlying255
  a45 := Tryz.isAgg255
  z45 := Tryz.sizeOf255
  v45 := Tryz.zeroValue255
  t46 := Tryz.underlying256
  a46 := Tryz.isAgg256
  z46 := Tryz.sizeOf256
  v46 := Tryz.zeroValue256
  t50 := Tryz.underlying119
  a50 := Tryz.isAgg119
  z50 := Tryz.sizeOf119
  v50 := Tryz.zeroValue119
  t53 := Tryz.underlying262
  a53 := Tryz.isAgg262
  z53 := Tryz.sizeOf262
  v53 := Tryz.zeroValue262
  t55 := Tryz.underlying56
  a55 := Tryz.isAgg56
  z55 := Tryz.sizeOf56
  v55 := Tryz.zeroValue56
  t66 := Tryz.underlying291
  a66 := Tryz.isAgg291
  z66 := Tryz.sizeOf291
  v66 := Tryz.zeroValue291
  t70 := Tryz.underlying295
  a70 := Tryz.isAgg295
  z70 := Tryz.sizeOf295
  v70 := Tryz.zeroValue295
  t76 := Tryz.underlying310
  a76 := Tryz.isAgg310
  z76 := Tryz.sizeOf310
  v76 := Tryz.zeroValue310
  t77 := Tryz.underlying311
  a77 := Tryz.isAgg311
  z77 := Tryz.sizeOf311
  v77 := Tryz.zeroValue311 }
end Go.Proofs
namespace Go.AX
open Go.Proofs Go.RowKit Go.Sort
set_option maxRecDepth 1000000
set_option maxHeartbeats 400000000
set_option linter.unusedSimpArgs false
set_option linter.unusedVariables false
theorem swoP {n : Nat} : SWO (ltOf fun (x y : EA n) => cmpP x.1.1 y.1.1) where
  irrefl x := by
    show decide (cmpP x.1.1 x.1.1 < 0) = false
    exact decide_eq_false ltP_irrefl
  trans x y z h1 h2 := by
    have h1 : cmpP x.1.1 y.1.1 < 0 := of_decide_eq_true h1
    have h2 : cmpP y.1.1 z.1.1 < 0 := of_decide_eq_true h2
    exact decide_eq_true (show cmpP x.1.1 z.1.1 < 0 from ltP_trans (show LtP _ _ from h1) (show LtP _ _ from h2))
  ntrans x y z h1 h2 := by
    have h1 : ¬ cmpP x.1.1 y.1.1 < 0 := of_decide_eq_false h1
    have h2 : ¬ cmpP y.1.1 z.1.1 < 0 := of_decide_eq_false h2
    refine decide_eq_false (show ¬ cmpP x.1.1 z.1.1 < 0 from ?_)
    show ¬ LtP (partsL x.1.1) (partsL z.1.1)
    intro h3
    by_cases e1 : partsL x.1.1 = partsL y.1.1
    · rw [e1] at h3; exact h2 h3
    · have := ltP_total e1 h1
      exact h2 (ltP_trans this h3)
theorem cmpr_c (H : Ok TE Tryz.prog pr3) {e e' : En} (h1 : e.1.length ≤ 140) (h2 : e'.1.length ≤ 140) {kr kp : AV → St → Bool} (hk : ∀ s', kr (.raw (.int .i64 (cmpP e.1 e'.1))) s' = true) :
    (sem Tryz.prog).call 126 [.agg (celA e), .agg (celA e')] st0 kr kp = true := by
  refine w_call H 10 fn_126 rfl rfl ?_
  have B0 : Below0 st0 := fun i o h => by cases h
  have hB1 : Below0 ((st0.alloc (.cells (celE e) 25 0)).alloc (.cells (celE e') 25 0)) := below_al (below_al B0 _) _
  have c1 : ((st0.alloc (.cells (celE e) 25 0)).alloc (.cells (celE e') 25 0)).h.get 0 = some (.cells (celE e) 25 0) := (al_ne (show (0 : Nat) ≠ 1 by decide)).trans al_same
  have c2 : ((st0.alloc (.cells (celE e) 25 0)).alloc (.cells (celE e') 25 0)).h.get 1 = some (.cells (celE e') 25 0) := al_same
  have e1 : celA e = celE e := rfl
  have e2 : celA e' = celE e' := rfl
  have n0 : st0.nx = 0 := rfl
  have pa := parts_le (b := e.1)
  have pb := parts_le (b := e'.1)
  rw [e1, e2]
  repeat (first | with_reducible (refine w_one H ?_; constructor) | simp only [rB, rP, rQ, boolA, intA, resultA, resA, reduceIte, reduceCtorEq, Nat.reduceAdd, Nat.reduceLT, Nat.reduceEqDiff, UInt8.reduceToNat, pe3, pf3, cells_agg, n0])
  generalize ((st0.alloc (.cells (celE e) 25 0)).alloc (.cells (celE e') 25 0)) = s1 at *
  repeat (first | with_reducible (refine w_one H ?_; constructor) | simp only [rB, rP, rQ, boolA, intA, resultA, resA, reduceIte, reduceCtorEq, Nat.reduceAdd, Nat.reduceLT, Nat.reduceEqDiff, UInt8.reduceToNat, pe3, pf3, c1, c2, fa_en0, ld_9, ldE0, ce_0])
  refine compare_c H hB1 (by omega) (by omega) (by omega) (by omega) (fun s2 hE2 hB2 => ?_)
  repeat (first | with_reducible (refine w_one H ?_; constructor) | simp only [rB, rP, rQ, boolA, intA, resultA, resA, reduceIte, reduceCtorEq, Nat.reduceAdd, Nat.reduceLT, Nat.reduceEqDiff, UInt8.reduceToNat, pe3, pf3, Tryz.results126])
  exact hk s2
theorem flat_eq : ∀ {es : List En}, flatA4 es = flatE es
  | [] => rfl
  | e :: l => by
    show celA e ++ flatA4 l = _
    rw [flat_eq]
    rfl
theorem sortE_c {s : St} (H : Ok TE Tryz.prog pr3) {q cap fz : Nat} {ex : Bool} {es : List En} (hg : s.h.get q = some (.cells (flatE es) 25 fz)) (hl : ∀ e ∈ es, e.1.length ≤ 140) (hsz : es.length < 1000000000) {kr kp : AV → St → Bool}
    (hk : ∀ es' : List En, es'.Perm es → es'.Pairwise (fun a b => ¬ cmpP b.1 a.1 < 0) → kr (.tuple []) { s with h := s.h.set q (.cells (flatE es') 25 fz) } = true) :
    (sem Tryz.prog).call 125 [.slice q 0 es.length 0 cap ex, .fn 126 []] s kr kp = true := by
  rw [← flat_eq] at hg
  refine sort_of (n := 140) (c := fun a b => cmpP a.1 b.1) (enters_of Tryz.func125 (by kernel_rfl) rfl)
    (fun blk off cap d w hcmp hH hblk hsz => AnyQ.slices_SortFunc Tryz.laysSF 4 Tryz.isAgg25 Tryz.sizeOf25 (encA (n := 140)) encA_len encA_one (fun x y => cmpP x.1.1 y.1.1) swoP 126 #[] blk off cap d w (enters_of Tryz.func126 (by kernel_rfl) rfl) hcmp hH hblk hsz)
    (fun x y kr kp h => cmpr_c H x.2.1 y.2.1 h) hg hl hsz (fun es' h1 h2 => ?_)
  rw [flat_eq]
  exact hk es' h1 h2
end Go.AX
namespace Go.AX
open Go.Proofs Go.RowKit Go.Sort
set_option maxRecDepth 1000000
set_option maxHeartbeats 400000000
set_option linter.unusedSimpArgs false
set_option linter.unusedVariables false
theorem sort_none {P : Program} {f g : Nat} (hE : Enters P f) (hS : ∀ w, Calls P f #[.slice none 0 0, .func (.func g) #[] #[]] w fun e w' => e = .returned (.tuple #[]) ∧ w' = w)
    {s : St} {kr kp : AV → St → Bool} (hk : kr (.tuple []) s = true) : (sem P).call f [.raw (.slice none 0 0), .fn g []] s kr kp = true := by
  refine sem_call.2 fun w0 w E Args R Rp hv hs hkr hkp => ⟨hE, calls_fw ?_⟩
  simp only [VRels, VRel] at hv
  obtain ⟨V, Vs, rfl, ⟨V2, Vs2, ⟨C0, rfl, rfl⟩, rfl, rfl⟩, rfl⟩ := hv
  refine (hS w).mono fun e w' ⟨he, hw⟩ => ?_
  subst he hw
  exact hkr E _ _ _ w' (Em.le_refl E) (by simp only [VRel, VRels]; exact ⟨[], rfl, rfl⟩) hs hk
theorem sortN_c {s : St} (H : Ok TE Tryz.prog pr3) {kr kp : AV → St → Bool} (hk : kr (.tuple []) s = true) :
    (sem Tryz.prog).call 125 [.raw (.slice none 0 0), .fn 126 []] s kr kp = true :=
  sort_none (enters_of Tryz.func125 (by kernel_rfl) rfl) (fun w => AnyF.slices_SortFunc_none Tryz.laysSF none 0 _ w) hk
def leftN (seen : List Nat) (N : List (List Nat × En)) (ix : List Nat) : List (Nat × (List Nat × En)) := (ix.zip N).filter fun y => !memN y.1 seen
theorem leftM_N {seen : List Nat} : ∀ {N : List (List Nat × En)} {ix : List Nat}, leftM seen (mapG agE N) ix = (leftN seen N ix).map fun y => (y.1, (.str y.2.1, agE y.2.2))
  | [], ix => by cases ix <;> rfl
  | q :: N, [] => rfl
  | q :: N, k :: ix => by
    have ih := leftM_N (seen := seen) (N := N) (ix := ix)
    simp only [mapG, leftN] at ih
    simp only [mapG, List.map_cons, leftM, leftN, List.zip_cons_cons, List.filter_cons]
    cases memN k seen <;> simp [ih]
theorem left_step {y : Nat × (List Nat × En)} {seen : List Nat} : ∀ {L : List (Nat × (List Nat × En))}, (L.map (·.1)).Nodup → y ∈ L.filter (fun z => !memN z.1 seen) → (y :: L.filter (fun z => !memN z.1 (y.1 :: seen))).Perm (L.filter (fun z => !memN z.1 seen))
  | [], _, h => by simp at h
  | z :: L, hn, h => by
    simp only [List.map_cons, List.nodup_cons] at hn
    have ih := left_step (y := y) (seen := seen) (L := L) hn.2
    have hm : memN z.1 (y.1 :: seen) = (bif Nat.beq z.1 y.1 then true else memN z.1 seen) := rfl
    simp only [List.filter_cons, hm] at h ⊢
    cases hs : memN z.1 seen with
    | true =>
      rw [hs] at h
      cases Nat.beq z.1 y.1 <;> simpa [hs] using ih (by simpa using h)
    | false =>
      rw [hs] at h
      simp only [Bool.not_false, if_true, List.mem_cons] at h ⊢
      cases hb : Nat.beq z.1 y.1 with
      | true =>
        have e := Nat.eq_of_beq_eq_true hb
        have hyz : y = z := by
          rcases h with h | h
          · exact h
          · exact absurd (List.mem_map.2 ⟨y, (List.mem_filter.1 h).1, e.symm⟩) hn.1
        have hc : L.filter (fun w => !memN w.1 (y.1 :: seen)) = L.filter (fun w => !memN w.1 seen) := by
          refine List.filter_congr fun w hw => ?_
          have hne : Nat.beq w.1 y.1 = false := by
            cases hb2 : Nat.beq w.1 y.1 with
            | false => rfl
            | true =>
              have e2 := Nat.eq_of_beq_eq_true hb2
              exact absurd (List.mem_map.2 ⟨w, hw, e2.trans e.symm⟩) hn.1
          show (!(bif Nat.beq w.1 y.1 then true else memN w.1 seen)) = _
          rw [hne]
          rfl
        simp only [cond_true, Bool.not_true, Bool.false_eq_true, if_false, hc]
        rw [hyz]
      | false =>
        have h' : y ∈ L.filter (fun w => !memN w.1 seen) := by
          rcases h with h | h
          · subst h
            rw [Nat.beq_refl] at hb
            cases hb
          · exact h
        simp only [cond_false, Bool.not_false, if_true]
        exact (List.Perm.swap z y _).trans (List.Perm.cons z (ih h'))
theorem LR.keep {s s' : St} {fb nb kb it : Nat} {l : List (List Nat × En)} {ix seen : List Nat} {K : List (List Nat × Int)} (R : LR s fb nb kb it l ix seen K) (h : ∀ i o, s.h.get i = some o → (match o with | .cells _ el _ => Nat.beq el 25 | _ => false) = false → s'.h.get i = some o) : LR s' fb nb kb it l ix seen K :=
  ⟨h _ _ R.f rfl, h _ _ R.n rfl, h _ _ R.i rfl, h _ _ R.k rfl⟩
theorem LR.ext {s s' : St} {fb nb kb it : Nat} {l : List (List Nat × En)} {ix seen : List Nat} {K : List (List Nat × Int)} (R : LR s fb nb kb it l ix seen K) (hB : Below0 s) (h : Ext s s') : LR s' fb nb kb it l ix seen K :=
  ⟨(h.2 _ (hB _ _ R.f)).trans R.f, (h.2 _ (hB _ _ R.n)).trans R.n, (h.2 _ (hB _ _ R.i)).trans R.i, (h.2 _ (hB _ _ R.k)).trans R.k⟩
theorem ErB.ext {b : Nat} {s s' : St} {V : AV} {acc : List En} (h : ErB b s V acc) (hB : Below0 s) (hE : Ext s s') : ErB b s' V acc := by
  rcases h with h | ⟨id, h1, h2, h3⟩
  · exact Or.inl h
  · exact Or.inr ⟨id, h1, h2, (hE.2 _ (hB _ _ h3)).trans h3⟩
theorem ErB.set {b : Nat} {s : St} {V : AV} {acc : List En} (h : ErB b s V acc) {i : Nat} {o x : AO} (hi : s.h.get i = some o) (ho : (match o with | .cells _ el _ => Nat.beq el 25 | _ => false) = false) : ErB b { s with h := s.h.set i x } V acc := by
  rcases h with h | ⟨id, h1, h2, h3⟩
  · exact Or.inl h
  · refine Or.inr ⟨id, h1, h2, (hs_ne ?_).trans h3⟩
    intro e
    rw [e, hi] at h3
    cases h3
    cases ho
theorem bs_agE {s : St} {e : En} : buildSliceA TE s 26 1 [(0, agE e)] = some (.slice s.nx 0 1 0 1 true, s.alloc (.cells (celE e) 25 0)) := bs_en
theorem entries_fc {s : St} (H : Ok TE Tryz.prog pr3) (hB : Below0 s) {fb nb kb : Nat} {N : List (List Nat × En)} {K : List (List Nat × Int)} (R : FR s fb nb kb N K) (hp : ∀ q ∈ N, q.2.1.length ≤ 140) (hlen : N.length ≤ 20000) {kr kp : AV → St → Bool}
    (hk : ∀ s' V es, Ext s s' → Below0 s' → ErB s.nx s' V es → es.Perm (N.map (·.2)) → es.Pairwise (fun a b => ¬ cmpP b.1 a.1 < 0) → kr V s' = true) :
    (sem Tryz.prog).call 76 [.ptr fb 0] s kr kp = true := by
  refine w_call H 22 fn_76 rfl rfl ?_
  have f1 := R.f
  have rg := rg_ne R.n
  have hs := hB _ _ R.n
  have hsk := hB _ _ R.k
  have hsf := hB _ _ R.f
  repeat (first | with_reducible (refine w_one H ?_; constructor) | simp only [rB, rP, rQ, boolA, intA, resultA, resA, reduceIte, reduceCtorEq, Nat.reduceAdd, Nat.reduceLT, Nat.reduceEqDiff, UInt8.reduceToNat, pe3, pf3, f1, fa_f0, ld_196, o_range, rg])
  have el : (mapG agE N).length = N.length := by simp [mapG]
  have L0 : LR { h := (s.h.set s.nx (.miter nb [])).set nb (.rmap (mapG agE N) s.nx (iotaL (mapG agE N).length 0)), nx := s.nx + 1 } fb nb kb s.nx N (iotaL N.length 0) [] K := by
    rw [el]
    exact ⟨(hs_ne R.fn).trans ((hs_ne (by omega)).trans R.f), hs_same, (hs_ne (by omega)).trans hs_same, (hs_ne R.d.symm).trans ((hs_ne (by omega)).trans R.k)⟩
  have F0 : ∀ i, i < s.nx → i ≠ nb → ((s.h.set s.nx (.miter nb [])).set nb (.rmap (mapG agE N) s.nx (iotaL (mapG agE N).length 0))).get i = s.h.get i := fun i hi h1 => (hs_ne h1).trans (hs_ne (by omega))
  have B0 : Below0 { h := (s.h.set s.nx (.miter nb [])).set nb (.rmap (mapG agE N) s.nx (iotaL (mapG agE N).length 0)), nx := s.nx + 1 } := by
    have := below_al hB (.miter nb [])
    exact below_set this (by show nb < s.nx + 1; omega) _
  have P0 : (([] : List En) ++ (leftN [] N (iotaL N.length 0)).map (·.2.2)).Perm (N.map (·.2)) := by
    have h1 : leftN [] N (iotaL N.length 0) = (iotaL N.length 0).zip N := List.filter_eq_self.2 fun y _ => rfl
    have h2 : ((iotaL N.length 0).zip N).map (·.2) = N := by rw [← List.unzip_snd, List.unzip_zip_right]; rw [iotaL_lenF]; exact Nat.le_refl _
    have h3 : ((iotaL N.length 0).zip N).map (·.2.2) = N.map (·.2) := by
      conv => rhs; rw [← h2]
      rw [List.map_map]
      rfl
    rw [h1, h3]
    exact List.Perm.refl _
  refine w_loop_ind H (fun n t s' => ∃ acc seen V, n = (leftM seen (mapG agE N) (iotaL N.length 0)).length ∧ tg t 3 = V ∧ tg t 10 = .ptr s.nx 0 ∧ LR s' fb nb kb s.nx N (iotaL N.length 0) seen K ∧ (∀ i, i < s.nx → i ≠ nb → s'.h.get i = s.h.get i) ∧ s.nx < s'.nx ∧ Below0 s' ∧ ErB s.nx s' V acc ∧ (acc ++ (leftN seen N (iotaL N.length 0)).map (·.2.2)).Perm (N.map (·.2))) (n := (leftM [] (mapG agE N) (iotaL N.length 0)).length)
    ⟨[], [], _, rfl, by simp only [rB, rP, rQ, boolA, intA, resultA, resA, reduceIte, reduceCtorEq, Nat.reduceAdd, Nat.reduceLT, Nat.reduceEqDiff, UInt8.reduceToNat]; rfl, by simp only [rB, rP, rQ, boolA, intA, resultA, resA, reduceIte, reduceCtorEq, Nat.reduceAdd, Nat.reduceLT, Nat.reduceEqDiff, UInt8.reduceToNat], L0, F0, Nat.lt_succ_self _, B0, Or.inl ⟨rfl, rfl⟩, P0⟩ ?_
  rintro n t s' ih ⟨acc, seen, V, hn, t3, t10, L, hF, hnx, hB', hE, hP⟩
  cases hl : leftM seen (mapG agE N) (iotaL N.length 0) with
  | nil =>
    have nk := fun {k} => nextK_nil (k := k) L.i L.n hl
    have NE := L.ne
    have E4 : Ext s { s' with h := s'.h.set nb (.map (mapG agE N)) } := by
      refine ⟨Nat.le_of_lt hnx, fun i hi => ?_⟩
      by_cases h : i = nb
      · subst h
        exact hs_same.trans R.n.symm
      · exact (hs_ne h).trans (hF i hi h)
    have B4 : Below0 { s' with h := s'.h.set nb (.map (mapG agE N)) } := below_set hB' (hB' _ _ L.n) _
    have V4 : ErB s.nx { s' with h := s'.h.set nb (.map (mapG agE N)) } V acc := hE.set L.n rfl
    have P4 : acc.Perm (N.map (·.2)) := by
      have : leftN seen N (iotaL N.length 0) = [] := by
        rw [leftM_N] at hl
        exact List.map_eq_nil_iff.1 hl
      rw [this, List.map_nil, List.append_nil] at hP
      exact hP
    generalize ({ s' with h := s'.h.set nb (.map (mapG agE N)) } : St) = s4 at *
    repeat (first | with_reducible (refine w_one H ?_; constructor) | simp only [rB, rP, rQ, boolA, intA, resultA, resA, reduceIte, reduceCtorEq, Nat.reduceAdd, Nat.reduceLT, Nat.reduceEqDiff, UInt8.reduceToNat, pe3, pf3, t3, t10, o_next, nk])
    rcases V4 with ⟨rfl, rfl⟩ | ⟨id, v1, rfl, v2⟩
    · refine sortN_c H ?_
      repeat (first | with_reducible (refine w_one H ?_; constructor) | simp only [rB, rP, rQ, boolA, intA, resultA, resA, reduceIte, reduceCtorEq, Nat.reduceAdd, Nat.reduceLT, Nat.reduceEqDiff, UInt8.reduceToNat, pe3, pf3, t3, Tryz.results76])
      exact hk s4 _ [] E4 B4 (Or.inl ⟨rfl, rfl⟩) P4 List.Pairwise.nil
    · have pl := P4.length_eq
      refine sortE_c H v2 (fun e he => ?_) (by rw [List.length_map] at pl; omega) (fun es' p1 p2 => ?_)
      · have := P4.mem_iff.1 he
        obtain ⟨q, hq, rfl⟩ := List.mem_map.1 this
        exact hp q hq
      · repeat (first | with_reducible (refine w_one H ?_; constructor) | simp only [rB, rP, rQ, boolA, intA, resultA, resA, reduceIte, reduceCtorEq, Nat.reduceAdd, Nat.reduceLT, Nat.reduceEqDiff, UInt8.reduceToNat, pe3, pf3, t3, Tryz.results76])
        refine hk _ _ es' ⟨E4.1, fun i hi => (hs_ne (by omega)).trans (E4.2 i hi)⟩ (below_set B4 (B4 _ _ v2) _) (Or.inr ⟨id, v1, by rw [p1.length_eq], hs_same⟩) (p1.trans P4) p2
  | cons y0 ys =>
    have nk := fun {k} => nextK_all (k := k) L.i L.n (by rw [hl]; simp)
    repeat (first | with_reducible (refine w_one H ?_; constructor) | simp only [rB, rP, rQ, boolA, intA, resultA, resA, reduceIte, reduceCtorEq, Nat.reduceAdd, Nat.reduceLT, Nat.reduceEqDiff, UInt8.reduceToNat, pe3, pf3, t3, t10, o_next, nk])
    refine List.all_eq_true.2 (fun q hq => ?_)
    have hlt := leftM_lt hq
    obtain ⟨j, j1, j2, j3⟩ := leftM_inv hq
    have hq' := hq
    rw [leftM_N] at hq'
    obtain ⟨y, hy, hyq⟩ := List.mem_map.1 hq'
    subst hyq
    simp only at j1 j2 j3 hq hlt ⊢
    have nd : (((iotaL N.length 0).zip N).map (·.1)).Nodup := by
      have : ((iotaL N.length 0).zip N).map (·.1) = iotaL N.length 0 := by rw [← List.unzip_fst, List.unzip_zip_left]; rw [iotaL_lenF]; exact Nat.le_refl _
      rw [this]
      exact iotaL_nodup
    have hst := left_step nd hy
    obtain ⟨i, p, e⟩ := y
    simp only at j1 j2 j3 hq hlt hst ⊢
    have L1 := L.seen (seen' := i :: seen)
    have B1 : Below0 { s' with h := s'.h.set s.nx (.miter nb (i :: seen)) } := below_set hB' (hB' _ _ L.i) _
    have F1 : ∀ z, z < s.nx → z ≠ nb → (s'.h.set s.nx (.miter nb (i :: seen))).get z = s.h.get z := fun z hz h1 => (hs_ne (by omega)).trans (hF z hz h1)
    have E1 : ErB s.nx { s' with h := s'.h.set s.nx (.miter nb (i :: seen)) } V acc := hE.set L.i rfl
    have F1' : ∀ z, z < s.nx → z ≠ nb → ({ s' with h := s'.h.set s.nx (.miter nb (i :: seen)) } : St).h.get z = s.h.get z := F1
    have n1 : ({ s' with h := s'.h.set s.nx (.miter nb (i :: seen)) } : St).nx = s'.nx := rfl
    clear F1
    generalize ({ s' with h := s'.h.set s.nx (.miter nb (i :: seen)) } : St) = s1 at *
    have en := entry_at L1.i L1.n (entL_atF iotaL_nodup j1 j2)
    have ids : idsIn s1 [s.nx, nb] = true := by simp [idsIn, L1.i, L1.n]
    have B2 : Below0 { h := (s1.alloc (.cells [.str [], .raw (.int .i64 0), .raw (.int .i64 0), .str []] 25 0)).h.set s1.nx (.cells (celE e) 25 0), nx := s1.nx + 1 } := below_putS B1
    have X2 : Ext s1 { h := (s1.alloc (.cells [.str [], .raw (.int .i64 0), .raw (.int .i64 0), .str []] 25 0)).h.set s1.nx (.cells (celE e) 25 0), nx := s1.nx + 1 } := ext_putS
    have c2 : ({ h := (s1.alloc (.cells [.str [], .raw (.int .i64 0), .raw (.int .i64 0), .str []] 25 0)).h.set s1.nx (.cells (celE e) 25 0), nx := s1.nx + 1 } : St).h.get s1.nx = some (.cells (celE e) 25 0) := hs_same
    generalize hS2 : ({ h := (s1.alloc (.cells [.str [], .raw (.int .i64 0), .raw (.int .i64 0), .str []] 25 0)).h.set s1.nx (.cells (celE e) 25 0), nx := s1.nx + 1 } : St) = s2 at *
    have X3 : Ext s1 (s2.alloc (.cells (celE e) 25 0)) := X2.trans (Ext.alloc _ _)
    have B3 : Below0 (s2.alloc (.cells (celE e) 25 0)) := below_al B2 _
    have c3 : (s2.alloc (.cells (celE e) 25 0)).h.get s2.nx = some (.cells (flatE [e]) 25 0) := al_same
    have L3 := L1.ext B1 X3
    have E3 := E1.ext B1 X3
    have bs := bs_agE (s := s2) (e := e)
    generalize s2.alloc (.cells (celE e) 25 0) = s3 at *
    have hal : acc.length ≤ 20000 := by
      have := hP.length_eq
      simp only [List.length_append, List.length_map] at this
      omega
    obtain ⟨V', s4, a1, a2, a3, a4, a5, a6, a7⟩ := er_app (Nat.le_of_lt (by have := X3.1; omega : s.nx < s3.nx)) B3 E3 hal c3
    repeat (first | with_reducible (refine w_one H ?_; constructor) | simp only [rB, rP, rQ, boolA, intA, resultA, resA, reduceIte, reduceCtorEq, Nat.reduceAdd, Nat.reduceLT, Nat.reduceEqDiff, UInt8.reduceToNat, pe3, pf3, t3, t10, o_entry, en, putE, ids, cond_true, all_en, st_en, stA_en, hS2, c2, ld_en, ldG_en, bs, a1])
    refine ih _ _ _ (by rw [hn]; exact hlt) ⟨acc ++ [e], i :: seen, V', rfl, by simp only [rB, rP, rQ, boolA, intA, resultA, resA, reduceIte, reduceCtorEq, Nat.reduceAdd, Nat.reduceLT, Nat.reduceEqDiff, UInt8.reduceToNat], by simp only [rB, rP, rQ, boolA, intA, resultA, resA, reduceIte, reduceCtorEq, Nat.reduceAdd, Nat.reduceLT, Nat.reduceEqDiff, UInt8.reduceToNat, t10], L3.keep a5, fun z hz h1 => (a3.2.2 z hz).trans ((X3.2 z (by omega)).trans (F1' z hz h1)), by have := a3.1; have := X3.1; omega, a4, a2, ?_⟩
    refine List.Perm.trans ?_ hP
    rw [List.append_assoc]
    refine List.Perm.append_left acc ?_
    have := hst.map (·.2.2)
    simpa [leftN] using this
end Go.AX
