import Derived.Test.YthkkdhjekjoalaaGreatDoorF1
set_option linter.unusedVariables false
set_option linter.unusedSimpArgs false
set_option linter.defProp false
namespace Go.AX
open Go.Proofs Go.RowKit
set_option maxRecDepth 1000000
set_option maxHeartbeats 400000000
set_option linter.unusedSimpArgs false
set_option linter.unusedVariables false

/-! ### ProcBinds -/
theorem c4_awake {r : Tasks} {a : Ac} {dst : Option Tmp} {s : St} {k : Ac → St → Bool} {kp : AV → St → Bool} : callV pr4 r (.fn 22 []) [] a dst s k kp = putK a dst (.raw (.bool true)) s k := by
  refine c_prim (pe4 (by decide)) ?_
  unfold pr4
  rw [add_ne (by decide)]
  unfold pr3
  rw [add_same]
  rfl
theorem World.put2 {s : St} {x : Nat} {M : Md} {L : List (Nat × AO)} (h : World s x M L) (o o' : AO) : World { h := (s.alloc o).h.set s.nx o', nx := s.nx + 1 } x M ((s.nx, o') :: L) :=
  World.set (World.alloc h o) (fun q hq => by have := World.lt h hq; omega) o'
theorem num_c {s : St} (H : Ok TE Tryz.prog pr3) {z : Int} {kr kp : AV → St → Bool} (hk : kr (.raw (.int .i64 z)) s = true) : (sem Tryz.prog).call 28 [.raw (.int .i64 z)] s kr kp = true := by
  refine w_call H 4 fn_28 rfl rfl ?_
  repeat (first | with_reducible (refine w_one H ?_; constructor) | simp only [rB, rP, rQ, boolA, intA, resultA, resA, reduceIte, reduceCtorEq, Nat.reduceAdd, Nat.reduceLT, Nat.reduceEqDiff, UInt8.reduceToNat, pe3, pf3, Tryz.results28])
  exact hk
theorem pents_c {s : St} (H : Ok TE Tryz.prog pr3) {M : Md} {L : List (Nat × AO)} (hW : World s 6 M L) (hV : (12, prV) ∈ L) (hL : ∀ q ∈ L, okO q.2 = true) {es : List En} (h : entsT M.T 20 M.root [] = some es) (hl : es.length ≤ 20000) {kr kp : AV → St → Bool}
    (hk : ∀ s' V, World s' 6 M L → s.nx ≤ s'.nx → Er s' V es → kr V s' = true) : (sem Tryz.prog).call 26 [.ptr 12 0] s kr kp = true := by
  refine w_call H 10 fn_26 rfl rfl ?_
  have gV := World.get hW hV
  simp only at gV
  unfold prV at gV
  repeat (first | with_reducible (refine w_one H ?_; constructor) | simp only [rB, rP, rQ, boolA, intA, resultA, resA, reduceIte, reduceCtorEq, Nat.reduceAdd, Nat.reduceLT, Nat.reduceEqDiff, UInt8.reduceToNat, pe3, pf3, b_pp, eq_pr, fa_pr2, ld_71, gV])
  refine entries_c H hW hL h hl (fun s' V w1 l1 hE => ?_)
  repeat (first | with_reducible (refine w_one H ?_; constructor) | simp only [rB, rP, rQ, boolA, intA, resultA, resA, reduceIte, reduceCtorEq, Nat.reduceAdd, Nat.reduceLT, Nat.reduceEqDiff, UInt8.reduceToNat, pe3, pf3, Tryz.results26])
  exact hk s' V w1 l1 hE
theorem bd_im0 : buildA TE 31 [] = some (.agg [nilS]) := by kernel_rfl
theorem bd_mo2 {a b : List Nat} : buildA TE 38 [(0, .str a), (1, .str b)] = some (.agg [.str a, .str b, .raw (.bool false)]) := by kernel_rfl
theorem ln_es2 {s : St} {id : Nat} : lenOpA TE s [26] [.slice id 0 2 0 2 false] = some (.raw (.int .i64 2)) := by kernel_rfl
theorem ix_es {id : Nat} : indexAddrA TE 26 (.slice id 0 2 0 2 false) (.raw (.int .i64 1)) = some (.ptr id 4) := by kernel_rfl
theorem fa_es {id : Nat} : fieldAddrA TE 25 (.ptr id 4) 0 = some (.ptr id 4) := by kernel_rfl
theorem binds_c (z : Int) {r : Nat} (e : andI z 255 = (r : Int)) (hr : r < 256) {t : List Nat} : (sem Tryz.prog).call 18 [.raw (.int .i64 z), .str t] st0 (fun v _ => isTrue v) (fun _ _ => false) = true := by
  have H := ok4
  refine w_call H 117 fn_18 rfl rfl ?_
  by_cases hl : t.length > 500
  · have g0 : decide ((t.length : Int) > 500) = true := by rw [decide_eq_true_eq]; omega
    repeat (first | with_reducible (refine w_one H ?_; constructor) | simp only [rB, rP, rQ, boolA, intA, resultA, resA, reduceIte, reduceCtorEq, Nat.reduceAdd, Nat.reduceLT, Nat.reduceEqDiff, UInt8.reduceToNat, pe4, pf4, c4_awake, len_str, b_gt, g0, Tryz.results18])
    rfl
  have g0 : decide ((t.length : Int) > 500) = false := by rw [decide_eq_false_iff_not]; omega
  have hb : Nat.blt r 256 = true := Nat.blt_eq.mpr hr
  have hd := decL_len (n := r)
  have f0 : binFast .add (.str [102]) (.str (decL r)) = some (.str (fN' r)) := b_add (by simp; omega)
  have hfl : (fN' r).length ≤ 4 := by unfold fN'; simp; omega
  have f1 : binFast .add (.str [109, 47, 120, 47]) (.str (fN' r)) = some (.str (109 :: 47 :: 120 :: 47 :: fN' r)) := b_add (by simp; omega)
  have f2 : binFast .add (.str [47, 109, 47, 120, 47, 46, 46, 47, 120, 47]) (.str (fN' r)) = some (.str (47 :: 109 :: 47 :: 120 :: 47 :: 46 :: 46 :: 47 :: 120 :: 47 :: fN' r)) := b_add (by simp; omega)
  have f3 : binFast .add (.str [100, 47]) (.str (fN' r)) = some (.str (100 :: 47 :: fN' r)) := b_add (by simp; omega)
  have f4 : binFast .add (.str [47, 100, 47]) (.str (fN' r)) = some (.str (47 :: 100 :: 47 :: fN' r)) := b_add (by simp; omega)
  have p1 := all_at b_make' hr
  have p2 := b_write hr (t := t) (by omega)
  have p3 := b_read hr (t := t) (by omega)
  have p4 := all_at (b_rn' (d := t)) hr
  have p5 := b_stat (d := t)
  have p6 := b_ents (d := t)
  generalize fN' r = f at f0 f1 f2 f3 f4 p1 p2 p3 p4
  repeat (first | with_reducible (refine w_one H ?_; constructor) | simp only [rB, rP, rQ, boolA, intA, resultA, resA, reduceIte, reduceCtorEq, Nat.reduceAdd, Nat.reduceLT, Nat.reduceEqDiff, UInt8.reduceToNat, pe4, pf4, c4_awake, len_str, b_gt, g0, e, c_dec hb, f0, bd_im0])
  refine bnew_c ?_
  repeat (first | with_reducible (refine w_one H ?_; constructor) | simp only [rB, rP, rQ, boolA, intA, resultA, resA, reduceIte, reduceCtorEq, Nat.reduceAdd, Nat.reduceLT, Nat.reduceEqDiff, UInt8.reduceToNat, pe4, pf4, bc_016])
  refine bmk_c ?_
  repeat (first | with_reducible (refine w_one H ?_; constructor) | simp only [rB, rP, rQ, boolA, intA, resultA, resA, reduceIte, reduceCtorEq, Nat.reduceAdd, Nat.reduceLT, Nat.reduceEqDiff, UInt8.reduceToNat, pe4, pf4, all_an, st_an one_nilS, stA_an, bd_mo2])
  refine bmt_c ?_
  have hW := bw3
  have a3 : atB.length ≤ 1000 := by decide
  have b3 : frB.length ≤ 1000 := by decide
  have up : ∀ {x a : Nat × AO} {L : List (Nat × AO)}, x ∈ L → x ∈ a :: L := fun h => List.mem_cons_of_mem _ h
  have v0 : (12, prV) ∈ L3 := by simp [L3]
  have t0 : (8, tb1V 27) ∈ L3 := by simp [L3]
  have q0 : (27, rowV atB frB) ∈ L3 := by simp [L3, atB, frB]
  have x0 : (23, AO.cells (anL 0 0 0 0 [] nilS) 43 0) ∈ L3 := by simp [L3]
  repeat (first | with_reducible (refine w_one H ?_; constructor) | simp only [rB, rP, rQ, boolA, intA, resultA, resA, reduceIte, reduceCtorEq, Nat.reduceAdd, Nat.reduceLT, Nat.reduceEqDiff, UInt8.reduceToNat, pe4, pf4, f1, bc_016])
  refine pcall1_c ok3 hW v0 t0 q0 a3 b3 p1 ?_
  intro s1 V1 hW l1 hV1
  repeat (first | with_reducible (refine w_one H ?_; constructor) | simp only [rB, rP, rQ, boolA, intA, resultA, resA, reduceIte, reduceCtorEq, Nat.reduceAdd, Nat.reduceLT, Nat.reduceEqDiff, UInt8.reduceToNat, pe4, pf4, all_an, st_an hV1.cells1.2, stA_an, f2, bc_017])
  refine pcall1_c ok3 (World.put2 hW _ _) (up v0) (up t0) (up q0) a3 b3 p2 ?_
  intro s2 V2 hW l2 hV2
  repeat (first | with_reducible (refine w_one H ?_; constructor) | simp only [rB, rP, rQ, boolA, intA, resultA, resA, reduceIte, reduceCtorEq, Nat.reduceAdd, Nat.reduceLT, Nat.reduceEqDiff, UInt8.reduceToNat, pe4, pf4, all_an, st_an hV2.cells1.2, stA_an, f3, bc_015])
  refine pcall1_c ok3 (World.put2 hW _ _) (up (up v0)) (up (up t0)) (up (up q0)) a3 b3 p3 ?_
  intro s3 V3 hW l3 hV3
  repeat (first | with_reducible (refine w_one H ?_; constructor) | simp only [rB, rP, rQ, boolA, intA, resultA, resA, reduceIte, reduceCtorEq, Nat.reduceAdd, Nat.reduceLT, Nat.reduceEqDiff, UInt8.reduceToNat, pe4, pf4, all_an, st_an hV3.cells1.2, stA_an, f4, bc_012])
  refine pcall1_c ok3 (World.put2 hW _ _) (up (up (up v0))) (up (up (up t0))) (up (up (up q0))) a3 b3 p4 ?_
  intro s4 V4 hW l4 hV4
  repeat (first | with_reducible (refine w_one H ?_; constructor) | simp only [rB, rP, rQ, boolA, intA, resultA, resA, reduceIte, reduceCtorEq, Nat.reduceAdd, Nat.reduceLT, Nat.reduceEqDiff, UInt8.reduceToNat, pe4, pf4, all_an, st_an hV4.cells1.2, stA_an, bc_01])
  refine pcall1_c ok3 (World.put2 hW _ _) (up (up (up (up v0)))) (up (up (up (up t0)))) (up (up (up (up q0)))) a3 b3 p5 ?_
  intro s5 V5 hW l5 hV5
  repeat (first | with_reducible (refine w_one H ?_; constructor) | simp only [rB, rP, rQ, boolA, intA, resultA, resA, reduceIte, reduceCtorEq, Nat.reduceAdd, Nat.reduceLT, Nat.reduceEqDiff, UInt8.reduceToNat, pe4, pf4, all_an, st_an hV5.cells1.2, stA_an])
  refine pents_c ok3 (World.put2 hW _ _) (up (up (up (up (up v0))))) ?_ p6 (by simp) ?_
  · intro q hq
    simp only [L3, List.mem_cons, List.not_mem_nil, or_false] at hq
    rcases hq with rfl | rfl | rfl | rfl | rfl | rfl | rfl | rfl | rfl <;> rfl
  intro s6 V6 hW l6 hE
  rcases hE with ⟨_, h⟩ | ⟨id, hVe, hg⟩
  · cases h
  have hVe : V6 = .slice id 0 2 0 2 false := hVe
  subst hVe
  have h4 : ldO (s6.h.get id) 4 = some (.str [100, 47, 111, 116, 104, 101, 114]) := by rw [hg]; rfl
  have h5 : ∀ b, inO (s6.h.get id) b = b := fun b => by rw [hg]; rfl
  have k5 := World.get0 hW
  have k4 := World.get1 hW
  have k3 := World.get hW (up (up (List.mem_cons_self ..)))
  have k2 := World.get hW (up (up (up (List.mem_cons_self ..))))
  have k1 := World.get hW (up (up (up (up (List.mem_cons_self ..)))))
  have k0 : s6.h.get S2.nx = some (.cells (anL 0 0 0 0 [] nilS) 43 0) := World.get hW (up (up (up (up (up x0)))))
  have z0 : (an0.status == 0) = true := rfl
  simp only at k5 k4 k3 k2 k1
  repeat (first | with_reducible (refine w_one H ?_; constructor) | simp only [rB, rP, rQ, boolA, intA, resultA, resA, reduceIte, reduceCtorEq, Nat.reduceAdd, Nat.reduceLT, Nat.reduceEqDiff, UInt8.reduceToNat, pe4, pf4, b_eqi, b_eqs, an_g0, an_g1, an_g2, an_g3, an_g4, an_g5, fa_an0, fa_an1, fa_an2, fa_an3, fa_an4, fa_an5, ldO_an0, ldO_an1, ldO_an2, ldO_an3, ldO_an4, ldO_an5, ld_3, ld_9, k5, k4, k3, k2, k1, k0, z0, h4, h5, len_str, beq_self_eq_true, eqB_self, ln_es2, ids_slq, ix_es, fa_es, Tryz.results18] | (with_reducible refine num_c ok3 ?_))
  rfl
end Go.AX
namespace Go.AX
open Go.Proofs Go.RowKit
set_option maxRecDepth 1000000
set_option linter.unusedSimpArgs false
set_option linter.unusedVariables false
theorem strV_of (s : ByteArray) : strV (s.data.toList.map UInt8.toNat) = .string s := by
  obtain ⟨⟨l⟩⟩ := s
  have h : UInt8.ofNat ∘ UInt8.toNat = id := funext fun x => UInt8.ofNat_toNat
  unfold strV
  rw [List.map_map, h, List.map_id]
theorem str_vrel {E : Em} (s : ByteArray) : VRel E (.str (s.data.toList.map UInt8.toNat)) (.string s) := by
  simp only [VRel]
  refine ⟨?_, (strV_of s).symm⟩
  intro c hc
  obtain ⟨b, _, rfl⟩ := List.mem_map.mp hc
  exact b.toNat_lt
theorem bindsWalk (z : Int) (tx : ByteArray) (w : Go.World) : Calls Tryz.prog 18 #[.int .i64 z, .string tx] w fun e w' => e = .returned (.bool true) ∧ Below w.heap.size w w' := by
  obtain ⟨r, hr, e⟩ := and_lt (x := z) (m := 255) (by decide)
  exact sem_walk (args := [.raw (.int .i64 z), .str (tx.data.toList.map UInt8.toNat)]) (Args := [.int .i64 z, .string tx]) (VRels.cons (by simp [VRel]) (VRels.cons (str_vrel tx) VRels.nil)) (binds_c z e (by omega)) w
end Go.AX
