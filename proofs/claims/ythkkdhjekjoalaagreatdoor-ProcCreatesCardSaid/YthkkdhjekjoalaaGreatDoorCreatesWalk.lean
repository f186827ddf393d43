import Derived.Test.YthkkdhjekjoalaaGreatDoorE1
set_option linter.unusedVariables false
set_option linter.unusedSimpArgs false
set_option linter.defProp false
-- handed
namespace Go.AX
open Go.Proofs Go.RowKit
set_option maxRecDepth 1000000
set_option maxHeartbeats 400000000
set_option linter.unusedSimpArgs false
set_option linter.unusedVariables false

/-! ### Creates, plain -/
def nth3 {α : Type} (a b c : α) : Nat → α
  | 0 => a
  | 1 => b
  | _ => c
def crN (j : Nat) (q : Int × Int × List Nat) : Nd := ⟨q.1, q.2.1, q.2.2, [], some 0, 102 :: decL j, 0⟩
def crNs : Nat → List (Int × Int × List Nat) → List Nd
  | _, [] => []
  | j, q :: l => crN j q :: crNs (j + 1) l
def crK : Nat → List (List Nat × Nat)
  | 0 => []
  | n + 1 => crK n ++ [(102 :: decL n, n + 1)]
def crM (l : List (Int × Int × List Nat)) : Md := ⟨⟨1, 493, [], crK l.length, none, [], 0⟩ :: crNs 0 l, 0, 0, [none, none, none, none, none, none, none, none], (l.length : Int)⟩
def kd : Nat → Int × Int × List Nat := nth3 (2, 420, []) (1, 420, []) (3, 511, [116, 97, 114, 103, 101, 116])
def crS (M : Md) (i r : Nat) (K : Md → Bool) : Bool := ask M (mkC (nth3 5 6 7 r) (47 :: 102 :: decL i)) (st 0) fun _ M =>
  ask M (qC 1 (102 :: decL i)) (fun a => ((st 0 a && ki (nth3 2 1 3 r) a) && mo (nth3 420 420 511 r) a) && nu (nth3 0 0 6 r) a) fun _ M => ask M (mkC 5 (102 :: decL i)) (st 2) fun _ M => K M
def crNm : Nat → List (List Nat)
  | 0 => []
  | n + 1 => crNm n ++ [102 :: decL n]
def crE (M : Md) (n : Nat) : Bool := ask M (qC 3 [47]) (ns (crNm n)) fun _ M => ask M (qC 1 [47]) (nu (n : Int)) fun _ _ => true
theorem cr_0_0 {K : Md → Bool} : crS (crM []) 0 0 K = K (crM ([] ++ [kd 0])) := by kernel_rfl
theorem cr_0_1 {K : Md → Bool} : crS (crM []) 0 1 K = K (crM ([] ++ [kd 1])) := by kernel_rfl
theorem cr_0_2 {K : Md → Bool} : crS (crM []) 0 2 K = K (crM ([] ++ [kd 2])) := by kernel_rfl
theorem cr_1_0 {a : Int × Int × List Nat} {K : Md → Bool} : crS (crM [a]) 1 0 K = K (crM ([a] ++ [kd 0])) := by kernel_rfl
theorem cr_1_1 {a : Int × Int × List Nat} {K : Md → Bool} : crS (crM [a]) 1 1 K = K (crM ([a] ++ [kd 1])) := by kernel_rfl
theorem cr_1_2 {a : Int × Int × List Nat} {K : Md → Bool} : crS (crM [a]) 1 2 K = K (crM ([a] ++ [kd 2])) := by kernel_rfl
theorem cr_2_0 {a b : Int × Int × List Nat} {K : Md → Bool} : crS (crM [a, b]) 2 0 K = K (crM ([a, b] ++ [kd 0])) := by kernel_rfl
theorem cr_2_1 {a b : Int × Int × List Nat} {K : Md → Bool} : crS (crM [a, b]) 2 1 K = K (crM ([a, b] ++ [kd 1])) := by kernel_rfl
theorem cr_2_2 {a b : Int × Int × List Nat} {K : Md → Bool} : crS (crM [a, b]) 2 2 K = K (crM ([a, b] ++ [kd 2])) := by kernel_rfl
theorem cr_3_0 {a b c : Int × Int × List Nat} {K : Md → Bool} : crS (crM [a, b, c]) 3 0 K = K (crM ([a, b, c] ++ [kd 0])) := by kernel_rfl
theorem cr_3_1 {a b c : Int × Int × List Nat} {K : Md → Bool} : crS (crM [a, b, c]) 3 1 K = K (crM ([a, b, c] ++ [kd 1])) := by kernel_rfl
theorem cr_3_2 {a b c : Int × Int × List Nat} {K : Md → Bool} : crS (crM [a, b, c]) 3 2 K = K (crM ([a, b, c] ++ [kd 2])) := by kernel_rfl
theorem cr_4_0 {a b c d : Int × Int × List Nat} {K : Md → Bool} : crS (crM [a, b, c, d]) 4 0 K = K (crM ([a, b, c, d] ++ [kd 0])) := by kernel_rfl
theorem cr_4_1 {a b c d : Int × Int × List Nat} {K : Md → Bool} : crS (crM [a, b, c, d]) 4 1 K = K (crM ([a, b, c, d] ++ [kd 1])) := by kernel_rfl
theorem cr_4_2 {a b c d : Int × Int × List Nat} {K : Md → Bool} : crS (crM [a, b, c, d]) 4 2 K = K (crM ([a, b, c, d] ++ [kd 2])) := by kernel_rfl
theorem cr_5_0 {a b c d e : Int × Int × List Nat} {K : Md → Bool} : crS (crM [a, b, c, d, e]) 5 0 K = K (crM ([a, b, c, d, e] ++ [kd 0])) := by kernel_rfl
theorem cr_5_1 {a b c d e : Int × Int × List Nat} {K : Md → Bool} : crS (crM [a, b, c, d, e]) 5 1 K = K (crM ([a, b, c, d, e] ++ [kd 1])) := by kernel_rfl
theorem cr_5_2 {a b c d e : Int × Int × List Nat} {K : Md → Bool} : crS (crM [a, b, c, d, e]) 5 2 K = K (crM ([a, b, c, d, e] ++ [kd 2])) := by kernel_rfl
theorem cr_6_0 {a b c d e f : Int × Int × List Nat} {K : Md → Bool} : crS (crM [a, b, c, d, e, f]) 6 0 K = K (crM ([a, b, c, d, e, f] ++ [kd 0])) := by kernel_rfl
theorem cr_6_1 {a b c d e f : Int × Int × List Nat} {K : Md → Bool} : crS (crM [a, b, c, d, e, f]) 6 1 K = K (crM ([a, b, c, d, e, f] ++ [kd 1])) := by kernel_rfl
theorem cr_6_2 {a b c d e f : Int × Int × List Nat} {K : Md → Bool} : crS (crM [a, b, c, d, e, f]) 6 2 K = K (crM ([a, b, c, d, e, f] ++ [kd 2])) := by kernel_rfl
theorem cr_7_0 {a b c d e f g : Int × Int × List Nat} {K : Md → Bool} : crS (crM [a, b, c, d, e, f, g]) 7 0 K = K (crM ([a, b, c, d, e, f, g] ++ [kd 0])) := by kernel_rfl
theorem cr_7_1 {a b c d e f g : Int × Int × List Nat} {K : Md → Bool} : crS (crM [a, b, c, d, e, f, g]) 7 1 K = K (crM ([a, b, c, d, e, f, g] ++ [kd 1])) := by kernel_rfl
theorem cr_7_2 {a b c d e f g : Int × Int × List Nat} {K : Md → Bool} : crS (crM [a, b, c, d, e, f, g]) 7 2 K = K (crM ([a, b, c, d, e, f, g] ++ [kd 2])) := by kernel_rfl
theorem cr_8_0 {a b c d e f g h : Int × Int × List Nat} {K : Md → Bool} : crS (crM [a, b, c, d, e, f, g, h]) 8 0 K = K (crM ([a, b, c, d, e, f, g, h] ++ [kd 0])) := by kernel_rfl
theorem cr_8_1 {a b c d e f g h : Int × Int × List Nat} {K : Md → Bool} : crS (crM [a, b, c, d, e, f, g, h]) 8 1 K = K (crM ([a, b, c, d, e, f, g, h] ++ [kd 1])) := by kernel_rfl
theorem cr_8_2 {a b c d e f g h : Int × Int × List Nat} {K : Md → Bool} : crS (crM [a, b, c, d, e, f, g, h]) 8 2 K = K (crM ([a, b, c, d, e, f, g, h] ++ [kd 2])) := by kernel_rfl
theorem ce_0 : crE (crM []) 0 = true := by kernel_rfl
theorem ce_1 {a : Int × Int × List Nat} : crE (crM [a]) 1 = true := by kernel_rfl
theorem ce_2 {a b : Int × Int × List Nat} : crE (crM [a, b]) 2 = true := by kernel_rfl
theorem ce_3 {a b c : Int × Int × List Nat} : crE (crM [a, b, c]) 3 = true := by kernel_rfl
theorem ce_4 {a b c d : Int × Int × List Nat} : crE (crM [a, b, c, d]) 4 = true := by kernel_rfl
theorem ce_5 {a b c d e : Int × Int × List Nat} : crE (crM [a, b, c, d, e]) 5 = true := by kernel_rfl
theorem ce_6 {a b c d e f : Int × Int × List Nat} : crE (crM [a, b, c, d, e, f]) 6 = true := by kernel_rfl
theorem ce_7 {a b c d e f g : Int × Int × List Nat} : crE (crM [a, b, c, d, e, f, g]) 7 = true := by kernel_rfl
theorem ce_8 {a b c d e f g h : Int × Int × List Nat} : crE (crM [a, b, c, d, e, f, g, h]) 8 = true := by kernel_rfl
theorem ce_9 {a b c d e f g h i : Int × Int × List Nat} : crE (crM [a, b, c, d, e, f, g, h, i]) 9 = true := by kernel_rfl
theorem cr_step {l : List (Int × Int × List Nat)} {r : Nat} {K : Md → Bool} (hl : l.length < 9) (hr : r < 3) : crS (crM l) l.length r K = K (crM (l ++ [kd r])) := by
  have hh : r = 0 ∨ r = 1 ∨ r = 2 := by omega
  match l, hl with
  | [], _ =>
    rcases hh with rfl | rfl | rfl
    · exact cr_0_0
    · exact cr_0_1
    · exact cr_0_2
  | [a], _ =>
    rcases hh with rfl | rfl | rfl
    · exact cr_1_0
    · exact cr_1_1
    · exact cr_1_2
  | [a, b], _ =>
    rcases hh with rfl | rfl | rfl
    · exact cr_2_0
    · exact cr_2_1
    · exact cr_2_2
  | [a, b, c], _ =>
    rcases hh with rfl | rfl | rfl
    · exact cr_3_0
    · exact cr_3_1
    · exact cr_3_2
  | [a, b, c, d], _ =>
    rcases hh with rfl | rfl | rfl
    · exact cr_4_0
    · exact cr_4_1
    · exact cr_4_2
  | [a, b, c, d, e], _ =>
    rcases hh with rfl | rfl | rfl
    · exact cr_5_0
    · exact cr_5_1
    · exact cr_5_2
  | [a, b, c, d, e, f], _ =>
    rcases hh with rfl | rfl | rfl
    · exact cr_6_0
    · exact cr_6_1
    · exact cr_6_2
  | [a, b, c, d, e, f, g], _ =>
    rcases hh with rfl | rfl | rfl
    · exact cr_7_0
    · exact cr_7_1
    · exact cr_7_2
  | [a, b, c, d, e, f, g, h], _ =>
    rcases hh with rfl | rfl | rfl
    · exact cr_8_0
    · exact cr_8_1
    · exact cr_8_2
  | _ :: _ :: _ :: _ :: _ :: _ :: _ :: _ :: _ :: _, h => exact absurd h (by simp only [List.length_cons]; omega)
theorem cr_end {l : List (Int × Int × List Nat)} (hl : l.length ≤ 9) : crE (crM l) l.length = true := by
  match l, hl with
  | [], _ =>
    exact ce_0
  | [a], _ =>
    exact ce_1
  | [a, b], _ =>
    exact ce_2
  | [a, b, c], _ =>
    exact ce_3
  | [a, b, c, d], _ =>
    exact ce_4
  | [a, b, c, d, e], _ =>
    exact ce_5
  | [a, b, c, d, e, f], _ =>
    exact ce_6
  | [a, b, c, d, e, f, g], _ =>
    exact ce_7
  | [a, b, c, d, e, f, g, h], _ =>
    exact ce_8
  | [a, b, c, d, e, f, g, h, i], _ =>
    exact ce_9
  | _ :: _ :: _ :: _ :: _ :: _ :: _ :: _ :: _ :: _ :: _, h => exact absurd h (by simp only [List.length_cons]; omega)
end Go.AX
-- handed
namespace Go.AX
open Go.Proofs Go.RowKit
set_option maxRecDepth 1000000
set_option maxHeartbeats 40000000
set_option linter.unusedSimpArgs false
set_option linter.unusedVariables false

theorem bs_i3 {s : St} {a b c : Int} : buildSliceA TE s 40 3 [(0, .raw (.int .i64 a)), (1, .raw (.int .i64 b)), (2, .raw (.int .i64 c))] = some (.slice s.nx 0 3 0 3 true, s.alloc (.cells [.raw (.int .i64 a), .raw (.int .i64 b), .raw (.int .i64 c)] 3 0)) := by kernel_rfl
theorem ld_i3 {a b c : Int} {r t z : Nat} (h : r < 3) : ldO (some (.cells [.raw (.int .i64 a), .raw (.int .i64 b), .raw (.int .i64 c)] t z)) r = some (.raw (.int .i64 (nth3 a b c r))) := by
  have hh : r = 0 ∨ r = 1 ∨ r = 2 := by omega
  rcases hh with rfl | rfl | rfl <;> rfl
/-- What has been put in the row so far. -/
def Wt (W : AV) (i : Nat) (L0 L : List (Nat × AO)) : Prop := (i = 0 ∧ W = .raw (.slice none 0 0) ∧ L = L0) ∨ ∃ q, 0 < i ∧ W = .slice q 0 i 0 i false ∧ L = (q, .cells ((crNm i).map .str) 9 2) :: L0 ∧ 15 ≤ q
theorem crNm_len : ∀ {n : Nat}, (crNm n).length = n
  | 0 => rfl
  | n + 1 => by simp [crNm, crNm_len (n := n)]
theorem Wt.slv {W : AV} {i : Nat} {L0 L : List (Nat × AO)} (h : Wt W i L0 L) {s : St} {M : Md} (hW : WL s M L) : SlV s W (crNm i) := by
  rcases h with ⟨rfl, rfl, rfl⟩ | ⟨q, h0, rfl, rfl, hq⟩
  · exact Or.inl ⟨rfl, rfl⟩
  · refine Or.inr (Or.inr ⟨q, 0, 0, i, false, (crNm i).map .str, 2, by rw [crNm_len], hW.get0, by simp, ?_, by rw [crNm_len]; exact Nat.le_refl _⟩)
    rw [List.drop_zero, List.take_of_length_le (by simp)]
theorem Wt.one {W : AV} {i : Nat} {L0 L : List (Nat × AO)} (h : Wt W i L0 L) : W.cells = [W] ∧ W.one = true ∧ idsOf W = [] := by
  rcases h with ⟨rfl, rfl, rfl⟩ | ⟨q, h0, rfl, rfl, hq⟩ <;> exact ⟨rfl, rfl, rfl⟩
/-- One name more. -/
theorem Wt.app {W : AV} {i : Nat} {L0 L : List (Nat × AO)} (h : Wt W i L0 L) (hL0 : ∀ q ∈ L0, q.1 = 0) (hi : i < 9) {s : St} {M : Md} (hW : WL s M L) : ∃ W' s' L', appendA TE (s.alloc (.cells [.str (102 :: decL i)] 9 0)) [41, 41] [W, .slice s.nx 0 1 0 1 true] = some (W', s') ∧ Wt W' (i + 1) L0 L' ∧ WL s' M L' := by
  have hW1 := hW.alloc (.cells [.str (102 :: decL i)] 9 0)
  have hB := hW.base
  rcases h with ⟨rfl, rfl, rfl⟩ | ⟨q, h0, rfl, rfl, hq⟩
  · refine ⟨_, _, _, app_nil slv_1, Or.inr ⟨_, by omega, rfl, rfl, ?_⟩, (hW1.alloc _).sub (fun x hx => ?_)⟩
    · show 15 ≤ s.nx + 1
      omega
    · rcases List.mem_cons.mp hx with rfl | hx
      · exact List.mem_cons_self ..
      · exact List.mem_cons_of_mem _ (List.mem_cons_of_mem _ hx)
  · have lq : q < s.nx := hW.lt (List.mem_cons_self ..)
    have hg : (s.alloc (.cells [.str (102 :: decL i)] 9 0)).h.get q = some (.cells ((crNm i).map .str) 9 2) := (al_ne (by omega)).trans hW.get0
    have ap := app_gr (s := s.alloc (.cells [.str (102 :: decL i)] 9 0)) (n := i) slv_1 hg (by simp [crNm_len]) (by omega)
    have hcs : (crNm i).map AV.str ++ [.str (102 :: decL i)] = (crNm (i + 1)).map .str := by simp [crNm]
    rw [hcs] at ap
    have hW2 : WL (s.alloc (.cells [.str (102 :: decL i)] 9 0)) M ((q, .cells ((crNm i).map .str) 9 2) :: L0) := hW1.sub (fun x hx => List.mem_cons_of_mem _ hx)
    refine ⟨_, _, _, ap, Or.inr ⟨_, by omega, rfl, rfl, ?_⟩, hW2.del (fun x hx => ?_) (by omega) _⟩
    · show 15 ≤ s.nx + 1
      omega
    · rw [hL0 x hx]
      omega
theorem creates_c {PV : AV} {zs : List Int} {L0 : List (Nat × AO)} (hP : Pks PV zs L0) {s : St} (hW : WL s (crM []) L0) :
    (sem Tryz.prog).call 32 [.fn 62 [.ptr 14 0], PV] s (fun v _ => isTrue v) (fun _ _ => false) = true := by
  have H := ok4
  have pl := hP.len
  have pi := hP.ids
  have m3 : (3 : Int) ≠ 0 := by decide
  refine w_call H 99 fn_32 rfl rfl ?_
  repeat (first | with_reducible (refine w_one H ?_; constructor) | simp only [rB, rP, rQ, boolA, intA, resultA, resA, reduceIte, reduceCtorEq, Nat.reduceAdd, Nat.reduceLT, Nat.reduceEqDiff, UInt8.reduceToNat, pe4, pf4, b_eqi, b_nei, b_lt, b_le, b_gt, b_ge, fn_an0, fn_an1, fn_an4, fn_an5, bc_01, bc_012, bc_015, bc_0145, bc_0147, bc_016, bc_0167, bc_017, bc_03, bc_035, bc_0347, beq_self_eq_true, bne_self_eq_false, Int.reduceBEq, Int.reduceBNe, Int.reduceLT, Int.reduceLE, Int.reduceGT, decide_true, decide_false, eqB_self, la_cons, la_nil, b_plus])
  refine w_loop_ind H (fun n t s' => ∃ (i : Nat) (l : List (Int × Int × List Nat)) (W : AV) (L : List (Nat × AO)), n + i = 9 ∧ i ≤ zs.length ∧ l.length = i ∧ tg t 0 = .fn 62 [.ptr 14 0] ∧ tg t 1 = PV ∧ tg t 5 = W ∧ tg t 6 = .raw (.int .i64 (i : Int)) ∧ Wt W i L0 L ∧ WL s' (crM l) L) (n := 9)
    ⟨0, [], .raw (.slice none 0 0), L0, rfl, Nat.zero_le _, rfl, by simp only [rB, rP, rQ, boolA, intA, resultA, resA, reduceIte, reduceCtorEq, Nat.reduceAdd, Nat.reduceLT, Nat.reduceEqDiff, UInt8.reduceToNat], by simp only [rB, rP, rQ, boolA, intA, resultA, resA, reduceIte, reduceCtorEq, Nat.reduceAdd, Nat.reduceLT, Nat.reduceEqDiff, UInt8.reduceToNat], by simp only [rB, rP, rQ, boolA, intA, resultA, resA, reduceIte, reduceCtorEq, Nat.reduceAdd, Nat.reduceLT, Nat.reduceEqDiff, UInt8.reduceToNat], by simp only [rB, rP, rQ, boolA, intA, resultA, resA, reduceIte, reduceCtorEq, Nat.reduceAdd, Nat.reduceLT, Nat.reduceEqDiff, UInt8.reduceToNat]; rfl, Or.inl ⟨rfl, rfl, rfl⟩, hW⟩ ?_
  rintro n t s' ih ⟨i, l, W, L, hn, hiz, hl, t0, t1, t5, t6, hWt, hW⟩
  subst hl
  have ew : IntKind.i64.wrap ((l.length : Int) + 1) = ((l.length + 1 : Nat) : Int) := by
    rw [show (l.length : Int) + 1 = ((l.length + 1 : Nat) : Int) from by simp]
    exact wrap_nat (by omega)
  by_cases hgo : l.length < zs.length ∧ l.length < 9
  · obtain ⟨h1, h2⟩ := hgo
    have g0 : decide ((l.length : Int) < (zs.length : Int)) = true := by rw [decide_eq_true_eq]; omega
    have g9 : decide ((l.length : Int) < 9) = true := by rw [decide_eq_true_eq]; omega
    obtain ⟨ix, cs, hcs, hz⟩ := hP.at' l.length zs[l.length] (List.getElem?_eq_getElem h1)
    generalize zs[l.length] = z at ix hz
    obtain ⟨r, hr, er⟩ := rem_lt (z := z) (m := 3) (by decide)
    have er : (IntKind.u64.wrap z).tmod 3 = (r : Int) := er
    have hin : (0, AO.old cs) ∈ L := by
      rcases hWt with ⟨_, _, rfl⟩ | ⟨q, _, _, rfl, _⟩
      · exact hcs
      · exact List.mem_cons_of_mem _ hcs
    have go : s'.h.get 0 = some (.old cs) := hW.get (q := (0, AO.old cs)) hin
    have hstep : crS (crM l) l.length r (fun M => true) = true := by rw [cr_step h2 hr]
    have hK := fun K => cr_step (l := l) (r := r) (K := K) h2 hr
    have hdec : Nat.blt l.length 256 = true := Nat.blt_eq.mpr (by omega)
    have f1 : binFast .add (.str [102]) (.str (decL l.length)) = some (.str (102 :: decL l.length)) := b_add (by have := decL_len (n := l.length); simp; omega)
    have f2 : binFast .add (.str [47]) (.str (102 :: decL l.length)) = some (.str (47 :: 102 :: decL l.length)) := b_add (by have := decL_len (n := l.length); simp; omega)
    have ixu := fun q => ix_u3 (q := q) hr
    have l3 := fun (a b c : Int) (t z : Nat) => ld_i3 (a := a) (b := b) (c := c) (t := t) (z := z) hr
    unfold crS at hstep hK
    obtain ⟨a1, M1, e1, p1, hstep⟩ := ask_inv hstep
    obtain ⟨a2, M2, e2, p2, hstep⟩ := ask_inv hstep
    obtain ⟨a3, M3, e3, p3, hstep⟩ := ask_inv hstep
    have hM3 : ∀ K : Md → Bool, K M3 = K (crM (l ++ [kd r])) := fun K => by
      have := hK K
      simp only [ask, e1, e2, e3, p1, p2, p3, Bool.true_and] at this
      exact this
    have p1 := st_of p1
    have p3 := st_of p3
    simp only [Bool.and_eq_true] at p2
    have p2a := st_of p2.1.1.1
    have p2b := ki_of p2.1.1.2
    have p2c := mo_of p2.1.2
    have p2d := nu_of p2.2
    repeat (first | with_reducible (refine w_one H ?_; constructor) | simp only [rB, rP, rQ, boolA, intA, resultA, resA, reduceIte, reduceCtorEq, Nat.reduceAdd, Nat.reduceLT, Nat.reduceEqDiff, UInt8.reduceToNat, pe4, pf4, b_eqi, b_nei, b_lt, b_le, b_gt, b_ge, fn_an0, fn_an1, fn_an4, fn_an5, bc_01, bc_012, bc_015, bc_0145, bc_0147, bc_016, bc_0167, bc_017, bc_03, bc_035, bc_0347, beq_self_eq_true, bne_self_eq_false, Int.reduceBEq, Int.reduceBNe, Int.reduceLT, Int.reduceLE, Int.reduceGT, decide_true, decide_false, eqB_self, la_cons, la_nil, b_plus, t0, t1, t5, t6, pl, pi, g0, g9, ix, go, hz, ld_3, o_cvt, toU_int, b_rem, eqS_rem, rm_eq m3, u64_int, remA_int, er, i64_int, c_dec hdec, f1, f2, bs_i3, ixu, l3])
    refine lmake_c ok3 (hW.alloc _) e1 p1 ?_
    intro s1 hW hl1
    repeat (first | with_reducible (refine w_one H ?_; constructor) | simp only [rB, rP, rQ, boolA, intA, resultA, resA, reduceIte, reduceCtorEq, Nat.reduceAdd, Nat.reduceLT, Nat.reduceEqDiff, UInt8.reduceToNat, pe4, pf4, b_eqi, b_nei, b_lt, b_le, b_gt, b_ge, fn_an0, fn_an1, fn_an4, fn_an5, bc_01, bc_012, bc_015, bc_0145, bc_0147, bc_016, bc_0167, bc_017, bc_03, bc_035, bc_0347, beq_self_eq_true, bne_self_eq_false, Int.reduceBEq, Int.reduceBNe, Int.reduceLT, Int.reduceLE, Int.reduceGT, decide_true, decide_false, eqB_self, la_cons, la_nil, b_plus, t0, t1, t5, t6])
    refine lface_c hW e2 ?_
    intro s2 V hW hl2 hV
    rw [p2a, p2b, p2c, p2d]
    have hW3 := (((hW.put (.cells (anL 0 0 0 0 [] nilS) 43 0) (.cells (anL 0 (nth3 0 0 6 r) (nth3 2 1 3 r) (nth3 420 420 511 r) a2.data V) 43 0)).alloc (.cells [.raw (.int .i64 2), .raw (.int .i64 1), .raw (.int .i64 3)] 3 0)).alloc (.cells [.raw (.int .i64 420), .raw (.int .i64 420), .raw (.int .i64 511)] 3 0)).alloc (.cells [.raw (.int .i64 0), .raw (.int .i64 0), .raw (.int .i64 6)] 3 0)
    have n1 : (s2.nx = s2.nx + 1) = False := by simp
    have n2 : (s2.nx = s2.nx + 1 + 1) = False := by simp; omega
    have n3 : (s2.nx = s2.nx + 1 + 1 + 1) = False := by simp; omega
    have bq := beq_an (a := 0) (b := nth3 0 0 6 r) (c := nth3 2 1 3 r) (d := nth3 420 420 511 r) (e := a2.data) hV.beq
    repeat (first | with_reducible (refine w_one H ?_; constructor) | simp only [rB, rP, rQ, boolA, intA, resultA, resA, reduceIte, reduceCtorEq, Nat.reduceAdd, Nat.reduceLT, Nat.reduceEqDiff, UInt8.reduceToNat, pe4, pf4, b_eqi, b_nei, b_lt, b_le, b_gt, b_ge, fn_an0, fn_an1, fn_an4, fn_an5, bc_01, bc_012, bc_015, bc_0145, bc_0147, bc_016, bc_0167, bc_017, bc_03, bc_035, bc_0347, beq_self_eq_true, bne_self_eq_false, Int.reduceBEq, Int.reduceBNe, Int.reduceLT, Int.reduceLE, Int.reduceGT, decide_true, decide_false, eqB_self, la_cons, la_nil, b_plus, an_g0, an_g1, an_g2, an_g3, an_g4, an_g5, fa_an0, fa_an1, fa_an2, fa_an3, fa_an4, fa_an5, ldO_an0, ldO_an1, ldO_an2, ldO_an3, ldO_an4, ldO_an5, ld_3, ld_9, ld_41, all_an, st_an hV.cells1.2, stA_an, t0, t1, t5, t6, bs_i3, ixu, l3, n1, n2, n3, bq] | (with_reducible refine w_plan H (i := 12) (.take 0 (.take 1 (.take 2 (.take 3 (.take 4 (.take 5 (.take 6 (.take 7 (.take 8 (.take 9 (.take 10 (.take 11 (.take 12 (.take 13 (.take 14 (.take 15 (.take 16 (.take 17 (.take 19 (.alt 18 [0, 1, 2, 3, 4, 5, 6, 7, 8, 9, 10, 11, 12, 13, 14, 15] (.take 20 (.take 21 (.take 22 (.take 23 (.take 24 (.take 25 (.take 26 (.alt 27 [0, 1, 2, 3, 4, 5, 6, 7, 8, 9, 10, 11, 12, 13, 14, 15, 16, 17, 18, 19, 20, 21, 22, 23, 24, 25, 26] (.take 28 (.take 29 (.done))) (.yes))))))))) (.yes))))))))))))))))))))) rfl (by kernel_rfl) ?_))
    refine lmake_c ok3 hW3 e3 p3 ?_
    intro s3 hW hl3
    have hW := (show WL s3 (crM (l ++ [kd r])) L from by
      have := of_decide_eq_true (p := WL s3 (crM (l ++ [kd r])) L) (inst := Classical.propDecidable _)
      refine this ?_
      rw [← hM3 (fun M => @decide (WL s3 M L) (Classical.propDecidable _))]
      refine @decide_eq_true _ (Classical.propDecidable _) (hW.sub (fun x hx => ?_))
      repeat first | exact hx | refine List.mem_cons_of_mem _ ?_)
    obtain ⟨W', s4, L', ap, hWt', hW4⟩ := hWt.app hP.lt h2 hW
    repeat (first | with_reducible (refine w_one H ?_; constructor) | simp only [rB, rP, rQ, boolA, intA, resultA, resA, reduceIte, reduceCtorEq, Nat.reduceAdd, Nat.reduceLT, Nat.reduceEqDiff, UInt8.reduceToNat, pe4, pf4, b_eqi, b_nei, b_lt, b_le, b_gt, b_ge, fn_an0, fn_an1, fn_an4, fn_an5, bc_01, bc_012, bc_015, bc_0145, bc_0147, bc_016, bc_0167, bc_017, bc_03, bc_035, bc_0347, beq_self_eq_true, bne_self_eq_false, Int.reduceBEq, Int.reduceBNe, Int.reduceLT, Int.reduceLE, Int.reduceGT, decide_true, decide_false, eqB_self, la_cons, la_nil, b_plus, t0, t1, t5, t6, bs_1, ap, ew] | (with_reducible refine w_plan H (i := 12) (.take 0 (.take 1 (.take 2 (.take 3 (.take 4 (.take 5 (.take 6 (.take 7 (.take 8 (.take 9 (.take 10 (.take 11 (.take 12 (.take 13 (.take 14 (.take 15 (.take 16 (.take 17 (.take 19 (.alt 18 [0, 1, 2, 3, 4, 5, 6, 7, 8, 9, 10, 11, 12, 13, 14, 15] (.take 20 (.take 21 (.take 22 (.take 23 (.take 24 (.take 25 (.take 26 (.alt 27 [0, 1, 2, 3, 4, 5, 6, 7, 8, 9, 10, 11, 12, 13, 14, 15, 16, 17, 18, 19, 20, 21, 22, 23, 24, 25, 26] (.take 28 (.take 29 (.done))) (.yes))))))))) (.yes))))))))))))))))))))) rfl (by kernel_rfl) ?_))
    exact ih (n - 1) _ _ (by omega) ⟨l.length + 1, l ++ [kd r], W', L', by omega, by omega, by simp, by simp only [rB, rP, rQ, boolA, intA, resultA, resA, reduceIte, reduceCtorEq, Nat.reduceAdd, Nat.reduceLT, Nat.reduceEqDiff, UInt8.reduceToNat, t0], by simp only [rB, rP, rQ, boolA, intA, resultA, resA, reduceIte, reduceCtorEq, Nat.reduceAdd, Nat.reduceLT, Nat.reduceEqDiff, UInt8.reduceToNat, t1], by simp only [rB, rP, rQ, boolA, intA, resultA, resA, reduceIte, reduceCtorEq, Nat.reduceAdd, Nat.reduceLT, Nat.reduceEqDiff, UInt8.reduceToNat], by simp only [rB, rP, rQ, boolA, intA, resultA, resA, reduceIte, reduceCtorEq, Nat.reduceAdd, Nat.reduceLT, Nat.reduceEqDiff, UInt8.reduceToNat], hWt', hW4⟩
  · have hend := cr_end (l := l) (by omega)
    unfold crE at hend
    obtain ⟨a1, M1, e1, p1, hend⟩ := ask_inv hend
    obtain ⟨a2, M2, e2, p2, hend⟩ := ask_inv hend
    have p1 := ns_of p1
    have p2 := nu_of p2
    have lW := (hWt.slv hW).len
    have hlen : ((crNm l.length).length : Int) = (l.length : Int) := by rw [crNm_len]
    have iW := hWt.one.2.2
    by_cases h1 : l.length < zs.length
    · have g0 : decide ((l.length : Int) < (zs.length : Int)) = true := by rw [decide_eq_true_eq]; omega
      have g9 : decide ((l.length : Int) < 9) = false := by rw [decide_eq_false_iff_not]; omega
      repeat (first | with_reducible (refine w_one H ?_; constructor) | simp only [rB, rP, rQ, boolA, intA, resultA, resA, reduceIte, reduceCtorEq, Nat.reduceAdd, Nat.reduceLT, Nat.reduceEqDiff, UInt8.reduceToNat, pe4, pf4, b_eqi, b_nei, b_lt, b_le, b_gt, b_ge, fn_an0, fn_an1, fn_an4, fn_an5, bc_01, bc_012, bc_015, bc_0145, bc_0147, bc_016, bc_0167, bc_017, bc_03, bc_035, bc_0347, beq_self_eq_true, bne_self_eq_false, Int.reduceBEq, Int.reduceBNe, Int.reduceLT, Int.reduceLE, Int.reduceGT, decide_true, decide_false, eqB_self, la_cons, la_nil, b_plus, t0, t1, t5, t6, pl, pi, g0, g9])
      refine lnames_c ok3 hW e1 p1 ?_
      intro s1 V hW hl hV
      repeat (first | with_reducible (refine w_one H ?_; constructor) | simp only [rB, rP, rQ, boolA, intA, resultA, resA, reduceIte, reduceCtorEq, Nat.reduceAdd, Nat.reduceLT, Nat.reduceEqDiff, UInt8.reduceToNat, pe4, pf4, b_eqi, b_nei, b_lt, b_le, b_gt, b_ge, fn_an0, fn_an1, fn_an4, fn_an5, bc_01, bc_012, bc_015, bc_0145, bc_0147, bc_016, bc_0167, bc_017, bc_03, bc_035, bc_0347, beq_self_eq_true, bne_self_eq_false, Int.reduceBEq, Int.reduceBNe, Int.reduceLT, Int.reduceLE, Int.reduceGT, decide_true, decide_false, eqB_self, la_cons, la_nil, b_plus, t0, t1, t5, t6])
      refine same_c hV (hWt.slv hW) (by rw [crNm_len]; omega) ?_
      repeat (first | with_reducible (refine w_one H ?_; constructor) | simp only [rB, rP, rQ, boolA, intA, resultA, resA, reduceIte, reduceCtorEq, Nat.reduceAdd, Nat.reduceLT, Nat.reduceEqDiff, UInt8.reduceToNat, pe4, pf4, b_eqi, b_nei, b_lt, b_le, b_gt, b_ge, fn_an0, fn_an1, fn_an4, fn_an5, bc_01, bc_012, bc_015, bc_0145, bc_0147, bc_016, bc_0167, bc_017, bc_03, bc_035, bc_0347, beq_self_eq_true, bne_self_eq_false, Int.reduceBEq, Int.reduceBNe, Int.reduceLT, Int.reduceLE, Int.reduceGT, decide_true, decide_false, eqB_self, la_cons, la_nil, b_plus, t0, t1, t5, t6])
      refine lface_c hW e2 ?_
      intro s2 V hW hl hV
      repeat (first | with_reducible (refine w_one H ?_; constructor) | simp only [rB, rP, rQ, boolA, intA, resultA, resA, reduceIte, reduceCtorEq, Nat.reduceAdd, Nat.reduceLT, Nat.reduceEqDiff, UInt8.reduceToNat, pe4, pf4, b_eqi, b_nei, b_lt, b_le, b_gt, b_ge, fn_an0, fn_an1, fn_an4, fn_an5, bc_01, bc_012, bc_015, bc_0145, bc_0147, bc_016, bc_0167, bc_017, bc_03, bc_035, bc_0347, beq_self_eq_true, bne_self_eq_false, Int.reduceBEq, Int.reduceBNe, Int.reduceLT, Int.reduceLE, Int.reduceGT, decide_true, decide_false, eqB_self, la_cons, la_nil, b_plus, t0, t1, t5, t6, lW, iW, hlen, p2, Tryz.results32])
      rfl
    · have g0 : decide ((l.length : Int) < (zs.length : Int)) = false := by rw [decide_eq_false_iff_not]; omega
      repeat (first | with_reducible (refine w_one H ?_; constructor) | simp only [rB, rP, rQ, boolA, intA, resultA, resA, reduceIte, reduceCtorEq, Nat.reduceAdd, Nat.reduceLT, Nat.reduceEqDiff, UInt8.reduceToNat, pe4, pf4, b_eqi, b_nei, b_lt, b_le, b_gt, b_ge, fn_an0, fn_an1, fn_an4, fn_an5, bc_01, bc_012, bc_015, bc_0145, bc_0147, bc_016, bc_0167, bc_017, bc_03, bc_035, bc_0347, beq_self_eq_true, bne_self_eq_false, Int.reduceBEq, Int.reduceBNe, Int.reduceLT, Int.reduceLE, Int.reduceGT, decide_true, decide_false, eqB_self, la_cons, la_nil, b_plus, t0, t1, t5, t6, pl, pi, g0])
      refine lnames_c ok3 hW e1 p1 ?_
      intro s1 V hW hl hV
      repeat (first | with_reducible (refine w_one H ?_; constructor) | simp only [rB, rP, rQ, boolA, intA, resultA, resA, reduceIte, reduceCtorEq, Nat.reduceAdd, Nat.reduceLT, Nat.reduceEqDiff, UInt8.reduceToNat, pe4, pf4, b_eqi, b_nei, b_lt, b_le, b_gt, b_ge, fn_an0, fn_an1, fn_an4, fn_an5, bc_01, bc_012, bc_015, bc_0145, bc_0147, bc_016, bc_0167, bc_017, bc_03, bc_035, bc_0347, beq_self_eq_true, bne_self_eq_false, Int.reduceBEq, Int.reduceBNe, Int.reduceLT, Int.reduceLE, Int.reduceGT, decide_true, decide_false, eqB_self, la_cons, la_nil, b_plus, t0, t1, t5, t6])
      refine same_c hV (hWt.slv hW) (by rw [crNm_len]; omega) ?_
      repeat (first | with_reducible (refine w_one H ?_; constructor) | simp only [rB, rP, rQ, boolA, intA, resultA, resA, reduceIte, reduceCtorEq, Nat.reduceAdd, Nat.reduceLT, Nat.reduceEqDiff, UInt8.reduceToNat, pe4, pf4, b_eqi, b_nei, b_lt, b_le, b_gt, b_ge, fn_an0, fn_an1, fn_an4, fn_an5, bc_01, bc_012, bc_015, bc_0145, bc_0147, bc_016, bc_0167, bc_017, bc_03, bc_035, bc_0347, beq_self_eq_true, bne_self_eq_false, Int.reduceBEq, Int.reduceBNe, Int.reduceLT, Int.reduceLE, Int.reduceGT, decide_true, decide_false, eqB_self, la_cons, la_nil, b_plus, t0, t1, t5, t6])
      refine lface_c hW e2 ?_
      intro s2 V hW hl hV
      repeat (first | with_reducible (refine w_one H ?_; constructor) | simp only [rB, rP, rQ, boolA, intA, resultA, resA, reduceIte, reduceCtorEq, Nat.reduceAdd, Nat.reduceLT, Nat.reduceEqDiff, UInt8.reduceToNat, pe4, pf4, b_eqi, b_nei, b_lt, b_le, b_gt, b_ge, fn_an0, fn_an1, fn_an4, fn_an5, bc_01, bc_012, bc_015, bc_0145, bc_0147, bc_016, bc_0167, bc_017, bc_03, bc_035, bc_0347, beq_self_eq_true, bne_self_eq_false, Int.reduceBEq, Int.reduceBNe, Int.reduceLT, Int.reduceLE, Int.reduceGT, decide_true, decide_false, eqB_self, la_cons, la_nil, b_plus, t0, t1, t5, t6, lW, iW, hlen, p2, Tryz.results32])
      rfl
theorem creates_0 {PV : AV} {zs : List Int} {L0 : List (Nat × AO)} (hP : Pks PV zs L0) {s : St} (hW : WL s M0 L0) :
    (sem Tryz.prog).call 32 [.fn 62 [.ptr 14 0], PV] s (fun v _ => isTrue v) (fun _ _ => false) = true := creates_c hP (show WL s (crM []) L0 from hW)
end Go.AX
-- handed
namespace Go.AX
open Go.Proofs Go.RowKit
set_option maxRecDepth 1000000
set_option linter.unusedSimpArgs false
set_option linter.unusedVariables false
theorem creates_from {h0 : Tr AO} {PV : AV} {zs : List Int} {L0 : List (Nat × AO)} (hP : Pks PV zs L0) (hd : Hd h0 L0) :
    (sem Tryz.prog).call 4 [PV] (stI h0) (fun v _ => isTrue v) (fun _ _ => false) = true := by
  have H := ok3
  refine w_call H 9 fn_4 rfl rfl ?_
  repeat (first | with_reducible (refine w_one H ?_; constructor) | simp only [rB, rP, rQ, boolA, intA, resultA, resA, reduceIte, reduceCtorEq, Nat.reduceAdd, Nat.reduceLT, Nat.reduceEqDiff, UInt8.reduceToNat, pe3, pf3, c_awake, Tryz.results4] | (with_reducible refine faceIW_c hd ?_; intro s hW) | (with_reducible refine call_true (creates_0 hP hW) (fun s' => ?_)))
  rfl
theorem createsWalk0 (w : Go.World) : Calls Tryz.prog 4 #[.slice none 0 0] w fun e w' => e = .returned (.bool true) ∧ Below w.heap.size w w' :=
  sem_from (args := [.raw (.slice none 0 0)]) (Args := [.slice none 0 0]) (s := stI .e) (simN w) (VRels.cons (by simp [VRel]) VRels.nil) (creates_from pks_nil (Or.inl ⟨rfl, rfl⟩))
theorem createsWalkE {a : Go.Addr} {cap : Nat} (w : Go.World) : Calls Tryz.prog 4 #[.slice (some a) 0 cap] w fun e w' => e = .returned (.bool true) ∧ Below w.heap.size w w' :=
  sem_from (args := [.raw (.slice (some a) 0 cap)]) (Args := [.slice (some a) 0 cap]) (s := stI .e) (simN w) (VRels.cons (by simp [VRel]) VRels.nil) (creates_from pks_empty (Or.inl ⟨rfl, rfl⟩))
theorem createsWalk {w : Go.World} {b off len cap : Nat} {C : Array Value} {el : TypeId} {fz : Nat × Nat} {zs : List Int} (hO : w.heap[b]? = some (.cells C el fz)) (hc : ∀ i z, zs[i]? = some z → C[off + i]? = some (.int .i64 z)) (hl : zs.length = len) (hcap : len ≤ cap) :
    Calls Tryz.prog 4 #[.slice (some ⟨b, off, none⟩) len cap] w fun e w' => e = .returned (.bool true) ∧ Below w.heap.size w w' := by
  subst hl
  refine sem_from (args := [.slice 0 0 zs.length 0 cap true]) (Args := [.slice (some ⟨b, off, none⟩) zs.length cap]) (s := stI (Tr.e.set 0 (.old ((zs.map (Value.int .i64)).map .raw)))) (simI (K := 0) (off := off) (vs := zs.map (Value.int .i64)) hO (fun i v hv => ?_)) (VRels.cons ?_ VRels.nil) (creates_from pks_row (Or.inr ⟨_, rfl, ?_⟩))
  · rw [List.getElem?_map, Option.map_eq_some_iff] at hv
    obtain ⟨z, hz, rfl⟩ := hv
    exact hc i z hz
  · simp only [VRel]
    exact ⟨(b, off, 0), by simp, rfl, hcap, fun h => (by cases h)⟩
  · rw [List.map_map]
    rfl
end Go.AX
