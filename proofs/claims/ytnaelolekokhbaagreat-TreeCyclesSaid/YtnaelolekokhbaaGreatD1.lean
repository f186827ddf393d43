import Derived.Test.YtnaelolekokhbaaGreatB3
import Derived.Test.YtnaelolekokhbaaGreatC4
set_option linter.unusedVariables false
set_option linter.unusedSimpArgs false
set_option linter.defProp false
namespace Go.AX
open Go.Proofs Go.RowKit
set_option maxRecDepth 1000000
set_option maxHeartbeats 400000000
set_option linter.unusedSimpArgs false

/-! ### A number's text -/
def allN : Nat → (Nat → Bool) → Bool
  | 0, _ => true
  | n + 1, f => f n && allN n f
theorem allN_at : ∀ {n : Nat} {f : Nat → Bool}, allN n f = true → ∀ {i : Nat}, i < n → f i = true
  | 0, _, _, i, hi => absurd hi (Nat.not_lt_zero i)
  | n + 1, f, h, i, hi => by
    simp only [allN, Bool.and_eq_true] at h
    by_cases e : i = n
    · rw [e]; exact h.1
    · exact allN_at h.2 (by omega)
def decL (n : Nat) : List Nat := bif Nat.blt n 10 then [48 + n] else bif Nat.blt n 100 then [48 + n / 10, 48 + n % 10] else [48 + n / 100, 48 + n / 10 % 10, 48 + n % 10]
def isStrB (b : List Nat) : AV → Bool
  | .str l => eqB l b
  | _ => false
theorem isStrB_of {b : List Nat} {v : AV} (h : isStrB b v = true) : v = .str b := by
  unfold isStrB at h
  split at h
  · rw [eqB_iff, decide_eq_true_eq] at h
    rw [h]
  · cases h
theorem decRun : allN 256 (fun i => (evX TE pr2 3000).call 54 [.raw (.int .i64 (.ofNat i))] st0 (fun v _ => isStrB (decL i) v) (fun _ _ => false)) = true := by kernel_rfl
def decP (args : List AV) (s : St) : Option (AV × St) := match args with
  | [.raw (.int .i64 (.ofNat n))] => bif Nat.blt n 256 then some (.str (decL n), s) else none
  | _ => none
def pr4 : Prims := pr3.add 54 decP
theorem ok4 : Ok TE Tryz.prog pr4 := ⟨ok0.prog, prims_add ok3.prims (fun {args s s' v w0 w E Args} h hv hs => by
  unfold decP at h
  split at h
  · rename_i n
    cases hb : Nat.blt n 256 with
    | false => rw [hb] at h; cases h
    | true =>
    rw [hb, cond_true] at h
    simp only [Option.some.injEq, Prod.mk.injEq] at h
    obtain ⟨rfl, rfl⟩ := h
    have hr := allN_at decRun (i := n) (Nat.blt_eq.mp hb)
    exact lift_flat rfl rfl (fun kr kp hk => mono_call (sem_max_call (evX_sound (ok2 ok0) 3000) hr) (fun v s' hv => by rw [isStrB_of hv]; exact hk s') (fun _ _ hv => by cases hv)) hv hs
  · cases h)⟩
theorem pe4 {g : Nat} {args : List AV} {s : St} (h : g ≠ 173) : pr4.ext g args s = none := pe_ne h
theorem pf4 {g : Nat} {args : List AV} {s : St} (h1 : g ≠ 114) (h2 : g ≠ 122) (h3 : g ≠ 120) (h4 : g ≠ 126) (h5 : g ≠ 107) (h6 : g ≠ 111) (h7 : g ≠ 88) (h8 : g ≠ 98) (h9 : g ≠ 22) (h10 : g ≠ 54) : pr4.fn g args s = none := by
  unfold pr4
  rw [add_ne h10]
  exact pf3 h1 h2 h3 h4 h5 h6 h7 h8 h9
theorem c_dec {r : Tasks} {a : Ac} {dst : Option Tmp} {s : St} {k : Ac → St → Bool} {kp : AV → St → Bool} {n : Nat} (h : Nat.blt n 256 = true) : callV pr4 r (.fn 54 []) [.raw (.int .i64 (n : Int))] a dst s k kp = putK a dst (.str (decL n)) s k := by
  refine c_prim (pe4 (by decide)) ?_
  unfold pr4
  rw [add_same]
  show (bif Nat.blt n 256 then some (AV.str (decL n), s) else none) = _
  rw [h]
  rfl
theorem decL_len {n : Nat} : (decL n).length ≤ 3 := by
  unfold decL
  cases Nat.blt n 10 <;> cases Nat.blt n 100 <;> simp
end Go.AX
namespace Go.AX
open Go.Proofs Go.RowKit
set_option maxRecDepth 1000000
set_option maxHeartbeats 40000000
set_option linter.unusedSimpArgs false

/-! ### The law's side of a tree -/
def fL : List (Nat × AO) := [(3, .cells [.ptr 2 0] 35 0)]
def WL (s : St) (M : Md) (L : List (Nat × AO)) : Prop := World s 2 M (fL ++ L)
def Dl (s : St) (L : List (Nat × AO)) (kr : AV → St → Bool) (q : An × Md) : Prop :=
  ∀ s' V, WL s' q.2 L → s.nx ≤ s'.nx → SlV s' V q.1.names → kr (.agg (anL q.1.status q.1.num q.1.kind q.1.mode q.1.data V)) s' = true
theorem WL.get {s : St} {M : Md} {L : List (Nat × AO)} (h : WL s M L) {q : Nat × AO} (hq : q ∈ L) : s.h.get q.1 = some q.2 := World.get h (List.mem_append_right _ hq)
theorem WL.get0 {s : St} {M : Md} {L : List (Nat × AO)} {i : Nat} {o : AO} (h : WL s M ((i, o) :: L)) : s.h.get i = some o := h.get (q := (i, o)) (List.mem_cons_self ..)
theorem WL.get1 {s : St} {M : Md} {L : List (Nat × AO)} {q : Nat × AO} {i : Nat} {o : AO} (h : WL s M (q :: (i, o) :: L)) : s.h.get i = some o := h.get (q := (i, o)) (List.mem_cons_of_mem _ (List.mem_cons_self ..))
theorem WL.get2 {s : St} {M : Md} {L : List (Nat × AO)} {q r : Nat × AO} {i : Nat} {o : AO} (h : WL s M (q :: r :: (i, o) :: L)) : s.h.get i = some o := h.get (q := (i, o)) (List.mem_cons_of_mem _ (List.mem_cons_of_mem _ (List.mem_cons_self ..)))
theorem WL.get3 {s : St} {M : Md} {L : List (Nat × AO)} {q r t : Nat × AO} {i : Nat} {o : AO} (h : WL s M (q :: r :: t :: (i, o) :: L)) : s.h.get i = some o := h.get (q := (i, o)) (List.mem_cons_of_mem _ (List.mem_cons_of_mem _ (List.mem_cons_of_mem _ (List.mem_cons_self ..))))
theorem WL.get4 {s : St} {M : Md} {L : List (Nat × AO)} {q r t u : Nat × AO} {i : Nat} {o : AO} (h : WL s M (q :: r :: t :: u :: (i, o) :: L)) : s.h.get i = some o := h.get (q := (i, o)) (List.mem_cons_of_mem _ (List.mem_cons_of_mem _ (List.mem_cons_of_mem _ (List.mem_cons_of_mem _ (List.mem_cons_self ..)))))
theorem WL.lt {s : St} {M : Md} {L : List (Nat × AO)} (h : WL s M L) {q : Nat × AO} (hq : q ∈ L) : q.1 < s.nx := World.lt h (List.mem_append_right _ hq)
theorem WL.sub {s : St} {M : Md} {L L' : List (Nat × AO)} (h : WL s M L) (hs : ∀ q ∈ L', q ∈ L) : WL s M L' := World.sub h (fun q hq => by
  rcases List.mem_append.mp hq with hq | hq
  · exact List.mem_append_left _ hq
  · exact List.mem_append_right _ (hs q hq))
theorem WL.mid {s : St} {M : Md} {q : Nat × AO} {L : List (Nat × AO)} (h : World s 2 M (q :: (fL ++ L))) : WL s M (q :: L) := World.sub h (fun r hr => by
  rcases List.mem_append.mp hr with hr | hr
  · exact List.mem_cons_of_mem _ (List.mem_append_left _ hr)
  · rcases List.mem_cons.mp hr with rfl | hr
    · exact List.mem_cons_self ..
    · exact List.mem_cons_of_mem _ (List.mem_append_right _ hr))
theorem WL.out {s : St} {M : Md} {q : Nat × AO} {L : List (Nat × AO)} (h : WL s M (q :: L)) : World s 2 M (q :: (fL ++ L)) := World.sub h (fun r hr => by
  rcases List.mem_cons.mp hr with rfl | hr
  · exact List.mem_append_right _ (List.mem_cons_self ..)
  · rcases List.mem_append.mp hr with hr | hr
    · exact List.mem_append_left _ hr
    · exact List.mem_append_right _ (List.mem_cons_of_mem _ hr))
theorem WL.alloc {s : St} {M : Md} {L : List (Nat × AO)} (h : WL s M L) (o : AO) : WL (s.alloc o) M ((s.nx, o) :: L) := WL.mid (World.alloc h o)
theorem WL.put {s : St} {M : Md} {L : List (Nat × AO)} (h : WL s M L) (o o' : AO) : WL { h := (s.alloc o).h.set s.nx o', nx := s.nx + 1 } M ((s.nx, o') :: L) :=
  WL.mid (World.set (World.alloc h o) (fun q hq => Nat.ne_of_lt (World.lt h hq)) o')
theorem WL.ext {s s' : St} {M : Md} {L : List (Nat × AO)} (h : WL s M L) (he : Ext s s') (hB : Below0 s') : WL s' M L := World.ext h he hB
theorem WL.below {s : St} {M : Md} {L : List (Nat × AO)} (h : WL s M L) : Below0 s := h.1
theorem WL.face {s : St} {M : Md} {L : List (Nat × AO)} (h : WL s M L) : s.h.get 3 = some (.cells [.ptr 2 0] 35 0) := World.get h (q := (3, _)) (List.mem_append_left _ (List.mem_cons_self ..))
/-- What the face answers. -/
theorem face1_c {s : St} (H : Ok TE Tryz.prog pr3) {M : Md} {L : List (Nat × AO)} (hW : WL s M L) {c : Cl} {q : An × Md} (h : doM M c = some q) {kr kp : AV → St → Bool} (hk : Dl s L kr q) :
    (sem Tryz.prog).call 53 [.agg (clL c), .ptr 3 0] s kr kp = true := by
  refine w_call H 7 fn_53 rfl rfl ?_
  have h3 : 3 < s.nx := hW.1 _ _ hW.face
  have g3 := hW.face
  have m1 : (s.nx = s.nx + 1) = False := by simp
  have m2 : (s.nx + 1 = s.nx) = False := by simp
  have m3 : (3 = s.nx) = False := by simp; omega
  have m4 : (3 = s.nx + 1) = False := by simp; omega
  have hW2 := (World.alloc hW (.cells (clL c) 55 0)).alloc (.cells (anL 0 0 0 0 [] nilS) 53 0)
  have hL1 : ∀ q ∈ (s.nx, AO.cells (clL c) 55 0) :: (fL ++ L), q.1 ≠ s.nx + 1 := by
    intro q hq
    simp only [List.mem_cons] at hq
    rcases hq with rfl | hq
    · simp
    · have := World.lt hW hq
      omega
  unfold clL at hW2 ⊢
  repeat (first | with_reducible first | refine w_seq H ?_ | refine w_region H ?_ | refine w_block H ?_ | refine w_ret H ?_ | refine w_skip H ?_ | refine w_exit H ?_ | refine w_label H ?_ | (with_reducible refine w_cond H _ (by simp only [rB, rP, rQ, boolA, intA, resultA, resA, reduceIte, reduceCtorEq, Nat.reduceAdd, Nat.reduceLT, Nat.reduceEqDiff, UInt8.reduceToNat, pe3, pf3, all_an, cells_agg, ld_35, m1, m2, m3, m4, g3, ld_cl, ldG_cl]; rfl) ?_; simp only [cond_true, cond_false]) | simp only [rB, rP, rQ, boolA, intA, resultA, resA, reduceIte, reduceCtorEq, Nat.reduceAdd, Nat.reduceLT, Nat.reduceEqDiff, UInt8.reduceToNat, pe3, pf3, all_an, cells_agg, ld_35, m1, m2, m3, m4, g3, ld_cl, ldG_cl])
  refine do_c H hW2 h (c := c) ?_
  intro s1 V w1 l1 hV
  have c1 : s1.h.get (s.nx + 1) = some (.cells (anL 0 0 0 0 [] nilS) 53 0) := w1.get0
  repeat (first | with_reducible first | refine w_seq H ?_ | refine w_region H ?_ | refine w_block H ?_ | refine w_ret H ?_ | refine w_skip H ?_ | refine w_exit H ?_ | refine w_label H ?_ | (with_reducible refine w_cond H _ (by simp only [rB, rP, rQ, boolA, intA, resultA, resA, reduceIte, reduceCtorEq, Nat.reduceAdd, Nat.reduceLT, Nat.reduceEqDiff, UInt8.reduceToNat, pe3, pf3, c1, st_an hV.cells1.2, stA_an, ld_an, ldG_an, Tryz.results53]; rfl) ?_; simp only [cond_true, cond_false]) | simp only [rB, rP, rQ, boolA, intA, resultA, resA, reduceIte, reduceCtorEq, Nat.reduceAdd, Nat.reduceLT, Nat.reduceEqDiff, UInt8.reduceToNat, pe3, pf3, c1, st_an hV.cells1.2, stA_an, ld_an, ldG_an, Tryz.results53])
  exact hk _ V ((w1.set hL1 _).sub (fun q hq => List.mem_cons_of_mem _ (List.mem_cons_of_mem _ hq))) (Nat.le_trans (by show s.nx ≤ s.nx + 1 + 1; omega) l1) (hV.set c1 an_str _)

/-! ### The law's helpers -/
theorem bc_01 {a : Int} {b : List Nat} : buildA TE 55 [(0, .raw (.int .i64 a)), (1, .str b)] = some (.agg (clL ⟨a, b, [], 0, 0, 0, 0, []⟩)) := by kernel_rfl
theorem bc_012 {a : Int} {b c : List Nat} : buildA TE 55 [(0, .raw (.int .i64 a)), (1, .str b), (2, .str c)] = some (.agg (clL ⟨a, b, c, 0, 0, 0, 0, []⟩)) := by kernel_rfl
theorem bc_015 {a n : Int} {b : List Nat} : buildA TE 55 [(0, .raw (.int .i64 a)), (1, .str b), (5, .raw (.int .i64 n))] = some (.agg (clL ⟨a, b, [], 0, 0, n, 0, []⟩)) := by kernel_rfl
theorem bc_0145 {a o n : Int} {b : List Nat} : buildA TE 55 [(0, .raw (.int .i64 a)), (1, .str b), (4, .raw (.int .i64 o)), (5, .raw (.int .i64 n))] = some (.agg (clL ⟨a, b, [], 0, o, n, 0, []⟩)) := by kernel_rfl
theorem bc_0147 {a o : Int} {b d : List Nat} : buildA TE 55 [(0, .raw (.int .i64 a)), (1, .str b), (4, .raw (.int .i64 o)), (7, .str d)] = some (.agg (clL ⟨a, b, [], 0, o, 0, 0, d⟩)) := by kernel_rfl
theorem bc_016 {a n : Int} {b : List Nat} : buildA TE 55 [(0, .raw (.int .i64 a)), (1, .str b), (6, .raw (.int .i64 n))] = some (.agg (clL ⟨a, b, [], 0, 0, 0, n, []⟩)) := by kernel_rfl
theorem bc_0167 {a n : Int} {b d : List Nat} : buildA TE 55 [(0, .raw (.int .i64 a)), (1, .str b), (6, .raw (.int .i64 n)), (7, .str d)] = some (.agg (clL ⟨a, b, [], 0, 0, 0, n, d⟩)) := by kernel_rfl
theorem bc_017 {a : Int} {b d : List Nat} : buildA TE 55 [(0, .raw (.int .i64 a)), (1, .str b), (7, .str d)] = some (.agg (clL ⟨a, b, [], 0, 0, 0, 0, d⟩)) := by kernel_rfl
theorem bc_03 {a f : Int} : buildA TE 55 [(0, .raw (.int .i64 a)), (3, .raw (.int .i64 f))] = some (.agg (clL ⟨a, [], [], f, 0, 0, 0, []⟩)) := by kernel_rfl
theorem bc_035 {a f n : Int} : buildA TE 55 [(0, .raw (.int .i64 a)), (3, .raw (.int .i64 f)), (5, .raw (.int .i64 n))] = some (.agg (clL ⟨a, [], [], f, 0, n, 0, []⟩)) := by kernel_rfl
theorem bc_0347 {a f o : Int} {d : List Nat} : buildA TE 55 [(0, .raw (.int .i64 a)), (3, .raw (.int .i64 f)), (4, .raw (.int .i64 o)), (7, .str d)] = some (.agg (clL ⟨a, [], [], f, o, 0, 0, d⟩)) := by kernel_rfl
theorem fn_an0 {a b c d : Int} {e : List Nat} {V : AV} : fieldA TE 53 (.agg (anL a b c d e V)) 0 = some (.raw (.int .i64 a)) := by kernel_rfl
theorem fn_an1 {a b c d : Int} {e : List Nat} {V : AV} : fieldA TE 53 (.agg (anL a b c d e V)) 1 = some (.raw (.int .i64 b)) := by kernel_rfl
theorem fn_an4 {a b c d : Int} {e : List Nat} {V : AV} : fieldA TE 53 (.agg (anL a b c d e V)) 4 = some (.str e) := by kernel_rfl
theorem fn_an5 {a b c d : Int} {e : List Nat} {V : AV} : fieldA TE 53 (.agg (anL a b c d e V)) 5 = some V := by kernel_rfl
theorem fa_an0 {x : Nat} : fieldAddrA TE 53 (.ptr x 0) 0 = some (.ptr x 0) := by kernel_rfl
theorem fa_an1 {x : Nat} : fieldAddrA TE 53 (.ptr x 0) 1 = some (.ptr x 1) := by kernel_rfl
theorem fa_an2 {x : Nat} : fieldAddrA TE 53 (.ptr x 0) 2 = some (.ptr x 2) := by kernel_rfl
theorem fa_an3 {x : Nat} : fieldAddrA TE 53 (.ptr x 0) 3 = some (.ptr x 3) := by kernel_rfl
theorem fa_an4 {x : Nat} : fieldAddrA TE 53 (.ptr x 0) 4 = some (.ptr x 4) := by kernel_rfl
theorem fa_an5 {x : Nat} : fieldAddrA TE 53 (.ptr x 0) 5 = some (.ptr x 5) := by kernel_rfl
theorem ldO_an0 {a b c d : Int} {e : List Nat} {V : AV} {t z : Nat} : ldO (some (.cells (anL a b c d e V) t z)) 0 = some (.raw (.int .i64 a)) := (rfl)
theorem ldO_an1 {a b c d : Int} {e : List Nat} {V : AV} {t z : Nat} : ldO (some (.cells (anL a b c d e V) t z)) 1 = some (.raw (.int .i64 b)) := (rfl)
theorem ldO_an2 {a b c d : Int} {e : List Nat} {V : AV} {t z : Nat} : ldO (some (.cells (anL a b c d e V) t z)) 2 = some (.raw (.int .i64 c)) := (rfl)
theorem ldO_an3 {a b c d : Int} {e : List Nat} {V : AV} {t z : Nat} : ldO (some (.cells (anL a b c d e V) t z)) 3 = some (.raw (.int .i64 d)) := (rfl)
theorem ldO_an4 {a b c d : Int} {e : List Nat} {V : AV} {t z : Nat} : ldO (some (.cells (anL a b c d e V) t z)) 4 = some (.str e) := (rfl)
theorem ldO_an5 {a b c d : Int} {e : List Nat} {V : AV} {t z : Nat} : ldO (some (.cells (anL a b c d e V) t z)) 5 = some V := (rfl)
def faceA : AV := .fn 53 [.ptr 3 0]
theorem lmake_c {s : St} (H : Ok TE Tryz.prog pr3) {M : Md} {L : List (Nat × AO)} (hW : WL s M L) {op : Int} {p : List Nat} {a : An} {M' : Md} (h : doM M ⟨op, p, [], 0, 0, 0, 420, [116, 97, 114, 103, 101, 116]⟩ = some (a, M')) {st : Int} (hst : a.status = st) {kr kp : AV → St → Bool} (hk : ∀ s', WL s' M' L → s.nx ≤ s'.nx → kr (.raw (.int .i64 st)) s' = true) :
    (sem Tryz.prog).call 55 [.fn 53 [.ptr 3 0], .raw (.int .i64 op), .str p] s kr kp = true := by
  subst hst
  refine w_call H 13 fn_55 rfl rfl ?_
  repeat (first | with_reducible first | refine w_seq H ?_ | refine w_region H ?_ | refine w_block H ?_ | refine w_ret H ?_ | refine w_skip H ?_ | refine w_exit H ?_ | refine w_label H ?_ | (with_reducible refine w_cond H _ (by simp only [rB, rP, rQ, boolA, intA, resultA, resA, reduceIte, reduceCtorEq, Nat.reduceAdd, Nat.reduceLT, Nat.reduceEqDiff, UInt8.reduceToNat, pe3, pf3, bc_0167]; rfl) ?_; simp only [cond_true, cond_false]) | simp only [rB, rP, rQ, boolA, intA, resultA, resA, reduceIte, reduceCtorEq, Nat.reduceAdd, Nat.reduceLT, Nat.reduceEqDiff, UInt8.reduceToNat, pe3, pf3, bc_0167])
  refine face1_c H hW h ?_
  intro s1 V w1 l1 hV
  repeat (first | with_reducible first | refine w_seq H ?_ | refine w_region H ?_ | refine w_block H ?_ | refine w_ret H ?_ | refine w_skip H ?_ | refine w_exit H ?_ | refine w_label H ?_ | (with_reducible refine w_cond H _ (by simp only [rB, rP, rQ, boolA, intA, resultA, resA, reduceIte, reduceCtorEq, Nat.reduceAdd, Nat.reduceLT, Nat.reduceEqDiff, UInt8.reduceToNat, pe3, pf3, fn_an0, Tryz.results55]; rfl) ?_; simp only [cond_true, cond_false]) | simp only [rB, rP, rQ, boolA, intA, resultA, resA, reduceIte, reduceCtorEq, Nat.reduceAdd, Nat.reduceLT, Nat.reduceEqDiff, UInt8.reduceToNat, pe3, pf3, fn_an0, Tryz.results55])
  exact hk s1 w1 l1
theorem lstatus_c {s : St} (H : Ok TE Tryz.prog pr3) {M : Md} {L : List (Nat × AO)} (hW : WL s M L) {op : Int} {p : List Nat} {a : An} {M' : Md} (h : doM M ⟨op, p, [], 0, 0, 0, 0, []⟩ = some (a, M')) {st : Int} (hst : a.status = st) {kr kp : AV → St → Bool} (hk : ∀ s', WL s' M' L → s.nx ≤ s'.nx → kr (.raw (.int .i64 st)) s' = true) :
    (sem Tryz.prog).call 60 [.fn 53 [.ptr 3 0], .raw (.int .i64 op), .str p] s kr kp = true := by
  subst hst
  refine w_call H 13 fn_60 rfl rfl ?_
  repeat (first | with_reducible first | refine w_seq H ?_ | refine w_region H ?_ | refine w_block H ?_ | refine w_ret H ?_ | refine w_skip H ?_ | refine w_exit H ?_ | refine w_label H ?_ | (with_reducible refine w_cond H _ (by simp only [rB, rP, rQ, boolA, intA, resultA, resA, reduceIte, reduceCtorEq, Nat.reduceAdd, Nat.reduceLT, Nat.reduceEqDiff, UInt8.reduceToNat, pe3, pf3, bc_01]; rfl) ?_; simp only [cond_true, cond_false]) | simp only [rB, rP, rQ, boolA, intA, resultA, resA, reduceIte, reduceCtorEq, Nat.reduceAdd, Nat.reduceLT, Nat.reduceEqDiff, UInt8.reduceToNat, pe3, pf3, bc_01])
  refine face1_c H hW h ?_
  intro s1 V w1 l1 hV
  repeat (first | with_reducible first | refine w_seq H ?_ | refine w_region H ?_ | refine w_block H ?_ | refine w_ret H ?_ | refine w_skip H ?_ | refine w_exit H ?_ | refine w_label H ?_ | (with_reducible refine w_cond H _ (by simp only [rB, rP, rQ, boolA, intA, resultA, resA, reduceIte, reduceCtorEq, Nat.reduceAdd, Nat.reduceLT, Nat.reduceEqDiff, UInt8.reduceToNat, pe3, pf3, fn_an0, Tryz.results60]; rfl) ?_; simp only [cond_true, cond_false]) | simp only [rB, rP, rQ, boolA, intA, resultA, resA, reduceIte, reduceCtorEq, Nat.reduceAdd, Nat.reduceLT, Nat.reduceEqDiff, UInt8.reduceToNat, pe3, pf3, fn_an0, Tryz.results60])
  exact hk s1 w1 l1
theorem lwrite_c {s : St} (H : Ok TE Tryz.prog pr3) {M : Md} {L : List (Nat × AO)} (hW : WL s M L) {off : Int} {p d : List Nat} {a : An} {M' : Md} (h : doM M ⟨8, p, [], 0, off, 0, 0, d⟩ = some (a, M')) {st : Int} (hst : a.status = st) {kr kp : AV → St → Bool} (hk : ∀ s', WL s' M' L → s.nx ≤ s'.nx → kr (.raw (.int .i64 st)) s' = true) :
    (sem Tryz.prog).call 58 [.fn 53 [.ptr 3 0], .str p, .raw (.int .i64 off), .str d] s kr kp = true := by
  subst hst
  refine w_call H 16 fn_58 rfl rfl ?_
  repeat (first | with_reducible first | refine w_seq H ?_ | refine w_region H ?_ | refine w_block H ?_ | refine w_ret H ?_ | refine w_skip H ?_ | refine w_exit H ?_ | refine w_label H ?_ | (with_reducible refine w_cond H _ (by simp only [rB, rP, rQ, boolA, intA, resultA, resA, reduceIte, reduceCtorEq, Nat.reduceAdd, Nat.reduceLT, Nat.reduceEqDiff, UInt8.reduceToNat, pe3, pf3, bc_0147]; rfl) ?_; simp only [cond_true, cond_false]) | simp only [rB, rP, rQ, boolA, intA, resultA, resA, reduceIte, reduceCtorEq, Nat.reduceAdd, Nat.reduceLT, Nat.reduceEqDiff, UInt8.reduceToNat, pe3, pf3, bc_0147])
  refine face1_c H hW h ?_
  intro s1 V w1 l1 hV
  repeat (first | with_reducible first | refine w_seq H ?_ | refine w_region H ?_ | refine w_block H ?_ | refine w_ret H ?_ | refine w_skip H ?_ | refine w_exit H ?_ | refine w_label H ?_ | (with_reducible refine w_cond H _ (by simp only [rB, rP, rQ, boolA, intA, resultA, resA, reduceIte, reduceCtorEq, Nat.reduceAdd, Nat.reduceLT, Nat.reduceEqDiff, UInt8.reduceToNat, pe3, pf3, fn_an0, Tryz.results58]; rfl) ?_; simp only [cond_true, cond_false]) | simp only [rB, rP, rQ, boolA, intA, resultA, resA, reduceIte, reduceCtorEq, Nat.reduceAdd, Nat.reduceLT, Nat.reduceEqDiff, UInt8.reduceToNat, pe3, pf3, fn_an0, Tryz.results58])
  exact hk s1 w1 l1
theorem lread_c {s : St} (H : Ok TE Tryz.prog pr3) {M : Md} {L : List (Nat × AO)} (hW : WL s M L) {p : List Nat} {a : An} {M' : Md} (h : doM M ⟨2, p, [], 0, 0, 512, 0, []⟩ = some (a, M')) {d : List Nat} (hd : a.data = d) {kr kp : AV → St → Bool} (hk : ∀ s', WL s' M' L → s.nx ≤ s'.nx → kr (.str d) s' = true) :
    (sem Tryz.prog).call 59 [.fn 53 [.ptr 3 0], .str p] s kr kp = true := by
  subst hd
  refine w_call H 10 fn_59 rfl rfl ?_
  repeat (first | with_reducible first | refine w_seq H ?_ | refine w_region H ?_ | refine w_block H ?_ | refine w_ret H ?_ | refine w_skip H ?_ | refine w_exit H ?_ | refine w_label H ?_ | (with_reducible refine w_cond H _ (by simp only [rB, rP, rQ, boolA, intA, resultA, resA, reduceIte, reduceCtorEq, Nat.reduceAdd, Nat.reduceLT, Nat.reduceEqDiff, UInt8.reduceToNat, pe3, pf3, bc_015]; rfl) ?_; simp only [cond_true, cond_false]) | simp only [rB, rP, rQ, boolA, intA, resultA, resA, reduceIte, reduceCtorEq, Nat.reduceAdd, Nat.reduceLT, Nat.reduceEqDiff, UInt8.reduceToNat, pe3, pf3, bc_015])
  refine face1_c H hW h ?_
  intro s1 V w1 l1 hV
  repeat (first | with_reducible first | refine w_seq H ?_ | refine w_region H ?_ | refine w_block H ?_ | refine w_ret H ?_ | refine w_skip H ?_ | refine w_exit H ?_ | refine w_label H ?_ | (with_reducible refine w_cond H _ (by simp only [rB, rP, rQ, boolA, intA, resultA, resA, reduceIte, reduceCtorEq, Nat.reduceAdd, Nat.reduceLT, Nat.reduceEqDiff, UInt8.reduceToNat, pe3, pf3, fn_an4, Tryz.results59]; rfl) ?_; simp only [cond_true, cond_false]) | simp only [rB, rP, rQ, boolA, intA, resultA, resA, reduceIte, reduceCtorEq, Nat.reduceAdd, Nat.reduceLT, Nat.reduceEqDiff, UInt8.reduceToNat, pe3, pf3, fn_an4, Tryz.results59])
  exact hk s1 w1 l1
theorem lnames_c {s : St} (H : Ok TE Tryz.prog pr3) {M : Md} {L : List (Nat × AO)} (hW : WL s M L) {p : List Nat} {a : An} {M' : Md} (h : doM M ⟨3, p, [], 0, 0, 0, 0, []⟩ = some (a, M')) {ns : List (List Nat)} (hn : a.names = ns) {kr kp : AV → St → Bool} (hk : ∀ s' V, WL s' M' L → s.nx ≤ s'.nx → SlV s' V ns → kr V s' = true) :
    (sem Tryz.prog).call 57 [.fn 53 [.ptr 3 0], .str p] s kr kp = true := by
  subst hn
  refine w_call H 10 fn_57 rfl rfl ?_
  repeat (first | with_reducible first | refine w_seq H ?_ | refine w_region H ?_ | refine w_block H ?_ | refine w_ret H ?_ | refine w_skip H ?_ | refine w_exit H ?_ | refine w_label H ?_ | (with_reducible refine w_cond H _ (by simp only [rB, rP, rQ, boolA, intA, resultA, resA, reduceIte, reduceCtorEq, Nat.reduceAdd, Nat.reduceLT, Nat.reduceEqDiff, UInt8.reduceToNat, pe3, pf3, bc_01]; rfl) ?_; simp only [cond_true, cond_false]) | simp only [rB, rP, rQ, boolA, intA, resultA, resA, reduceIte, reduceCtorEq, Nat.reduceAdd, Nat.reduceLT, Nat.reduceEqDiff, UInt8.reduceToNat, pe3, pf3, bc_01])
  refine face1_c H hW h ?_
  intro s1 V w1 l1 hV
  repeat (first | with_reducible first | refine w_seq H ?_ | refine w_region H ?_ | refine w_block H ?_ | refine w_ret H ?_ | refine w_skip H ?_ | refine w_exit H ?_ | refine w_label H ?_ | (with_reducible refine w_cond H _ (by simp only [rB, rP, rQ, boolA, intA, resultA, resA, reduceIte, reduceCtorEq, Nat.reduceAdd, Nat.reduceLT, Nat.reduceEqDiff, UInt8.reduceToNat, pe3, pf3, fn_an5, Tryz.results57]; rfl) ?_; simp only [cond_true, cond_false]) | simp only [rB, rP, rQ, boolA, intA, resultA, resA, reduceIte, reduceCtorEq, Nat.reduceAdd, Nat.reduceLT, Nat.reduceEqDiff, UInt8.reduceToNat, pe3, pf3, fn_an5, Tryz.results57])
  exact hk s1 V w1 l1 hV
end Go.AX
namespace Go.AX
open Go.Proofs Go.RowKit
set_option maxRecDepth 1000000
set_option maxHeartbeats 40000000
set_option linter.unusedSimpArgs false

/-! ### Calls, one behind the other -/
def ask (M : Md) (c : Cl) (p : An → Bool) (k : An → Md → Bool) : Bool := match doM M c with
  | some (a, M') => p a && k a M'
  | none => false
theorem ask_inv {M : Md} {c : Cl} {p : An → Bool} {k : An → Md → Bool} (h : ask M c p k = true) : ∃ a M', doM M c = some (a, M') ∧ p a = true ∧ k a M' = true := by
  unfold ask at h
  split at h
  · rename_i a M' e
    rw [Bool.and_eq_true] at h
    exact ⟨a, M', e, h.1, h.2⟩
  · cases h
def st (n : Int) (a : An) : Bool := decide (a.status = n)
def dt (d : List Nat) (a : An) : Bool := eqB a.data d
def nu (n : Int) (a : An) : Bool := decide (a.num = n)
def ki (n : Int) (a : An) : Bool := decide (a.kind = n)
def mo (n : Int) (a : An) : Bool := decide (a.mode = n)
def eqLB : List (List Nat) → List (List Nat) → Bool
  | [], [] => true
  | a :: l, b :: m => eqB a b && eqLB l m
  | _, _ => false
theorem eqLB_of : ∀ {l m : List (List Nat)}, eqLB l m = true → l = m
  | [], [], _ => rfl
  | a :: l, b :: m, h => by
    simp only [eqLB, Bool.and_eq_true] at h
    rw [eqB_iff, decide_eq_true_eq] at h
    rw [h.1, eqLB_of h.2]
  | [], _ :: _, h => by cases h
  | _ :: _, [], h => by cases h
def ns (l : List (List Nat)) (a : An) : Bool := eqLB a.names l
theorem st_of {n : Int} {a : An} (h : st n a = true) : a.status = n := of_decide_eq_true h
theorem dt_of {d : List Nat} {a : An} (h : dt d a = true) : a.data = d := by unfold dt at h; rw [eqB_iff, decide_eq_true_eq] at h; exact h
theorem nu_of {n : Int} {a : An} (h : nu n a = true) : a.num = n := of_decide_eq_true h
theorem ki_of {n : Int} {a : An} (h : ki n a = true) : a.kind = n := of_decide_eq_true h
theorem mo_of {n : Int} {a : An} (h : mo n a = true) : a.mode = n := of_decide_eq_true h
theorem ns_of {l : List (List Nat)} {a : An} (h : ns l a = true) : a.names = l := eqLB_of h
abbrev mkC (op : Int) (p : List Nat) : Cl := ⟨op, p, [], 0, 0, 0, 420, [116, 97, 114, 103, 101, 116]⟩
abbrev qC (op : Int) (p : List Nat) : Cl := ⟨op, p, [], 0, 0, 0, 0, []⟩
abbrev wrC (p : List Nat) (off : Int) (d : List Nat) : Cl := ⟨8, p, [], 0, off, 0, 0, d⟩
abbrev rdC (p : List Nat) : Cl := ⟨2, p, [], 0, 0, 512, 0, []⟩
abbrev rnC (p q : List Nat) : Cl := ⟨13, p, q, 0, 0, 0, 0, []⟩
theorem lface_c {s : St} {M : Md} {L : List (Nat × AO)} (hW : WL s M L) {c : Cl} {a : An} {M' : Md} (h : doM M c = some (a, M')) {kr kp : AV → St → Bool} (hk : ∀ s' V, WL s' M' L → s.nx ≤ s'.nx → SlV s' V a.names → kr (.agg (anL a.status a.num a.kind a.mode a.data V)) s' = true) :
    (sem Tryz.prog).call 53 [.agg (clL c), .ptr 3 0] s kr kp = true := face1_c ok3 hW h hk
/-- A new tree. -/
def M0 : Md := ⟨[⟨1, 493, [], [], none, [], 0⟩], 0, 0, [none, none, none, none, none, none, none, none], 0⟩
theorem below_face : Below0 sFace := by
  intro i o h
  show i < 4
  by_cases h0 : i < 4
  · exact h0
  · exfalso
    unfold sFace at h
    simp only [Tr.get_set] at h
    rw [if_neg (by omega), if_neg (by omega), if_neg (by omega), if_neg (by omega), if_neg (by omega)] at h
    cases h
theorem face_world : WL sFace M0 [] := by
  refine ⟨below_face, fun _ => 1, fun _ => 0, ⟨?_, rfl, ?_, ?_, ?_, ?_, ?_, ?_, rfl, ?_, ?_, ?_⟩, ?_⟩
  · intro k nd h
    have : k = 0 := by have := T_lt h; simp [M0] at this; exact this
    subst this
    cases h
    exact ⟨rfl, rfl⟩
  · intro j k hj hk _
    simp [M0] at hj hk
    omega
  · intro j k hj hk _
    simp [M0] at hj hk
    omega
  · intro k nd h q hq
    have : k = 0 := by have := T_lt h; simp [M0] at this; exact this
    subst this
    cases h
    cases hq
  · intro k nd u h hu
    have : k = 0 := by have := T_lt h; simp [M0] at this; exact this
    subst this
    cases h
    cases hu
  · decide
  · decide
  · intro o ho k hk
    simp [M0] at ho
    rw [ho] at hk
    cases hk
  · decide
  · intro k nd h
    have : k = 0 := by have := T_lt h; simp [M0] at this; exact this
    subst this
    cases h
    decide
  · intro q hq
    simp only [fL, List.append_nil, List.mem_singleton] at hq
    subst hq
    refine ⟨rfl, ?_⟩
    rintro (e | ⟨k, _, e | e⟩)
    · exact absurd (show 3 = 2 from e) (by decide)
    · exact absurd (show 3 = 1 from e) (by decide)
    · exact absurd (show 3 = 0 from e) (by decide)
end Go.AX
