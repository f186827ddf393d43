import Derived.Test.YtkcbaokljkalcaaGreatMv2C1
import Derived.Test.YtkcbaokljkalcaaGreatMv2A3
set_option linter.unusedVariables false
set_option linter.unusedSimpArgs false
set_option linter.defProp false
namespace Go.AX
open Go.Proofs Go.RowKit
set_option maxRecDepth 1000000
set_option linter.unusedSimpArgs false
def fitsB (n b : Nat) : Bool := Nat.ble n 8 && Nat.ble b 140
theorem fits_c {s : St} (H : Ok TE Tryz.prog pr3) {n b : Nat} {kr kp : AV → St → Bool} (hk : kr (.raw (.bool (fitsB n b))) s = true) : (sem Tryz.prog).call 101 [.raw (.int .i64 (n : Int)), .raw (.int .i64 (b : Int))] s kr kp = true := by
  refine w_call H 11 fn_101 rfl rfl ?_
  unfold fitsB at hk
  by_cases h1 : n ≤ 8
  · have e1 : decide ((n : Int) ≤ 8) = true := by rw [decide_eq_true_eq]; omega
    rw [Nat.ble_eq.mpr h1, Bool.true_and] at hk
    by_cases h2 : b ≤ 140
    · have e2 : decide ((b : Int) ≤ 140) = true := by rw [decide_eq_true_eq]; omega
      rw [Nat.ble_eq.mpr h2] at hk
      repeat (first | with_reducible (refine w_one H ?_; constructor) | simp only [rB, rP, rQ, boolA, intA, resultA, resA, reduceIte, reduceCtorEq, Nat.reduceAdd, Nat.reduceLT, Nat.reduceEqDiff, UInt8.reduceToNat, pe3, pf3, b_le, e1, e2, Tryz.results101])
      exact hk
    · have e2 : decide ((b : Int) ≤ 140) = false := by rw [decide_eq_false_iff_not]; omega
      have e2' : Nat.ble b 140 = false := by rw [← Bool.not_eq_true, Nat.ble_eq]; exact h2
      rw [e2'] at hk
      repeat (first | with_reducible (refine w_one H ?_; constructor) | simp only [rB, rP, rQ, boolA, intA, resultA, resA, reduceIte, reduceCtorEq, Nat.reduceAdd, Nat.reduceLT, Nat.reduceEqDiff, UInt8.reduceToNat, pe3, pf3, b_le, e1, e2, Tryz.results101])
      exact hk
  · have e1 : decide ((n : Int) ≤ 8) = false := by rw [decide_eq_false_iff_not]; omega
    have e1' : Nat.ble n 8 = false := by rw [← Bool.not_eq_true, Nat.ble_eq]; exact h1
    rw [e1', Bool.false_and] at hk
    repeat (first | with_reducible (refine w_one H ?_; constructor) | simp only [rB, rP, rQ, boolA, intA, resultA, resA, reduceIte, reduceCtorEq, Nat.reduceAdd, Nat.reduceLT, Nat.reduceEqDiff, UInt8.reduceToNat, pe3, pf3, b_le, e1, Tryz.results101])
    exact hk
def hasB (b : List Nat) (c : Nat) : Bool := match findByte b c 0 with | some _ => true | none => false
theorem sindex_c {s : St} (H : Ok TE Tryz.prog pr3) {b : List Nat} {c : Nat} (hc : c < 256) {kr kp : AV → St → Bool} (hk : kr (.raw (.int .i64 (idxI b c))) s = true) : (sem Tryz.prog).call 154 [.str b, .str [c]] s kr kp = true := by
  refine w_call H 8 fn_154 rfl rfl ?_
  repeat (first | with_reducible (refine w_one H ?_; constructor) | simp only [rB, rP, rQ, boolA, intA, resultA, resA, reduceIte, reduceCtorEq, Nat.reduceAdd, Nat.reduceLT, Nat.reduceEqDiff, UInt8.reduceToNat, pe3, pf3, Tryz.results154] | (with_reducible refine index_c ok0 hc ?_))
  exact hk
theorem contains_c {s : St} (H : Ok TE Tryz.prog pr3) {b : List Nat} {c : Nat} (hc : c < 256) {kr kp : AV → St → Bool} (hk : kr (.raw (.bool (hasB b c))) s = true) : (sem Tryz.prog).call 135 [.str b, .str [c]] s kr kp = true := by
  refine w_call H 9 fn_135 rfl rfl ?_
  unfold hasB at hk
  cases h : findByte b c 0 with
  | some i =>
    rw [h] at hk
    have e0 : idxI b c = (i : Int) := by simp [idxI, h]
    have e1 : decide ((i : Int) ≥ 0) = true := by simp
    repeat (first | with_reducible (refine w_one H ?_; constructor) | simp only [rB, rP, rQ, boolA, intA, resultA, resA, reduceIte, reduceCtorEq, Nat.reduceAdd, Nat.reduceLT, Nat.reduceEqDiff, UInt8.reduceToNat, pe3, pf3, e0, e1, b_ge, Tryz.results135] | (with_reducible refine sindex_c H hc ?_))
    exact hk
  | none =>
    rw [h] at hk
    have e0 : idxI b c = -1 := by simp [idxI, h]
    have e1 : decide ((-1 : Int) ≥ 0) = false := by decide
    repeat (first | with_reducible (refine w_one H ?_; constructor) | simp only [rB, rP, rQ, boolA, intA, resultA, resA, reduceIte, reduceCtorEq, Nat.reduceAdd, Nat.reduceLT, Nat.reduceEqDiff, UInt8.reduceToNat, pe3, pf3, e0, e1, b_ge, Tryz.results135] | (with_reducible refine sindex_c H hc ?_))
    exact hk
def targetB (b : List Nat) : Bool := Nat.ble 1 b.length && (Nat.ble b.length 64 && !hasB b 0)
theorem target_c {s : St} (H : Ok TE Tryz.prog pr3) {b : List Nat} {kr kp : AV → St → Bool} (hk : kr (.raw (.bool (targetB b))) s = true) : (sem Tryz.prog).call 100 [.str b] s kr kp = true := by
  refine w_call H 16 fn_100 rfl rfl ?_
  unfold targetB at hk
  by_cases h1 : 1 ≤ b.length
  · have e1 : decide ((b.length : Int) ≥ 1) = true := by rw [decide_eq_true_eq]; omega
    rw [Nat.ble_eq.mpr h1, Bool.true_and] at hk
    by_cases h2 : b.length ≤ 64
    · have e2 : decide ((b.length : Int) ≤ 64) = true := by rw [decide_eq_true_eq]; omega
      rw [Nat.ble_eq.mpr h2, Bool.true_and] at hk
      repeat (first | with_reducible (refine w_one H ?_; constructor) | simp only [rB, rP, rQ, boolA, intA, resultA, resA, reduceIte, reduceCtorEq, Nat.reduceAdd, Nat.reduceLT, Nat.reduceEqDiff, UInt8.reduceToNat, pe3, pf3, len_str, b_le, b_ge, e1, e2, Tryz.results100] | (with_reducible refine contains_c H (by decide) ?_))
      exact hk
    · have e2 : decide ((b.length : Int) ≤ 64) = false := by rw [decide_eq_false_iff_not]; omega
      have e2' : Nat.ble b.length 64 = false := by rw [← Bool.not_eq_true, Nat.ble_eq]; exact h2
      rw [e2', Bool.false_and] at hk
      repeat (first | with_reducible (refine w_one H ?_; constructor) | simp only [rB, rP, rQ, boolA, intA, resultA, resA, reduceIte, reduceCtorEq, Nat.reduceAdd, Nat.reduceLT, Nat.reduceEqDiff, UInt8.reduceToNat, pe3, pf3, len_str, b_le, b_ge, e1, e2, Tryz.results100])
      exact hk
  · have e1 : decide ((b.length : Int) ≥ 1) = false := by rw [decide_eq_false_iff_not]; omega
    have e1' : Nat.ble 1 b.length = false := by rw [← Bool.not_eq_true, Nat.ble_eq]; exact h1
    rw [e1', Bool.false_and] at hk
    repeat (first | with_reducible (refine w_one H ?_; constructor) | simp only [rB, rP, rQ, boolA, intA, resultA, resA, reduceIte, reduceCtorEq, Nat.reduceAdd, Nat.reduceLT, Nat.reduceEqDiff, UInt8.reduceToNat, pe3, pf3, len_str, b_le, b_ge, e1, Tryz.results100])
    exact hk
end Go.AX
namespace Go.AX
open Go.Proofs Go.RowKit
set_option maxRecDepth 1000000
set_option linter.unusedSimpArgs false
def setK (p : List Nat) (j : Nat) : List (List Nat × Nat) → List (List Nat × Nat)
  | [] => [(p, j)]
  | (q, i) :: l => bif eqB p q then (p, j) :: l else (q, i) :: setK p j l
theorem setL_kids {p : List Nat} {j : Nat} : ∀ (l : List (List Nat × Nat)), lookK p l ≠ none → setL (kidsA l) (l.findIdx fun q => eqB p q.1) (.str p, .ptr j 0) = kidsA (setK p j l)
  | [], h => absurd rfl h
  | (q, i) :: l, h => by
    simp only [lookK] at h
    simp only [kidsA, List.map_cons, List.findIdx_cons, setK]
    cases he : eqB p q with
    | true => simp only [cond_true, setL, List.map_cons]
    | false =>
      rw [he] at h
      have ih := setL_kids (j := j) l h
      simp only [kidsA] at ih
      simp only [cond_false, setL, ih, List.map_cons]
theorem appL_kids {p : List Nat} {j : Nat} : ∀ (l : List (List Nat × Nat)), lookK p l = none → kidsA l ++ [(.str p, .ptr j 0)] = kidsA (setK p j l)
  | [], _ => (rfl)
  | (q, i) :: l, h => by
    simp only [lookK] at h
    cases he : eqB p q with
    | true => rw [he] at h; cases h
    | false =>
      rw [he] at h
      have ih := appL_kids (j := j) l h
      simp only [kidsA] at ih
      simp only [kidsA, List.map_cons, setK, he, cond_false, List.cons_append, ih]
theorem up_kid {s : St} {mp : Nat} {kids : List (List Nat × Nat)} {p : List Nat} {j : Nat} (h : s.h.get mp = some (.map (kidsA kids))) : mapUpdateA TE s 115 (.map mp) (.str p) (.ptr j 0) = some { s with h := s.h.set mp (.map (kidsA (setK p j kids))) } := by
  have e : mapUpdateA TE s 115 (.map mp) (.str p) (.ptr j 0) = (match s.h.get mp with
      | some (.map es) => match findK .string (.str p) es 0 with
            | some (some (i, _)) => some { s with h := s.h.set mp (.map (setL es i (.str p, .ptr j 0))) }
            | some none => some { s with h := s.h.set mp (.map (es ++ [(.str p, .ptr j 0)])) }
            | none => none
      | _ => none) := by kernel_rfl
  rw [e, h]
  simp only [findK_kids]
  cases hl : lookK p kids with
  | none => simp only [appL_kids kids hl]
  | some i => simp only [Nat.zero_add, setL_kids kids (by rw [hl]; simp)]
theorem add_c {s : St} (H : Ok TE Tryz.prog pr3) (hB : Below0 s) {u j : Nat} {ud kd : Nd} (hu : NRep s u ud) (hj : s.h.get j = some (ndA kd)) (huj : u ≠ j) {nm : List Nat} {kr kp : AV → St → Bool}
    (hk : ∀ s', s'.nx = s.nx → Chg s s' [(j, ndA { kd with up := some u, name := nm }), (ud.mp, .map (kidsA (setK nm j ud.kids)))] → Below0 s' → kr (.ptr j 0) s' = true) :
    (sem Tryz.prog).call 93 [.ptr u 0, .str nm, .ptr j 0] s kr kp = true := by
  refine w_call H 22 fn_93 rfl rfl ?_
  have hu1 := hu.1
  have hu2 := hu.2
  have hjm : j ≠ ud.mp := by
    intro hh
    rw [hh, hu2] at hj
    cases hj
  have v1 : (u = j) = False := by simp [huj]
  have v2 : (ud.mp = j) = False := by simp; exact fun hh => hjm hh.symm
  have v3 : (j = ud.mp) = False := by simp [hjm]
  let s2 : St := { s with h := (s.h.set j (ndA { kd with up := some u })).set j (ndA { kd with up := some u, name := nm }) }
  have hm2 : s2.h.get ud.mp = some (.map (kidsA ud.kids)) := (hs_ne (fun hh => hjm hh.symm)).trans ((hs_ne (fun hh => hjm hh.symm)).trans hu2)
  have up := up_kid (p := nm) (j := j) hm2
  simp only [s2, ndA, upA] at up
  repeat (first | with_reducible (refine w_one H ?_; constructor) | simp only [rB, rP, rQ, boolA, intA, resultA, resA, reduceIte, reduceCtorEq, Nat.reduceAdd, Nat.reduceLT, Nat.reduceEqDiff, UInt8.reduceToNat, pe3, pf3, fa_3, fa_4, fa_5, ld_115, st_112, st_9, hu1, hj, ndA, v1, v2, v3, up, Tryz.results93])
  refine hk _ rfl ⟨Nat.le_refl _, ?_, ?_⟩ (below_set (below_set (below_set hB (hB _ _ hj) _) (hB _ _ hj) _) (hB _ _ hu2) _)
  · intro q hq
    simp only [List.mem_cons, List.not_mem_nil, or_false] at hq
    rcases hq with rfl | rfl
    · exact (hs_ne hjm).trans hs_same
    · exact hs_same
  · intro q hq hn
    have g1 := hn _ List.mem_cons_self
    have g2 := hn _ (List.mem_cons_of_mem _ List.mem_cons_self)
    exact (hs_ne g2).trans ((hs_ne g1).trans (hs_ne g1))
end Go.AX
namespace Go.AX
open Go.Proofs Go.RowKit
set_option maxRecDepth 1000000
set_option linter.unusedSimpArgs false
theorem run_nnn {i : Nat} : pureRun TE.P (do let r ← (do eqGuard .neq 112 (.tmp i) (.const (.pointer none)) (.pointer none) (.pointer none); binOp .neq 112 (.pointer none) (.pointer none)); pure (Next.value r)) = some (.value (.bool false)) := by kernel_rfl
theorem pu_nnn {a : Ac} {dst : Option Tmp} {i : Nat} {ty : TypeId} {pos : String} {after : Array Edge} (hx : isNilP (a.eval (.tmp i)) = true) :
    stepPure TE a ⟨dst, .binOp .neq 112 (.tmp i) (.const (.pointer none)) 112, ty, pos, after, none⟩ = some (.raw (.bool false), []) := by
  have hx := isNilP_of hx
  have h1 : valAt a (.tmp i) = .pointer none := by simp [valAt, hx, toVal]
  have h2 : valAt a (.const (.pointer none)) = .pointer none := rfl
  have hall : (Op.operands (.binOp .neq 112 (.tmp i) (.const (.pointer none)) 112)).toList.all (fun x => (toVal (a.eval x)).isSome) = true := by
    show (List.all [.tmp i, .const (.pointer none)] (fun x => (toVal (a.eval x)).isSome)) = true
    simp only [List.all_cons, List.all_nil, hx]
    rfl
  have hr : pureRun TE.P (execOp (valAt a) ⟨dst, .binOp .neq 112 (.tmp i) (.const (.pointer none)) 112, ty, pos, after, none⟩) = some (.value (.bool false)) := by
    have he : execOp (valAt a) ⟨dst, .binOp .neq 112 (.tmp i) (.const (.pointer none)) 112, ty, pos, after, none⟩ = (do let r ← (do eqGuard .neq 112 (.tmp i) (.const (.pointer none)) (.pointer none) (.pointer none); binOp .neq 112 (.pointer none) (.pointer none)); pure (.value r)) := by
      simp only [execOp, h1, h2]
    rw [he]
    exact run_nnn
  simp only [stepPure, hall, cond_true, hr]
  rfl
theorem ns_nn {s : St} {d : Option (AV × List Nat)} : eqS TE s .neq 112 (.raw (.pointer none)) (.raw (.pointer none)) d = d := by kernel_rfl
end Go.AX
namespace Go.AX
open Go.Proofs Go.RowKit
set_option maxRecDepth 1000000
set_option linter.unusedSimpArgs false
theorem rs79 {t : Tr AV} {m : Nat} {s : St} : resultA TE Tryz.f58 ⟨t, m, []⟩ s = some (.tuple []) := by
  simp only [resultA, Tryz.results58]
  rfl
theorem b_in {t : TypeId} {v u : AV} : binFast .neq (.iface t v) u = none := (rfl)
theorem b_nn {u : AV} : binFast .neq (.raw .nilIface) u = none := (rfl)
theorem ne_in {s : St} {t : TypeId} {v : AV} {d : Option (AV × List Nat)} : eqS TE s .neq 20 (.iface t v) (.raw .nilIface) d = some (.raw (.bool true), []) := by kernel_rfl
theorem ta_st {v : AV} : assertA TE (.iface 110 v) 110 true = some (.tuple [v, .raw (.bool true)]) := by kernel_rfl
theorem bd_s {n : Int} : buildA TE 38 [(0, .raw (.int .i64 n))] = some (.agg (anL n 0 0 0 [] nilS)) := by kernel_rfl
theorem ev_nili {a : Ac} : a.eval (.const .nilIface) = .raw .nilIface := (rfl)
theorem caught {s : St} (H : Ok TE Tryz.prog pr3) {fn : Func} {a : Ac} {kr kp : AV → St → Bool} {ds : List AD} {A : Nat} {n : Int} {st nu k m : Int} {d : List Nat} {N : AV} (hA : s.h.get A = some (.cells (anL st nu k m d N) 38 0))
    (hk : leaveA TE (sem Tryz.prog) fn a kr kp ds none { s with h := s.h.set A (.cells (anL n 0 0 0 [] nilS) 38 0) } = true) :
    leaveA TE (sem Tryz.prog) fn a kr kp (.call 58 [.ptr A 0] :: ds) (some (.iface 110 (.raw (.int .i64 n)))) s = true := by
  rw [k_leave_call 17 fn_58 rfl rfl]
  repeat (first | with_reducible (refine w_one H ?_; constructor) | simp only [rB, rP, rQ, boolA, intA, resultA, resA, reduceIte, reduceCtorEq, Nat.reduceAdd, Nat.reduceLT, Nat.reduceEqDiff, UInt8.reduceToNat, pe3, pf3, Option.map_some, cd_seq, cd_cond, dcond_bool, cd_ret, cd_skip, cd_rec, cd_mv, d_do, d_seqn, d_seqr, d_rec_nil, d_rec_assign, b_in, ne_in, ev_nili, ta_st, bd_s, st_an, stA_an, one_nilS, hA, leftOver, dl_normal rs79, dl_ret rs79])
  exact hk
theorem run_ii {i : Nat} : pureRun TE.P (do let r ← (do eqGuard .neq 20 (.tmp i) (.const .nilIface) .nilIface .nilIface; binOp .neq 20 .nilIface .nilIface); pure (Next.value r)) = some (.value (.bool false)) := by kernel_rfl
def isNilI : AV → Bool
  | .raw .nilIface => true
  | _ => false
theorem nili : isNilI (.raw .nilIface) = true := (rfl)
theorem pu_ii {a : Ac} {dst : Option Tmp} {i : Nat} {ty : TypeId} {pos : String} {after : Array Edge} (hx : isNilI (a.eval (.tmp i)) = true) :
    stepPure TE a ⟨dst, .binOp .neq 20 (.tmp i) (.const .nilIface) 20, ty, pos, after, none⟩ = some (.raw (.bool false), []) := by
  have hx : a.eval (.tmp i) = .raw .nilIface := by
    unfold isNilI at hx
    split at hx
    · assumption
    · cases hx
  have h1 : valAt a (.tmp i) = .nilIface := by simp [valAt, hx, toVal]
  have h2 : valAt a (.const .nilIface) = .nilIface := rfl
  have hall : (Op.operands (.binOp .neq 20 (.tmp i) (.const .nilIface) 20)).toList.all (fun x => (toVal (a.eval x)).isSome) = true := by
    show (List.all [.tmp i, .const .nilIface] (fun x => (toVal (a.eval x)).isSome)) = true
    simp only [List.all_cons, List.all_nil, hx]
    rfl
  have hr : pureRun TE.P (execOp (valAt a) ⟨dst, .binOp .neq 20 (.tmp i) (.const .nilIface) 20, ty, pos, after, none⟩) = some (.value (.bool false)) := by
    have he : execOp (valAt a) ⟨dst, .binOp .neq 20 (.tmp i) (.const .nilIface) 20, ty, pos, after, none⟩ = (do let r ← (do eqGuard .neq 20 (.tmp i) (.const .nilIface) .nilIface .nilIface; binOp .neq 20 .nilIface .nilIface); pure (.value r)) := by
      simp only [execOp, h1, h2]
    rw [he]
    exact run_ii
  simp only [stepPure, hall, cond_true, hr]
  rfl
theorem ne_ii {s : St} {d : Option (AV × List Nat)} : eqS TE s .neq 20 (.raw .nilIface) (.raw .nilIface) d = d := by kernel_rfl
theorem passed {s : St} (H : Ok TE Tryz.prog pr3) {fn : Func} {a : Ac} {kr kp : AV → St → Bool} {ds : List AD} {A : Nat} (hk : leaveA TE (sem Tryz.prog) fn a kr kp ds none s = true) :
    leaveA TE (sem Tryz.prog) fn a kr kp (.call 58 [.ptr A 0] :: ds) none s = true := by
  rw [k_leave_call 17 fn_58 rfl rfl]
  repeat (first | with_reducible (refine w_one H ?_; constructor) | simp only [rB, rP, rQ, boolA, intA, resultA, resA, reduceIte, reduceCtorEq, Nat.reduceAdd, Nat.reduceLT, Nat.reduceEqDiff, UInt8.reduceToNat, pe3, pf3, Option.map_none, cd_seq, cd_cond, dcond_bool, cd_ret, cd_skip, cd_rec0, cd_mv, d_do, d_seqn, d_seqr, d_rec_nil, d_rec_assign, b_nn, ne_ii, pu_ii, nili, ev_nili, leftOver, dl_normal rs79, dl_ret rs79])
  exact hk
end Go.AX
namespace Go.AX
open Go.Proofs Go.RowKit
set_option maxRecDepth 1000000
set_option linter.unusedSimpArgs false
def freeF : List (Option Nat) → Nat → Option Nat
  | [], _ => none
  | none :: _, i => some i
  | some _ :: l, i => freeF l (i + 1)
end Go.AX
namespace Go.AX
open Go.Proofs Go.RowKit
set_option maxRecDepth 1000000
set_option linter.unusedSimpArgs false
def trA (root cwd : Nat) (fds : List (Option Nat)) (many : Int) : AO := .cells (.ptr root 0 :: .ptr cwd 0 :: (fds.map upA ++ [.raw (.int .i64 many)])) 120 0
end Go.AX
namespace Go.AX
open Go.Proofs Go.RowKit
set_option maxRecDepth 1000000
set_option linter.unusedSimpArgs false
def fdT (fds : List (Option Nat)) (fd : Int) : Option Nat := bif decide (fd < 0) || decide (fd ≥ 8) then none else fds.getD fd.toNat none
end Go.AX
namespace Go.AX
open Go.Proofs Go.RowKit
set_option maxRecDepth 1000000
set_option linter.unusedSimpArgs false
def belowT (T : Nodes) (top : Nat) : Nat → Nat → Option Bool
  | 0, _ => none
  | f + 1, i => match T i with
    | none => none
    | some nd => bif Nat.beq i top then some true else match nd.up with
      | none => some false
      | some u => belowT T top f u
theorem ns_pn {s : St} {i j : Nat} {d : Option (AV × List Nat)} : eqS TE s .neq 112 (.ptr i j) (.raw (.pointer none)) d = some (.raw (.bool true), []) := by kernel_rfl
theorem below_c {s : St} (H : Ok TE Tryz.prog pr3) {T : Nodes} (hT : RepT s T) {f i top : Nat} {td : Nd} (htop : T top = some td) {b : Bool} {kr kp : AV → St → Bool} (h : belowT T top f i = some b) (hk : kr (.raw (.bool b)) s = true) : (sem Tryz.prog).call 107 [.ptr i 0, .ptr top 0] s kr kp = true := by
  refine w_call H 14 fn_107 rfl rfl ?_
  repeat (first | with_reducible (refine w_one H ?_; constructor) | simp only [rB, rP, rQ, boolA, intA, resultA, resA, reduceIte, reduceCtorEq, Nat.reduceAdd, Nat.reduceLT, Nat.reduceEqDiff, UInt8.reduceToNat, pe3, pf3])
  refine w_loop_ind H (fun n t s' => ∃ (g : Nat) (o : Option Nat), n = g ∧ s' = s ∧ tg t 0 = upA o ∧ tg t 1 = .ptr top 0 ∧ (match o with | none => some false | some u => belowT T top g u) = some b)
    ⟨f, some i, rfl, rfl, by simp only [rB, rP, rQ, boolA, intA, resultA, resA, reduceIte, reduceCtorEq, Nat.reduceAdd, Nat.reduceLT, Nat.reduceEqDiff, UInt8.reduceToNat, upA], by simp only [rB, rP, rQ, boolA, intA, resultA, resA, reduceIte, reduceCtorEq, Nat.reduceAdd, Nat.reduceLT, Nat.reduceEqDiff, UInt8.reduceToNat], h⟩ ?_
  rintro n t s' ih ⟨g, o, rfl, rfl, t0, t1, hb⟩
  cases o with
  | none =>
    cases hb
    simp only [upA] at t0
    repeat (first | with_reducible (refine w_one H ?_; constructor) | simp only [rB, rP, rQ, boolA, intA, resultA, resA, reduceIte, reduceCtorEq, Nat.reduceAdd, Nat.reduceLT, Nat.reduceEqDiff, UInt8.reduceToNat, pe3, pf3, t0, t1, b_npn, ns_nn, pu_nnn, nil_nil, Tryz.results107])
    exact hk
  | some u =>
    simp only [upA] at t0
    cases n with
    | zero => cases hb
    | succ g =>
      simp only [belowT] at hb
      cases hu : T u with
      | none => rw [hu] at hb; cases hb
      | some nd =>
        rw [hu] at hb
        simp only at hb
        have hn := (hT u nd hu).1
        have ht := (hT top td htop).1
        have ep := fun {d} => eq_pp (d := d) hn ht
        have ii : idsIn s' [u, top] = true := by simp [idsIn, hn, ht]
        cases hq : Nat.beq u top with
        | true =>
          rw [hq] at hb ep
          cases hb
          repeat (first | with_reducible (refine w_one H ?_; constructor) | simp only [rB, rP, rQ, boolA, intA, resultA, resA, reduceIte, reduceCtorEq, Nat.reduceAdd, Nat.reduceLT, Nat.reduceEqDiff, UInt8.reduceToNat, pe3, pf3, t0, t1, b_ppn, ns_pn, b_pp, ep, ii, Tryz.results107])
          exact hk
        | false =>
          rw [hq] at hb ep
          repeat (first | with_reducible (refine w_one H ?_; constructor) | simp only [rB, rP, rQ, boolA, intA, resultA, resA, reduceIte, reduceCtorEq, Nat.reduceAdd, Nat.reduceLT, Nat.reduceEqDiff, UInt8.reduceToNat, pe3, pf3, t0, t1, b_ppn, ns_pn, b_pp, ep, ii, fa_4, ld_112, hn, ndA])
          exact ih g _ _ (by omega) ⟨g, nd.up, rfl, rfl, by simp only [rB, rP, rQ, boolA, intA, resultA, resA, reduceIte, reduceCtorEq, Nat.reduceAdd, Nat.reduceLT, Nat.reduceEqDiff, UInt8.reduceToNat], by simp only [rB, rP, rQ, boolA, intA, resultA, resA, reduceIte, reduceCtorEq, Nat.reduceAdd, Nat.reduceLT, Nat.reduceEqDiff, UInt8.reduceToNat, t1], by cases hup : nd.up with | none => rw [hup] at hb; exact hb | some v => rw [hup] at hb; exact hb⟩
end Go.AX
namespace Go.AX
open Go.Proofs Go.RowKit
set_option maxRecDepth 1000000
set_option linter.unusedSimpArgs false
theorem rn1_c {s : St} (H : Ok TE Tryz.prog pr3) (hB : Below0 s) {dA lA dp lg : Nat} (hd : s.h.get dA = some (.cells [.raw (.int .i64 (dp : Int))] 3 0)) (hl : s.h.get lA = some (.cells [.raw (.int .i64 (lg : Int))] 3 0)) (h1 : dp ≤ 1000) (h2 : lg ≤ 100000) {q : List Nat} (hq1 : q.length ≤ 1000) (hq2 : (partsL q).length ≤ 1000) {v : AV} {kr kp : AV → St → Bool}
    (hk : ∀ s', fitsB (dp + (partsL q).length) (lg + 1 + q.length) = true → Ext s s' → Below0 s' → kr (.tuple []) s' = true)
    (hf : ∀ s', fitsB (dp + (partsL q).length) (lg + 1 + q.length) = false → Ext s s' → Below0 s' → kp (.iface 110 (.raw (.int .i64 8))) s' = true) :
    (sem Tryz.prog).call 108 [.str q, v, .ptr dA 0, .ptr lA 0] s kr kp = true := by
  refine w_call H 19 fn_108 rfl rfl ?_
  have ep := fun {r a dst k kp} => c3_parts (r := r) (a := a) (dst := dst) (s := s) (k := k) (kp := kp) (b := q) hq1
  have e1 : IntKind.i64.wrap ((dp : Int) + ((partsL q).length : Int)) = ((dp + (partsL q).length : Nat) : Int) := by
    rw [show (dp : Int) + ((partsL q).length : Int) = ((dp + (partsL q).length : Nat) : Int) from by simp]
    exact wrap_nat (by omega)
  have e2 : IntKind.i64.wrap ((lg : Int) + 1) = ((lg + 1 : Nat) : Int) := by
    rw [show (lg : Int) + 1 = ((lg + 1 : Nat) : Int) from by simp]
    exact wrap_nat (by omega)
  have e3 : IntKind.i64.wrap (((lg + 1 : Nat) : Int) + (q.length : Int)) = ((lg + 1 + q.length : Nat) : Int) := by
    rw [show ((lg + 1 : Nat) : Int) + (q.length : Int) = ((lg + 1 + q.length : Nat) : Int) from by simp]
    exact wrap_nat (by omega)
  have hV := SlV.mk (s := s) (names := partsL q)
  have hE := mkSl_ext (s := s) (names := partsL q)
  have hB1 := mkSl_below (names := partsL q) hB
  have hd' := (hE.2 dA (hB _ _ hd)).trans hd
  have hl' := (hE.2 lA (hB _ _ hl)).trans hl
  generalize (mkSl 9 (partsL q) s).1 = V at *
  generalize (mkSl 9 (partsL q) s).2 = s1 at *
  have vl := hV.len
  have vi := hV.ids
  cases hfit : fitsB (dp + (partsL q).length) (lg + 1 + q.length) with
  | false =>
    repeat (first | with_reducible (refine w_one H ?_; constructor) | simp only [rB, rP, rQ, boolA, intA, resultA, resA, reduceIte, reduceCtorEq, Nat.reduceAdd, Nat.reduceLT, Nat.reduceEqDiff, UInt8.reduceToNat, pe3, pf3, ld_3, hd, hl, hd', hl', ep, vl, vi, b_plus, len_str, intA, sp_len, e1, e2, e3, hfit] | (with_reducible refine w_plan H (i := 0) (.take 0 (.take 1 (.take 5 (.take 6 (.take 7 (.take 8 (.take 9 (.alt 2 [1] (.take 3 (.take 4 (.alt 10 [0, 1, 2, 3, 4, 5, 6, 7, 8, 9] (.take 11 (.alt 12 [0, 1, 2, 3, 4, 5, 6, 7, 8, 9, 10, 11] (.done) (.yes))) (.yes)))) (.yes))))))))) rfl (by kernel_rfl) ?_) | (with_reducible refine fits_c H ?_) | (with_reducible refine fail_yes H ?_))
    exact hf _ hfit hE hB1
  | true =>
    repeat (first | with_reducible (refine w_one H ?_; constructor) | simp only [rB, rP, rQ, boolA, intA, resultA, resA, reduceIte, reduceCtorEq, Nat.reduceAdd, Nat.reduceLT, Nat.reduceEqDiff, UInt8.reduceToNat, pe3, pf3, ld_3, hd, hl, hd', hl', ep, vl, vi, b_plus, len_str, intA, sp_len, e1, e2, e3, hfit, Tryz.results108] | (with_reducible refine w_plan H (i := 0) (.take 0 (.take 1 (.take 5 (.take 6 (.take 7 (.take 8 (.take 9 (.alt 2 [1] (.take 3 (.take 4 (.alt 10 [0, 1, 2, 3, 4, 5, 6, 7, 8, 9] (.take 11 (.alt 12 [0, 1, 2, 3, 4, 5, 6, 7, 8, 9, 10, 11] (.done) (.yes))) (.yes)))) (.yes))))))))) rfl (by kernel_rfl) ?_) | (with_reducible refine fits_c H ?_) | (with_reducible refine fail_no H ?_))
    exact hk _ hfit hE hB1
def eachL (dp lg : Nat) (below : Nat → List Nat → Option Bool) (kids : List (List Nat × Nat)) (p : List Nat) : List (List Nat) → Option Bool
  | [] => some true
  | nm :: l => match lookK nm kids with
    | none => none
    | some j => bif Nat.ble (joinP p nm).length 1000 && (Nat.ble (p.length + nm.length) 1000000 && Nat.ble (partsL (joinP p nm)).length 1000) then
      bif fitsB (dp + (partsL (joinP p nm)).length) (lg + 1 + (joinP p nm).length) then match below j (joinP p nm) with
        | none => none
        | some false => some false
        | some true => eachL dp lg below kids p l
      else some false
      else none
def eachT (T : Nodes) (dp lg : Nat) : Nat → Nat → List Nat → Option Bool
  | 0, _, _ => none
  | f + 1, i, p => match T i with
    | none => none
    | some nd => match sortK nd.kids with
      | none => none
      | some names => eachL dp lg (eachT T dp lg f) nd.kids p names
theorem each_c (H : Ok TE Tryz.prog pr3) {T : Nodes} {dA lA dp lg : Nat} (h1 : dp ≤ 1000) (h2 : lg ≤ 100000) : ∀ {f i : Nat} {p : List Nat} {b : Bool} {s : St} {kr kp : AV → St → Bool}, eachT T dp lg f i p = some b → RepT s T → Below0 s → s.h.get dA = some (.cells [.raw (.int .i64 (dp : Int))] 3 0) → s.h.get lA = some (.cells [.raw (.int .i64 (lg : Int))] 3 0) →
    (∀ s', b = true → Ext s s' → Below0 s' → kr (.tuple []) s' = true) → (∀ s', b = false → Ext s s' → Below0 s' → kp (.iface 110 (.raw (.int .i64 8))) s' = true) →
    (sem Tryz.prog).call 85 [.ptr i 0, .str p, .fn 108 [.ptr dA 0, .ptr lA 0]] s kr kp = true
  | 0, _, _, _, _, _, _, h, _, _, _, _, _, _ => by cases h
  | f + 1, i, p, b, s, kr, kp, h, hT, hB, hd, hl, hk, hf => by
    simp only [eachT] at h
    cases hi : T i with
    | none => rw [hi] at h; cases h
    | some nd =>
    rw [hi] at h
    simp only at h
    cases hso : sortK nd.kids with
    | none => rw [hso] at h; cases h
    | some names =>
    rw [hso] at h
    simp only at h
    refine w_call H 38 fn_85 rfl rfl ?_
    repeat (first | with_reducible (refine w_one H ?_; constructor) | simp only [rB, rP, rQ, boolA, intA, resultA, resA, reduceIte, reduceCtorEq, Nat.reduceAdd, Nat.reduceLT, Nat.reduceEqDiff, UInt8.reduceToNat, pe3, pf3])
    refine names_c H hB (hT i nd hi) hso (fun V s1 hV hE hB1 => ?_)
    have vl := hV.len
    have vi := hV.ids
    have hlen : names.length ≤ 1000000 := by
      unfold sortK at hso
      cases hc : (incB (sortL (nd.kids.map (·.1))) && Nat.ble (sortL (nd.kids.map (·.1))).length 1000000 && shortL (sortL (nd.kids.map (·.1)))) with
      | false => rw [hc] at hso; cases hso
      | true =>
        rw [hc] at hso
        simp only [cond_true, Option.some.injEq] at hso
        subst hso
        simp only [Bool.and_eq_true] at hc
        exact Nat.le_of_ble_eq_true hc.1.2
    repeat (first | with_reducible (refine w_one H ?_; constructor) | simp only [rB, rP, rQ, boolA, intA, resultA, resA, reduceIte, reduceCtorEq, Nat.reduceAdd, Nat.reduceLT, Nat.reduceEqDiff, UInt8.reduceToNat, pe3, pf3, vl, vi])
    refine w_loop_ind H (fun n t s' => ∃ (k : Nat), n + k = names.length ∧ tg t 0 = .ptr i 0 ∧ tg t 1 = .str p ∧ tg t 2 = .fn 108 [.ptr dA 0, .ptr lA 0] ∧ tg t 10 = V ∧ tg t 11 = .raw (.int .i64 (names.length : Int)) ∧ tg t 12 = .raw (.int .i64 (k : Int)) ∧ Ext s1 s' ∧ Below0 s' ∧ eachL dp lg (eachT T dp lg f) nd.kids p (names.drop k) = some b)
      ⟨0, rfl, by simp only [rB, rP, rQ, boolA, intA, resultA, resA, reduceIte, reduceCtorEq, Nat.reduceAdd, Nat.reduceLT, Nat.reduceEqDiff, UInt8.reduceToNat], by simp only [rB, rP, rQ, boolA, intA, resultA, resA, reduceIte, reduceCtorEq, Nat.reduceAdd, Nat.reduceLT, Nat.reduceEqDiff, UInt8.reduceToNat], by simp only [rB, rP, rQ, boolA, intA, resultA, resA, reduceIte, reduceCtorEq, Nat.reduceAdd, Nat.reduceLT, Nat.reduceEqDiff, UInt8.reduceToNat], by simp only [rB, rP, rQ, boolA, intA, resultA, resA, reduceIte, reduceCtorEq, Nat.reduceAdd, Nat.reduceLT, Nat.reduceEqDiff, UInt8.reduceToNat], by simp only [rB, rP, rQ, boolA, intA, resultA, resA, reduceIte, reduceCtorEq, Nat.reduceAdd, Nat.reduceLT, Nat.reduceEqDiff, UInt8.reduceToNat], by simp only [rB, rP, rQ, boolA, intA, resultA, resA, reduceIte, reduceCtorEq, Nat.reduceAdd, Nat.reduceLT, Nat.reduceEqDiff, UInt8.reduceToNat]; rfl, Ext.refl s1, hB1, h⟩ ?_
    rintro n t s2 ih ⟨k, hk0, t0, t1, t2, t10, t11, t12, hE2, hB2, hb⟩
    cases n with
    | zero =>
      have g0 : decide ((k : Int) < (names.length : Int)) = false := by rw [decide_eq_false_iff_not]; omega
      rw [List.drop_eq_nil_of_le (by omega)] at hb
      simp only [eachL, Option.some.injEq] at hb
      repeat (first | with_reducible (refine w_one H ?_; constructor) | simp only [rB, rP, rQ, boolA, intA, resultA, resA, reduceIte, reduceCtorEq, Nat.reduceAdd, Nat.reduceLT, Nat.reduceEqDiff, UInt8.reduceToNat, pe3, pf3, t0, t1, t2, t10, t11, t12, b_lt, g0, Tryz.results85])
      exact hk s2 hb.symm (hE.trans hE2) hB2
    | succ n =>
      have hlt : k < names.length := by omega
      have g0 : decide ((k : Int) < (names.length : Int)) = true := by rw [decide_eq_true_eq]; omega
      rw [List.drop_eq_getElem_cons hlt] at hb
      obtain ⟨id, o, x1, x2, ob, x3⟩ := (hV.ext hB1 hE2).idx (p := names[k]) (j := k) (List.getElem?_eq_getElem hlt)
      have x2' : ldO (s2.h.get id) o = some (.str names[k]) := by rw [← ldC_o]; exact x2
      have x4' : ∀ b, inO (s2.h.get id) b = b := fun b => by rw [x3]; rfl
      generalize names[k] = nm at *
      simp only [eachL] at hb
      have hT2 := (hT.ext hB hE).ext hB1 hE2
      obtain ⟨hn, hm⟩ := hT2 i nd hi
      have lk := lk_kid (p := nm) hm
      cases hlk : lookK nm nd.kids with
      | none => rw [hlk] at hb; cases hb
      | some j =>
      rw [hlk] at hb lk
      simp only at hb
      cases hbd : (Nat.ble (joinP p nm).length 1000 && (Nat.ble (p.length + nm.length) 1000000 && Nat.ble (partsL (joinP p nm)).length 1000)) with
      | false => rw [hbd] at hb; cases hb
      | true =>
      rw [hbd] at hb
      simp only [cond_true] at hb
      simp only [Bool.and_eq_true] at hbd
      have ej := fun {r a dst k kp} => c3_join (r := r) (a := a) (dst := dst) (s := s2) (k := k) (kp := kp) hbd.2.1
      have hE12 := hE.trans hE2
      have hd2 := (hE12.2 dA (hB _ _ hd)).trans hd
      have hl2 := (hE12.2 lA (hB _ _ hl)).trans hl
      repeat (first | with_reducible (refine w_one H ?_; constructor) | simp only [rB, rP, rQ, boolA, intA, resultA, resA, reduceIte, reduceCtorEq, Nat.reduceAdd, Nat.reduceLT, Nat.reduceEqDiff, UInt8.reduceToNat, pe3, pf3, t0, t1, t2, t10, t11, t12, b_lt, g0, x1, ld_9, x2', x4', ej, fa_3, ld_115, hn, hm, ndA, lk, kidA])
      refine rn1_c H hB2 hd2 hl2 h1 h2 (Nat.le_of_ble_eq_true hbd.1) (Nat.le_of_ble_eq_true hbd.2.2) (fun s3 hfit hE3 hB3 => ?_) (fun s3 hfit hE3 hB3 => ?_)
      · rw [hfit] at hb
        simp only [cond_true] at hb
        obtain ⟨hn3, hm3⟩ := (hT2.ext hB2 hE3) i nd hi
        have lk3 := lk_kid (p := nm) hm3
        rw [hlk] at lk3
        have hE13 := hE12.trans hE3
        repeat (first | with_reducible (refine w_one H ?_; constructor) | simp only [rB, rP, rQ, boolA, intA, resultA, resA, reduceIte, reduceCtorEq, Nat.reduceAdd, Nat.reduceLT, Nat.reduceEqDiff, UInt8.reduceToNat, pe3, pf3, t0, t1, t2, t10, t11, t12, fa_3, ld_115, hn3, hm3, ndA, lk3, kidA])
        cases hr : eachT T dp lg f j (joinP p nm) with
        | none => rw [hr] at hb; cases hb
        | some bb =>
        rw [hr] at hb
        refine each_c H h1 h2 hr (hT2.ext hB2 hE3) hB3 ((hE13.2 dA (hB _ _ hd)).trans hd) ((hE13.2 lA (hB _ _ hl)).trans hl) (fun s4 hbb hE4 hB4 => ?_) (fun s4 hbb hE4 hB4 => ?_)
        · subst hbb
          simp only at hb
          have ew : IntKind.i64.wrap ((k : Int) + 1) = ((k + 1 : Nat) : Int) := by
            rw [show (k : Int) + 1 = ((k + 1 : Nat) : Int) from by simp]
            exact wrap_nat (by omega)
          repeat (first | with_reducible (refine w_one H ?_; constructor) | simp only [rB, rP, rQ, boolA, intA, resultA, resA, reduceIte, reduceCtorEq, Nat.reduceAdd, Nat.reduceLT, Nat.reduceEqDiff, UInt8.reduceToNat, pe3, pf3, t0, t1, t2, t10, t11, t12, b_plus, ew])
          exact ih n _ _ (Nat.lt_succ_self n) ⟨k + 1, by omega, by simp only [rB, rP, rQ, boolA, intA, resultA, resA, reduceIte, reduceCtorEq, Nat.reduceAdd, Nat.reduceLT, Nat.reduceEqDiff, UInt8.reduceToNat, t0], by simp only [rB, rP, rQ, boolA, intA, resultA, resA, reduceIte, reduceCtorEq, Nat.reduceAdd, Nat.reduceLT, Nat.reduceEqDiff, UInt8.reduceToNat, t1], by simp only [rB, rP, rQ, boolA, intA, resultA, resA, reduceIte, reduceCtorEq, Nat.reduceAdd, Nat.reduceLT, Nat.reduceEqDiff, UInt8.reduceToNat, t2], by simp only [rB, rP, rQ, boolA, intA, resultA, resA, reduceIte, reduceCtorEq, Nat.reduceAdd, Nat.reduceLT, Nat.reduceEqDiff, UInt8.reduceToNat, t10], by simp only [rB, rP, rQ, boolA, intA, resultA, resA, reduceIte, reduceCtorEq, Nat.reduceAdd, Nat.reduceLT, Nat.reduceEqDiff, UInt8.reduceToNat, t11], by simp only [rB, rP, rQ, boolA, intA, resultA, resA, reduceIte, reduceCtorEq, Nat.reduceAdd, Nat.reduceLT, Nat.reduceEqDiff, UInt8.reduceToNat], (hE2.trans hE3).trans hE4, hB4, hb⟩
        · subst hbb
          simp only [Option.some.injEq] at hb
          repeat (first | with_reducible (refine w_one H ?_; constructor) | simp only [rB, rP, rQ, boolA, intA, resultA, resA, reduceIte, reduceCtorEq, Nat.reduceAdd, Nat.reduceLT, Nat.reduceEqDiff, UInt8.reduceToNat, pe3, pf3])
          exact hf s4 hb.symm (hE13.trans hE4) hB4
      · rw [hfit] at hb
        simp only [cond_false, Option.some.injEq] at hb
        repeat (first | with_reducible (refine w_one H ?_; constructor) | simp only [rB, rP, rQ, boolA, intA, resultA, resA, reduceIte, reduceCtorEq, Nat.reduceAdd, Nat.reduceLT, Nat.reduceEqDiff, UInt8.reduceToNat, pe3, pf3])
        exact hf s3 hb.symm (hE12.trans hE3) hB3
end Go.AX
