import Derived.Test.YtnkhohbgihfapaaGreatDoorOn2C1
import Derived.Test.YtnkhohbgihfapaaGreatDoorOn2A3
set_option linter.unusedVariables false
set_option linter.unusedSimpArgs false
set_option linter.defProp false
namespace Go.AX
open Go.Proofs Go.RowKit
set_option maxRecDepth 1000000
set_option linter.unusedSimpArgs false
def fitsB (n b : Nat) : Bool := Nat.ble n 8 && Nat.ble b 140
def hasB (b : List Nat) (c : Nat) : Bool := match findByte b c 0 with | some _ => true | none => false
theorem sindex_c {s : St} (H : Ok TE Tryz.prog pr3) {b : List Nat} {c : Nat} (hc : c < 256) {kr kp : AV → St → Bool} (hk : kr (.raw (.int .i64 (idxI b c))) s = true) : (sem Tryz.prog).call 164 [.str b, .str [c]] s kr kp = true := by
  refine w_call H 8 fn_164 rfl rfl ?_
  repeat (first | with_reducible (refine w_one H ?_; constructor) | simp only [rB, rP, rQ, boolA, intA, resultA, resA, reduceIte, reduceCtorEq, Nat.reduceAdd, Nat.reduceLT, Nat.reduceEqDiff, UInt8.reduceToNat, pe3, pf3, Tryz.results164] | (with_reducible refine index_c ok0 hc ?_))
  exact hk
theorem contains_c {s : St} (H : Ok TE Tryz.prog pr3) {b : List Nat} {c : Nat} (hc : c < 256) {kr kp : AV → St → Bool} (hk : kr (.raw (.bool (hasB b c))) s = true) : (sem Tryz.prog).call 128 [.str b, .str [c]] s kr kp = true := by
  refine w_call H 9 fn_128 rfl rfl ?_
  unfold hasB at hk
  cases h : findByte b c 0 with
  | some i =>
    rw [h] at hk
    have e0 : idxI b c = (i : Int) := by simp [idxI, h]
    have e1 : decide ((i : Int) ≥ 0) = true := by simp
    repeat (first | with_reducible (refine w_one H ?_; constructor) | simp only [rB, rP, rQ, boolA, intA, resultA, resA, reduceIte, reduceCtorEq, Nat.reduceAdd, Nat.reduceLT, Nat.reduceEqDiff, UInt8.reduceToNat, pe3, pf3, e0, e1, b_ge, Tryz.results128] | (with_reducible refine sindex_c H hc ?_))
    exact hk
  | none =>
    rw [h] at hk
    have e0 : idxI b c = -1 := by simp [idxI, h]
    have e1 : decide ((-1 : Int) ≥ 0) = false := by decide
    repeat (first | with_reducible (refine w_one H ?_; constructor) | simp only [rB, rP, rQ, boolA, intA, resultA, resA, reduceIte, reduceCtorEq, Nat.reduceAdd, Nat.reduceLT, Nat.reduceEqDiff, UInt8.reduceToNat, pe3, pf3, e0, e1, b_ge, Tryz.results128] | (with_reducible refine sindex_c H hc ?_))
    exact hk
def targetB (b : List Nat) : Bool := Nat.ble 1 b.length && (Nat.ble b.length 64 && !hasB b 0)
theorem target_c {s : St} (H : Ok TE Tryz.prog pr3) {b : List Nat} {kr kp : AV → St → Bool} (hk : kr (.raw (.bool (targetB b))) s = true) : (sem Tryz.prog).call 79 [.str b] s kr kp = true := by
  refine w_call H 16 fn_79 rfl rfl ?_
  unfold targetB at hk
  by_cases h1 : 1 ≤ b.length
  · have e1 : decide ((b.length : Int) ≥ 1) = true := by rw [decide_eq_true_eq]; omega
    rw [Nat.ble_eq.mpr h1, Bool.true_and] at hk
    by_cases h2 : b.length ≤ 64
    · have e2 : decide ((b.length : Int) ≤ 64) = true := by rw [decide_eq_true_eq]; omega
      rw [Nat.ble_eq.mpr h2, Bool.true_and] at hk
      repeat (first | with_reducible (refine w_one H ?_; constructor) | simp only [rB, rP, rQ, boolA, intA, resultA, resA, reduceIte, reduceCtorEq, Nat.reduceAdd, Nat.reduceLT, Nat.reduceEqDiff, UInt8.reduceToNat, pe3, pf3, len_str, b_le, b_ge, e1, e2, Tryz.results79] | (with_reducible refine contains_c H (by decide) ?_))
      exact hk
    · have e2 : decide ((b.length : Int) ≤ 64) = false := by rw [decide_eq_false_iff_not]; omega
      have e2' : Nat.ble b.length 64 = false := by rw [← Bool.not_eq_true, Nat.ble_eq]; exact h2
      rw [e2', Bool.false_and] at hk
      repeat (first | with_reducible (refine w_one H ?_; constructor) | simp only [rB, rP, rQ, boolA, intA, resultA, resA, reduceIte, reduceCtorEq, Nat.reduceAdd, Nat.reduceLT, Nat.reduceEqDiff, UInt8.reduceToNat, pe3, pf3, len_str, b_le, b_ge, e1, e2, Tryz.results79])
      exact hk
  · have e1 : decide ((b.length : Int) ≥ 1) = false := by rw [decide_eq_false_iff_not]; omega
    have e1' : Nat.ble 1 b.length = false := by rw [← Bool.not_eq_true, Nat.ble_eq]; exact h1
    rw [e1', Bool.false_and] at hk
    repeat (first | with_reducible (refine w_one H ?_; constructor) | simp only [rB, rP, rQ, boolA, intA, resultA, resA, reduceIte, reduceCtorEq, Nat.reduceAdd, Nat.reduceLT, Nat.reduceEqDiff, UInt8.reduceToNat, pe3, pf3, len_str, b_le, b_ge, e1, Tryz.results79])
    exact hk
end Go.AX
namespace Go.AX
open Go.Proofs Go.RowKit
set_option maxRecDepth 1000000
set_option linter.unusedSimpArgs false
def setK (p : List Nat) (j : Nat) : List (List Nat × Nat) → List (List Nat × Nat)
  | [] => [(p, j)]
  | (q, i) :: l => bif eqB p q then (p, j) :: l else (q, i) :: setK p j l
theorem setL_kids {p : List Nat} {j : Nat} : ∀ (l : List (List Nat × Nat)), lookK p l ≠ none → setL (kidsA l) (l.findIdx fun q => eqB p q.1) (.str p, .ptr j 0) = kidsA (setK p j l)
  | [], h => absurd rfl h
  | (q, i) :: l, h => by
    simp only [lookK] at h
    simp only [kidsA, List.map_cons, List.findIdx_cons, setK]
    cases he : eqB p q with
    | true => simp only [cond_true, setL, List.map_cons]
    | false =>
      rw [he] at h
      have ih := setL_kids (j := j) l h
      simp only [kidsA] at ih
      simp only [cond_false, setL, ih, List.map_cons]
theorem appL_kids {p : List Nat} {j : Nat} : ∀ (l : List (List Nat × Nat)), lookK p l = none → kidsA l ++ [(.str p, .ptr j 0)] = kidsA (setK p j l)
  | [], _ => (rfl)
  | (q, i) :: l, h => by
    simp only [lookK] at h
    cases he : eqB p q with
    | true => rw [he] at h; cases h
    | false =>
      rw [he] at h
      have ih := appL_kids (j := j) l h
      simp only [kidsA] at ih
      simp only [kidsA, List.map_cons, setK, he, cond_false, List.cons_append, ih]
theorem up_kid {s : St} {mp : Nat} {kids : List (List Nat × Nat)} {p : List Nat} {j : Nat} (h : s.h.get mp = some (.map (kidsA kids))) : mapUpdateA TE s 107 (.map mp) (.str p) (.ptr j 0) = some { s with h := s.h.set mp (.map (kidsA (setK p j kids))) } := by
  have e : mapUpdateA TE s 107 (.map mp) (.str p) (.ptr j 0) = (match s.h.get mp with
      | some (.map es) => match findK .string (.str p) es 0 with
            | some (some (i, _)) => some { s with h := s.h.set mp (.map (setL es i (.str p, .ptr j 0))) }
            | some none => some { s with h := s.h.set mp (.map (es ++ [(.str p, .ptr j 0)])) }
            | none => none
      | _ => none) := by kernel_rfl
  rw [e, h]
  simp only [findK_kids]
  cases hl : lookK p kids with
  | none => simp only [appL_kids kids hl]
  | some i => simp only [Nat.zero_add, setL_kids kids (by rw [hl]; simp)]
theorem add_c {s : St} (H : Ok TE Tryz.prog pr3) (hB : Below0 s) {u j : Nat} {ud kd : Nd} (hu : NRep s u ud) (hj : s.h.get j = some (ndA kd)) (huj : u ≠ j) {nm : List Nat} {kr kp : AV → St → Bool}
    (hk : ∀ s', s'.nx = s.nx → Chg s s' [(j, ndA { kd with up := some u, name := nm }), (ud.mp, .map (kidsA (setK nm j ud.kids)))] → Below0 s' → kr (.ptr j 0) s' = true) :
    (sem Tryz.prog).call 40 [.ptr u 0, .str nm, .ptr j 0] s kr kp = true := by
  refine w_call H 22 fn_40 rfl rfl ?_
  have hu1 := hu.1
  have hu2 := hu.2
  have hjm : j ≠ ud.mp := by
    intro hh
    rw [hh, hu2] at hj
    cases hj
  have v1 : (u = j) = False := by simp [huj]
  have v2 : (ud.mp = j) = False := by simp; exact fun hh => hjm hh.symm
  have v3 : (j = ud.mp) = False := by simp [hjm]
  let s2 : St := { s with h := (s.h.set j (ndA { kd with up := some u })).set j (ndA { kd with up := some u, name := nm }) }
  have hm2 : s2.h.get ud.mp = some (.map (kidsA ud.kids)) := (hs_ne (fun hh => hjm hh.symm)).trans ((hs_ne (fun hh => hjm hh.symm)).trans hu2)
  have up := up_kid (p := nm) (j := j) hm2
  simp only [s2, ndA, upA] at up
  repeat (first | with_reducible (refine w_one H ?_; constructor) | simp only [rB, rP, rQ, boolA, intA, resultA, resA, reduceIte, reduceCtorEq, Nat.reduceAdd, Nat.reduceLT, Nat.reduceEqDiff, UInt8.reduceToNat, pe3, pf3, fa_3, fa_4, fa_5, ld_107, st_103, st_9, hu1, hj, ndA, v1, v2, v3, up, Tryz.results40])
  refine hk _ rfl ⟨Nat.le_refl _, ?_, ?_⟩ (below_set (below_set (below_set hB (hB _ _ hj) _) (hB _ _ hj) _) (hB _ _ hu2) _)
  · intro q hq
    simp only [List.mem_cons, List.not_mem_nil, or_false] at hq
    rcases hq with rfl | rfl
    · exact (hs_ne hjm).trans hs_same
    · exact hs_same
  · intro q hq hn
    have g1 := hn _ List.mem_cons_self
    have g2 := hn _ (List.mem_cons_of_mem _ List.mem_cons_self)
    exact (hs_ne g2).trans ((hs_ne g1).trans (hs_ne g1))
end Go.AX
namespace Go.AX
open Go.Proofs Go.RowKit
set_option maxRecDepth 1000000
set_option linter.unusedSimpArgs false
end Go.AX
namespace Go.AX
open Go.Proofs Go.RowKit
set_option maxRecDepth 1000000
set_option linter.unusedSimpArgs false
theorem rs79 {t : Tr AV} {m : Nat} {s : St} : resultA TE Tryz.f52 ⟨t, m, []⟩ s = some (.tuple []) := by
  simp only [resultA, Tryz.results52]
  rfl
theorem b_in {t : TypeId} {v u : AV} : binFast .neq (.iface t v) u = none := (rfl)
theorem b_nn {u : AV} : binFast .neq (.raw .nilIface) u = none := (rfl)
theorem ne_in {s : St} {t : TypeId} {v : AV} {d : Option (AV × List Nat)} : eqS TE s .neq 20 (.iface t v) (.raw .nilIface) d = some (.raw (.bool true), []) := by kernel_rfl
theorem ta_st {v : AV} : assertA TE (.iface 130 v) 130 true = some (.tuple [v, .raw (.bool true)]) := by kernel_rfl
theorem bd_s {n : Int} : buildA TE 43 [(0, .raw (.int .i64 n))] = some (.agg (anL n 0 0 0 [] nilS)) := by kernel_rfl
theorem ev_nili {a : Ac} : a.eval (.const .nilIface) = .raw .nilIface := (rfl)
theorem caught {s : St} (H : Ok TE Tryz.prog pr3) {fn : Func} {a : Ac} {kr kp : AV → St → Bool} {ds : List AD} {A : Nat} {n : Int} {st nu k m : Int} {d : List Nat} {N : AV} (hA : s.h.get A = some (.cells (anL st nu k m d N) 43 0))
    (hk : leaveA TE (sem Tryz.prog) fn a kr kp ds none { s with h := s.h.set A (.cells (anL n 0 0 0 [] nilS) 43 0) } = true) :
    leaveA TE (sem Tryz.prog) fn a kr kp (.call 52 [.ptr A 0] :: ds) (some (.iface 130 (.raw (.int .i64 n)))) s = true := by
  rw [k_leave_call 17 fn_52 rfl rfl]
  repeat (first | with_reducible (refine w_one H ?_; constructor) | simp only [rB, rP, rQ, boolA, intA, resultA, resA, reduceIte, reduceCtorEq, Nat.reduceAdd, Nat.reduceLT, Nat.reduceEqDiff, UInt8.reduceToNat, pe3, pf3, Option.map_some, cd_seq, cd_cond, dcond_bool, cd_ret, cd_skip, cd_rec, cd_mv, d_do, d_seqn, d_seqr, d_rec_nil, d_rec_assign, b_in, ne_in, ev_nili, ta_st, bd_s, st_an, stA_an, one_nilS, hA, leftOver, dl_normal rs79, dl_ret rs79])
  exact hk
theorem run_ii {i : Nat} : pureRun TE.P (do let r ← (do eqGuard .neq 20 (.tmp i) (.const .nilIface) .nilIface .nilIface; binOp .neq 20 .nilIface .nilIface); pure (Next.value r)) = some (.value (.bool false)) := by kernel_rfl
def isNilI : AV → Bool
  | .raw .nilIface => true
  | _ => false
theorem nili : isNilI (.raw .nilIface) = true := (rfl)
theorem pu_ii {a : Ac} {dst : Option Tmp} {i : Nat} {ty : TypeId} {pos : String} {after : Array Edge} (hx : isNilI (a.eval (.tmp i)) = true) :
    stepPure TE a ⟨dst, .binOp .neq 20 (.tmp i) (.const .nilIface) 20, ty, pos, after, none⟩ = some (.raw (.bool false), []) := by
  have hx : a.eval (.tmp i) = .raw .nilIface := by
    unfold isNilI at hx
    split at hx
    · assumption
    · cases hx
  have h1 : valAt a (.tmp i) = .nilIface := by simp [valAt, hx, toVal]
  have h2 : valAt a (.const .nilIface) = .nilIface := rfl
  have hall : (Op.operands (.binOp .neq 20 (.tmp i) (.const .nilIface) 20)).toList.all (fun x => (toVal (a.eval x)).isSome) = true := by
    show (List.all [.tmp i, .const .nilIface] (fun x => (toVal (a.eval x)).isSome)) = true
    simp only [List.all_cons, List.all_nil, hx]
    rfl
  have hr : pureRun TE.P (execOp (valAt a) ⟨dst, .binOp .neq 20 (.tmp i) (.const .nilIface) 20, ty, pos, after, none⟩) = some (.value (.bool false)) := by
    have he : execOp (valAt a) ⟨dst, .binOp .neq 20 (.tmp i) (.const .nilIface) 20, ty, pos, after, none⟩ = (do let r ← (do eqGuard .neq 20 (.tmp i) (.const .nilIface) .nilIface .nilIface; binOp .neq 20 .nilIface .nilIface); pure (.value r)) := by
      simp only [execOp, h1, h2]
    rw [he]
    exact run_ii
  simp only [stepPure, hall, cond_true, hr]
  rfl
theorem ne_ii {s : St} {d : Option (AV × List Nat)} : eqS TE s .neq 20 (.raw .nilIface) (.raw .nilIface) d = d := by kernel_rfl
theorem passed {s : St} (H : Ok TE Tryz.prog pr3) {fn : Func} {a : Ac} {kr kp : AV → St → Bool} {ds : List AD} {A : Nat} (hk : leaveA TE (sem Tryz.prog) fn a kr kp ds none s = true) :
    leaveA TE (sem Tryz.prog) fn a kr kp (.call 52 [.ptr A 0] :: ds) none s = true := by
  rw [k_leave_call 17 fn_52 rfl rfl]
  repeat (first | with_reducible (refine w_one H ?_; constructor) | simp only [rB, rP, rQ, boolA, intA, resultA, resA, reduceIte, reduceCtorEq, Nat.reduceAdd, Nat.reduceLT, Nat.reduceEqDiff, UInt8.reduceToNat, pe3, pf3, Option.map_none, cd_seq, cd_cond, dcond_bool, cd_ret, cd_skip, cd_rec0, cd_mv, d_do, d_seqn, d_seqr, d_rec_nil, d_rec_assign, b_nn, ne_ii, pu_ii, nili, ev_nili, leftOver, dl_normal rs79, dl_ret rs79])
  exact hk
end Go.AX
namespace Go.AX
open Go.Proofs Go.RowKit
set_option maxRecDepth 1000000
set_option linter.unusedSimpArgs false
def freeF : List (Option Nat) → Nat → Option Nat
  | [], _ => none
  | none :: _, i => some i
  | some _ :: l, i => freeF l (i + 1)
end Go.AX
namespace Go.AX
open Go.Proofs Go.RowKit
set_option maxRecDepth 1000000
set_option linter.unusedSimpArgs false
def trA (root cwd : Nat) (fds : List (Option Nat)) (many : Int) : AO := .cells (.ptr root 0 :: .ptr cwd 0 :: (fds.map upA ++ [.raw (.int .i64 many)])) 106 0
end Go.AX
namespace Go.AX
open Go.Proofs Go.RowKit
set_option maxRecDepth 1000000
set_option linter.unusedSimpArgs false
def fdT (fds : List (Option Nat)) (fd : Int) : Option Nat := bif decide (fd < 0) || decide (fd ≥ 8) then none else fds.getD fd.toNat none
end Go.AX
namespace Go.AX
open Go.Proofs Go.RowKit
set_option maxRecDepth 1000000
set_option linter.unusedSimpArgs false
def belowT (T : Nodes) (top : Nat) : Nat → Nat → Option Bool
  | 0, _ => none
  | f + 1, i => match T i with
    | none => none
    | some nd => bif Nat.beq i top then some true else match nd.up with
      | none => some false
      | some u => belowT T top f u
end Go.AX
namespace Go.AX
open Go.Proofs Go.RowKit
set_option maxRecDepth 1000000
set_option linter.unusedSimpArgs false
def eachL (dp lg : Nat) (below : Nat → List Nat → Option Bool) (kids : List (List Nat × Nat)) (p : List Nat) : List (List Nat) → Option Bool
  | [] => some true
  | nm :: l => match lookK nm kids with
    | none => none
    | some j => bif Nat.ble (joinP p nm).length 1000 && (Nat.ble (p.length + nm.length) 1000000 && Nat.ble (partsL (joinP p nm)).length 1000) then
      bif fitsB (dp + (partsL (joinP p nm)).length) (lg + 1 + (joinP p nm).length) then match below j (joinP p nm) with
        | none => none
        | some false => some false
        | some true => eachL dp lg below kids p l
      else some false
      else none
def eachT (T : Nodes) (dp lg : Nat) : Nat → Nat → List Nat → Option Bool
  | 0, _, _ => none
  | f + 1, i, p => match T i with
    | none => none
    | some nd => match sortK nd.kids with
      | none => none
      | some names => eachL dp lg (eachT T dp lg f) nd.kids p names
end Go.AX
