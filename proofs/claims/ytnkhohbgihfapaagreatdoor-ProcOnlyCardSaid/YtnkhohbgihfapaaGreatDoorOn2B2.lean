import Derived.Test.YtnkhohbgihfapaaGreatDoorOn2A3
import Derived.Test.YtnkhohbgihfapaaGreatDoorProg
import Derived.Test.YtnkhohbgihfapaaGreatDoorOn2A2
import Derived.Test.YtnkhohbgihfapaaGreatDoorOn2B1
set_option linter.unusedVariables false
set_option linter.unusedSimpArgs false
set_option linter.defProp false
namespace Go.AX
open Go.Proofs Go.RowKit
noncomputable def TE : Env := envOf Tryz.prog
theorem ld_9 (s : St) (x o : Nat) : loadA TE s 9 (.ptr x o) = ldC s x o := ld_gen (by kernel_rfl)
theorem st_9 (s : St) (x o : Nat) (v : AV) (h1 : v.cells = [v]) (h2 : v.one = true) : storeA TE s 9 (.ptr x o) v = stC s x o v := st_gen (by kernel_rfl) h1 h2
theorem ld_3 (s : St) (x o : Nat) : loadA TE s 3 (.ptr x o) = ldC s x o := ld_gen (by kernel_rfl)
theorem st_3 (s : St) (x o : Nat) (v : AV) (h1 : v.cells = [v]) (h2 : v.one = true) : storeA TE s 3 (.ptr x o) v = stC s x o v := st_gen (by kernel_rfl) h1 h2
theorem ld_4 (s : St) (x o : Nat) : loadA TE s 4 (.ptr x o) = ldC s x o := ld_gen (by kernel_rfl)
theorem st_4 (s : St) (x o : Nat) (v : AV) (h1 : v.cells = [v]) (h2 : v.one = true) : storeA TE s 4 (.ptr x o) v = stC s x o v := st_gen (by kernel_rfl) h1 h2
theorem ld_41 (s : St) (x o : Nat) : loadA TE s 41 (.ptr x o) = ldC s x o := ld_gen (by kernel_rfl)
theorem st_41 (s : St) (x o : Nat) (v : AV) (h1 : v.cells = [v]) (h2 : v.one = true) : storeA TE s 41 (.ptr x o) v = stC s x o v := st_gen (by kernel_rfl) h1 h2
theorem ld_33 (s : St) (x o : Nat) : loadA TE s 33 (.ptr x o) = ldC s x o := ld_gen (by kernel_rfl)
theorem st_33 (s : St) (x o : Nat) (v : AV) (h1 : v.cells = [v]) (h2 : v.one = true) : storeA TE s 33 (.ptr x o) v = stC s x o v := st_gen (by kernel_rfl) h1 h2
theorem ld_103 (s : St) (x o : Nat) : loadA TE s 103 (.ptr x o) = ldC s x o := ld_gen (by kernel_rfl)
theorem st_103 (s : St) (x o : Nat) (v : AV) (h1 : v.cells = [v]) (h2 : v.one = true) : storeA TE s 103 (.ptr x o) v = stC s x o v := st_gen (by kernel_rfl) h1 h2
theorem ld_63 (s : St) (x o : Nat) : loadA TE s 63 (.ptr x o) = ldC s x o := ld_gen (by kernel_rfl)
theorem ld_107 (s : St) (x o : Nat) : loadA TE s 107 (.ptr x o) = ldC s x o := ld_gen (by kernel_rfl)
theorem ld_26 (s : St) (x o : Nat) : loadA TE s 26 (.ptr x o) = ldC s x o := ld_gen (by kernel_rfl)
theorem st_26 (s : St) (x o : Nat) (v : AV) (h1 : v.cells = [v]) (h2 : v.one = true) : storeA TE s 26 (.ptr x o) v = stC s x o v := st_gen (by kernel_rfl) h1 h2
theorem fn_3 : TE.fn.get 3 = some Tryz.f3 := by kernel_rfl
theorem fn_6 : TE.fn.get 6 = some Tryz.f6 := by kernel_rfl
theorem fn_7 : TE.fn.get 7 = some Tryz.f7 := by kernel_rfl
theorem fn_8 : TE.fn.get 8 = some Tryz.f8 := by kernel_rfl
theorem fn_9 : TE.fn.get 9 = some Tryz.f9 := by kernel_rfl
theorem fn_10 : TE.fn.get 10 = some Tryz.f10 := by kernel_rfl
theorem fn_11 : TE.fn.get 11 = some Tryz.f11 := by kernel_rfl
theorem fn_12 : TE.fn.get 12 = some Tryz.f12 := by kernel_rfl
theorem fn_15 : TE.fn.get 15 = some Tryz.f15 := by kernel_rfl
theorem fn_16 : TE.fn.get 16 = some Tryz.f16 := by kernel_rfl
theorem fn_17 : TE.fn.get 17 = some Tryz.f17 := by kernel_rfl
theorem fn_18 : TE.fn.get 18 = some Tryz.f18 := by kernel_rfl
theorem fn_19 : TE.fn.get 19 = some Tryz.f19 := by kernel_rfl
theorem fn_20 : TE.fn.get 20 = some Tryz.f20 := by kernel_rfl
theorem fn_21 : TE.fn.get 21 = some Tryz.f21 := by kernel_rfl
theorem fn_22 : TE.fn.get 22 = some Tryz.f22 := by kernel_rfl
theorem fn_23 : TE.fn.get 23 = some Tryz.f23 := by kernel_rfl
theorem fn_24 : TE.fn.get 24 = some Tryz.f24 := by kernel_rfl
theorem fn_25 : TE.fn.get 25 = some Tryz.f25 := by kernel_rfl
theorem fn_31 : TE.fn.get 31 = some Tryz.f31 := by kernel_rfl
theorem fn_32 : TE.fn.get 32 = some Tryz.f32 := by kernel_rfl
theorem fn_35 : TE.fn.get 35 = some Tryz.f35 := by kernel_rfl
theorem fn_36 : TE.fn.get 36 = some Tryz.f36 := by kernel_rfl
theorem fn_37 : TE.fn.get 37 = some Tryz.f37 := by kernel_rfl
theorem fn_38 : TE.fn.get 38 = some Tryz.f38 := by kernel_rfl
theorem fn_39 : TE.fn.get 39 = some Tryz.f39 := by kernel_rfl
theorem fn_40 : TE.fn.get 40 = some Tryz.f40 := by kernel_rfl
theorem fn_41 : TE.fn.get 41 = some Tryz.f41 := by kernel_rfl
theorem fn_42 : TE.fn.get 42 = some Tryz.f42 := by kernel_rfl
theorem fn_43 : TE.fn.get 43 = some Tryz.f43 := by kernel_rfl
theorem fn_44 : TE.fn.get 44 = some Tryz.f44 := by kernel_rfl
theorem fn_45 : TE.fn.get 45 = some Tryz.f45 := by kernel_rfl
theorem fn_46 : TE.fn.get 46 = some Tryz.f46 := by kernel_rfl
theorem fn_47 : TE.fn.get 47 = some Tryz.f47 := by kernel_rfl
theorem fn_48 : TE.fn.get 48 = some Tryz.f48 := by kernel_rfl
theorem fn_49 : TE.fn.get 49 = some Tryz.f49 := by kernel_rfl
theorem fn_50 : TE.fn.get 50 = some Tryz.f50 := by kernel_rfl
theorem fn_51 : TE.fn.get 51 = some Tryz.f51 := by kernel_rfl
theorem fn_52 : TE.fn.get 52 = some Tryz.f52 := by kernel_rfl
theorem fn_53 : TE.fn.get 53 = some Tryz.f53 := by kernel_rfl
theorem fn_58 : TE.fn.get 58 = some Tryz.f58 := by kernel_rfl
theorem fn_59 : TE.fn.get 59 = some Tryz.f59 := by kernel_rfl
theorem fn_71 : TE.fn.get 71 = some Tryz.f71 := by kernel_rfl
theorem fn_72 : TE.fn.get 72 = some Tryz.f72 := by kernel_rfl
theorem fn_73 : TE.fn.get 73 = some Tryz.f73 := by kernel_rfl
theorem fn_74 : TE.fn.get 74 = some Tryz.f74 := by kernel_rfl
theorem fn_75 : TE.fn.get 75 = some Tryz.f75 := by kernel_rfl
theorem fn_76 : TE.fn.get 76 = some Tryz.f76 := by kernel_rfl
theorem fn_77 : TE.fn.get 77 = some Tryz.f77 := by kernel_rfl
theorem fn_79 : TE.fn.get 79 = some Tryz.f79 := by kernel_rfl
theorem fn_80 : TE.fn.get 80 = some Tryz.f80 := by kernel_rfl
theorem fn_81 : TE.fn.get 81 = some Tryz.f81 := by kernel_rfl
theorem fn_82 : TE.fn.get 82 = some Tryz.f82 := by kernel_rfl
theorem fn_83 : TE.fn.get 83 = some Tryz.f83 := by kernel_rfl
theorem fn_85 : TE.fn.get 85 = some Tryz.f85 := by kernel_rfl
theorem fn_86 : TE.fn.get 86 = some Tryz.f86 := by kernel_rfl
theorem fn_89 : TE.fn.get 89 = some Tryz.f89 := by kernel_rfl
theorem fn_90 : TE.fn.get 90 = some Tryz.f90 := by kernel_rfl
theorem fn_91 : TE.fn.get 91 = some Tryz.f91 := by kernel_rfl
theorem fn_92 : TE.fn.get 92 = some Tryz.f92 := by kernel_rfl
theorem fn_93 : TE.fn.get 93 = some Tryz.f93 := by kernel_rfl
theorem fn_94 : TE.fn.get 94 = some Tryz.f94 := by kernel_rfl
theorem fn_95 : TE.fn.get 95 = some Tryz.f95 := by kernel_rfl
theorem fn_96 : TE.fn.get 96 = some Tryz.f96 := by kernel_rfl
theorem fn_104 : TE.fn.get 104 = some Tryz.f104 := by kernel_rfl
theorem fn_105 : TE.fn.get 105 = some Tryz.f105 := by kernel_rfl
theorem fn_121 : TE.fn.get 121 = some Tryz.f121 := by kernel_rfl
theorem fn_122 : TE.fn.get 122 = some Tryz.f122 := by kernel_rfl
theorem fn_123 : TE.fn.get 123 = some Tryz.f123 := by kernel_rfl
theorem fn_124 : TE.fn.get 124 = some Tryz.f124 := by kernel_rfl
theorem fn_126 : TE.fn.get 126 = some Tryz.f126 := by kernel_rfl
theorem fn_128 : TE.fn.get 128 = some Tryz.f128 := by kernel_rfl
theorem fn_129 : TE.fn.get 129 = some Tryz.f129 := by kernel_rfl
theorem fn_130 : TE.fn.get 130 = some Tryz.f130 := by kernel_rfl
theorem fn_131 : TE.fn.get 131 = some Tryz.f131 := by kernel_rfl
theorem fn_134 : TE.fn.get 134 = some Tryz.f134 := by kernel_rfl
theorem fn_135 : TE.fn.get 135 = some Tryz.f135 := by kernel_rfl
theorem fn_136 : TE.fn.get 136 = some Tryz.f136 := by kernel_rfl
theorem fn_139 : TE.fn.get 139 = some Tryz.f139 := by kernel_rfl
theorem fn_158 : TE.fn.get 158 = some Tryz.f158 := by kernel_rfl
theorem fn_159 : TE.fn.get 159 = some Tryz.f159 := by kernel_rfl
theorem fn_160 : TE.fn.get 160 = some Tryz.f160 := by kernel_rfl
theorem fn_161 : TE.fn.get 161 = some Tryz.f161 := by kernel_rfl
theorem fn_164 : TE.fn.get 164 = some Tryz.f164 := by kernel_rfl
theorem fn_169 : TE.fn.get 169 = some Tryz.f169 := by kernel_rfl
theorem fn_173 : TE.fn.get 173 = some Tryz.f173 := by kernel_rfl
theorem fn_204 : TE.fn.get 204 = some Tryz.f204 := by kernel_rfl
theorem fn_241 : TE.fn.get 241 = some Tryz.f241 := by kernel_rfl
end Go.AX
namespace Go.Proofs
open Go.RowKit Go.Maps Go.Sort Go.Shelf Go.AX
def pn : PN := { indexByte := 268, join := 70, rep := 138, sorted := 133, keys := 168, tyStr := 9, anyOf := 137 }
theorem Tryz.sorts120 (m : Nat) : AnyZ.SortsIn Tryz.prog Tryz.sorted120_ren Fence.wide m :=
  ⟨fun blk off cap ss W hH hblk hsz => callsIn_wide.2 (AnyM.slices_Sort_string Tryz.sort133 blk off cap ss W hH hblk hsz),
   fun p cap W => callsIn_wide.2 (AnyM.slices_Sort_string_none Tryz.sort133 p cap W)⟩
set_option maxHeartbeats 1000000 in
theorem Tryz.sortedKeys (c b nn : Nat) (D0 : DataW Unit) (R : Value → Option (DataW Unit × List MemPlace)) (W : World) (hc : c < W.heap.size) (hm : W.cell? ⟨c, 0, none⟩ = some (.map (some b))) (hown : W.ownsMap Tryz.prog 9 R b nn D0) (hmax : Maps.size D0 ≤ maxLen) (hbytes : Maps.size D0 * 16 ≤ 140737488355328) :
    CallsIn Fence.wide 5 Tryz.prog 133 #[.func (.func 168) #[] #[.pointer (some ⟨c, 0, none⟩)]] W fun e w' => ∃ (v : Value) (ss : List (List UInt8)), e = .returned v ∧ ss.Perm (strKeys D0) ∧
      w'.ownsRow W.heap.size 9 1 v ss.length ((ss.mergeSort (fun x y => decide (x ≤ y))).map encStr) ∧ (v = .slice none 0 0 ↔ ss = []) ∧ Go.RowKit.Below W.heap.size W w' := by
  have hseq : SeqGives Fence.wide 2 Tryz.prog 168 #[.pointer (some ⟨c, 0, none⟩)] encStr (fun ss => ss.Perm (strKeys D0)) (Maps.size D0) W :=
    AnyZ.keys_gives (ρ := Tryz.keys121_ren) { Tryz.keys121 with } Fence.wide _ trivial rfl (by omega) c b nn D0 _ hc hm hown
  exact AnyZ.sorted_in Tryz.sorted120 Fence.wide 5 trivial trivial trivial trivial rfl (by omega) (Tryz.sorts120 _) (enters_of Tryz.func167 (by kernel_rfl) rfl) 168 #[.pointer (some ⟨c, 0, none⟩)] trivial (enters_of Tryz.func168 (by kernel_rfl) rfl) _ _ hmax hbytes _ hseq
theorem Tryz.libOk : LibOk Tryz.prog pn := {
  byte := fun args w => run_callFunc_indexByte Tryz.func268 (by kernel_rfl) (by kernel_rfl) (by kernel_rfl) (by kernel_rfl) args w
  joinE := enters_of Tryz.func70 (by kernel_rfl) rfl
  join0 := fun a c sep w => Any.strings_Join_none Tryz.lays156 Tryz.Builder_Extra_156 a c sep w
  join := fun bk o c xs sep w h1 h2 h3 h4 h5 => Any.strings_Join Tryz.lays156 Tryz.Builder_Extra_156 bk o c xs sep w h1 h2 h3 h4 h5
  repE := enters_of Tryz.func138 (by kernel_rfl) rfl
  rep := fun s c w h1 h2 => Any.strings_Repeat Tryz.lays105 Tryz.Builder_Extra_105 s c w h1 h2
  anyE := enters_of Tryz.func137 (by kernel_rfl) rfl
  any := fun s w h1 => Any.ContainsAny_sl Tryz.lays150 (by kernel_rfl) s w h1
  sortE := enters_of Tryz.func133 (by kernel_rfl) rfl
  tyS := Tryz.underlying9
  sorted := fun c b nn D0 R W h1 h2 h3 h4 h5 => callsIn_wide.1 (Tryz.sortedKeys c b nn D0 R W h1 h2 h3 h4 h5) }
theorem Tryz.progOk : ProgOk (envOf Tryz.prog) Tryz.prog := Go.AX.progOk (by kernel_rfl) (by kernel_rfl) (by kernel_rfl)
end Go.Proofs
namespace Go.AX
open Go.Proofs Go.RowKit
set_option maxRecDepth 100000
set_option linter.unusedSimpArgs false
theorem pe_ne {g : Nat} {args : List AV} {s : St} (h : g ≠ 268) : (primsOf pn).ext g args s = none := by
  have : Nat.beq g 268 = false := by
    cases hb : Nat.beq g 268 with
    | false => rfl
    | true => exact absurd (Nat.eq_of_beq_eq_true hb) h
  simp [primsOf, primE, pn, this]
theorem beq_ne {g j : Nat} (h : g ≠ j) : Nat.beq g j = false := by
  cases hb : Nat.beq g j with
  | false => rfl
  | true => exact absurd (Nat.eq_of_beq_eq_true hb) h
theorem pf_ne {g : Nat} {args : List AV} {s : St} (h1 : g ≠ 70) (h2 : g ≠ 138) (h3 : g ≠ 133) (h4 : g ≠ 137) : (primsOf pn).fn g args s = none := by
  simp [primsOf, primF, pn, beq_ne h1, beq_ne h2, beq_ne h3, beq_ne h4]
theorem b_eqs {a b : List Nat} : binFast .eql (.str a) (.str b) = some (boolA (eqB a b)) := (rfl)
theorem b_add {a b : List Nat} (h : a.length + b.length ≤ 1048576) : binFast .add (.str a) (.str b) = some (.str (a ++ b)) := by
  have : Nat.ble (a.length + b.length) 1048576 = true := Nat.ble_eq.mpr h
  simp [binFast, this]
theorem b_eqi {k : IntKind} {a b : Int} : binFast .eql (.raw (.int k a)) (.raw (.int k b)) = some (boolA (a == b)) := by simp [binFast]
theorem b_nei {k : IntKind} {a b : Int} : binFast .neq (.raw (.int k a)) (.raw (.int k b)) = some (boolA (a != b)) := by simp [binFast]
theorem b_lt {k : IntKind} {a b : Int} : binFast .lss (.raw (.int k a)) (.raw (.int k b)) = some (boolA (decide (a < b))) := by simp [binFast]
theorem b_le {k : IntKind} {a b : Int} : binFast .leq (.raw (.int k a)) (.raw (.int k b)) = some (boolA (decide (a ≤ b))) := by simp [binFast]
theorem b_gt {k : IntKind} {a b : Int} : binFast .gtr (.raw (.int k a)) (.raw (.int k b)) = some (boolA (decide (a > b))) := by simp [binFast]
theorem b_ge {k : IntKind} {a b : Int} : binFast .geq (.raw (.int k a)) (.raw (.int k b)) = some (boolA (decide (a ≥ b))) := by simp [binFast]
theorem b_plus {k : IntKind} {a b : Int} : binFast .add (.raw (.int k a)) (.raw (.int k b)) = some (.raw (.int k (k.wrap (a + b)))) := by simp [binFast]
theorem b_minus {k : IntKind} {a b : Int} : binFast .sub (.raw (.int k a)) (.raw (.int k b)) = some (.raw (.int k (k.wrap (a - b)))) := by simp [binFast]
theorem len_str {s : St} {l : List Nat} : lenOpA TE s [9] [.str l] = some (intA l.length) := by kernel_rfl
theorem eqB_iff {a b : List Nat} : eqB a b = decide (a = b) := eqB_dec a b
theorem eqB_of {a b : List Nat} (h : a ≠ b) : eqB a b = false := by rw [eqB_iff]; simpa using h
theorem eqB_self {a : List Nat} : eqB a a = true := by rw [eqB_iff]; simp
def unF (e : Env) (u : UnOp) (v : AV) : Option AV := pureA (stepPure e ⟨Tr.e.set 0 v, 1, []⟩ ⟨none, .unOp u 0 (.tmp 0), 0, default, #[], none⟩)
theorem un_not {e : Env} {b : Bool} : unF e .not (.raw (.bool b)) = some (.raw (.bool !b)) := (rfl)
theorem un_eq {e : Env} {a : Ac} {dst : Option Tmp} {u : UnOp} {t : TypeId} {x : Operand} {ty : TypeId} {pos : String} {after : Array Edge} : pureA (stepPure e a ⟨dst, .unOp u t x, ty, pos, after, none⟩) = unF e u (a.eval x) := by
  have h : Ac.eval ⟨Tr.e.set 0 (a.eval x), 1, []⟩ (.tmp 0) = a.eval x := by simp [Ac.eval, Tr.get_set]
  have hv : valAt ⟨Tr.e.set 0 (a.eval x), 1, []⟩ (.tmp 0) = valAt a x := by simp only [valAt, h]
  simp only [unF, stepPure, execOp, hv]
  simp [Op.operands, h]
def isIntA : AV → Bool
  | .raw (.int _ _) => true
  | _ => false
def maxA : AV → AV → Option AV
  | .raw (.int k x), .raw (.int _ y) => some (.raw (.int k (if y > x then y else x)))
  | _, _ => none
def minA : AV → AV → Option AV
  | .raw (.int k x), .raw (.int _ y) => some (.raw (.int k (if y < x then y else x)))
  | _, _ => none
theorem ii_int {k : IntKind} {z : Int} : isIntA (.raw (.int k z)) = true := (rfl)
theorem maxA_int {k l : IntKind} {x y : Int} : maxA (.raw (.int k x)) (.raw (.int l y)) = some (.raw (.int k (if y > x then y else x))) := (rfl)
theorem minA_int {k l : IntKind} {x y : Int} : minA (.raw (.int k x)) (.raw (.int l y)) = some (.raw (.int k (if y < x then y else x))) := (rfl)
theorem isInt_of {v : AV} (h : isIntA v = true) : ∃ k z, v = .raw (.int k z) := by
  cases v with
  | raw w => cases w <;> first | (simp [isIntA] at h; done) | exact ⟨_, _, rfl⟩
  | _ => simp [isIntA] at h
theorem mx_eq {e : Env} {a : Ac} {dst : Option Tmp} {x y : Operand} {tys : Array TypeId} {ty : TypeId} {pos : String} {after : Array Edge} (hx : isIntA (a.eval x) = true) (hy : isIntA (a.eval y) = true) :
    pureA (stepPure e a ⟨dst, .call { callee := .builtin .max, args := #[x, y], argTypes := tys }, ty, pos, after, none⟩) = maxA (a.eval x) (a.eval y) := by
  obtain ⟨k, u, hx⟩ := isInt_of hx
  obtain ⟨l, v, hy⟩ := isInt_of hy
  have h1 : valAt a x = .int k u := by simp [valAt, hx, toVal]
  have h2 : valAt a y = .int l v := by simp [valAt, hy, toVal]
  have hall : (Op.operands (.call { callee := .builtin .max, args := #[x, y], argTypes := tys })).toList.all (fun x => (toVal (a.eval x)).isSome) = true := by
    show (List.all [x, y] (fun x => (toVal (a.eval x)).isSome)) = true
    simp [hx, hy, toVal]
  simp only [stepPure, hall, cond_true]
  have hr : pureRun e.P (execOp (valAt a) ⟨dst, .call { callee := .builtin .max, args := #[x, y], argTypes := tys }, ty, pos, after, none⟩) = some (.value (.int k (if v > u then v else u))) := by
    have : execOp (valAt a) ⟨dst, .call { callee := .builtin .max, args := #[x, y], argTypes := tys }, ty, pos, after, none⟩ = .pure (.value (.int k (if v > u then v else u))) := by
      simp only [execOp, resolve]
      simp [h1, h2]
      rfl
    rw [this]; rfl
  rw [hr, hx, hy]
  rfl
theorem mn_eq {e : Env} {a : Ac} {dst : Option Tmp} {x y : Operand} {tys : Array TypeId} {ty : TypeId} {pos : String} {after : Array Edge} (hx : isIntA (a.eval x) = true) (hy : isIntA (a.eval y) = true) :
    pureA (stepPure e a ⟨dst, .call { callee := .builtin .min, args := #[x, y], argTypes := tys }, ty, pos, after, none⟩) = minA (a.eval x) (a.eval y) := by
  obtain ⟨k, u, hx⟩ := isInt_of hx
  obtain ⟨l, v, hy⟩ := isInt_of hy
  have h1 : valAt a x = .int k u := by simp [valAt, hx, toVal]
  have h2 : valAt a y = .int l v := by simp [valAt, hy, toVal]
  have hall : (Op.operands (.call { callee := .builtin .min, args := #[x, y], argTypes := tys })).toList.all (fun x => (toVal (a.eval x)).isSome) = true := by
    show (List.all [x, y] (fun x => (toVal (a.eval x)).isSome)) = true
    simp [hx, hy, toVal]
  simp only [stepPure, hall, cond_true]
  have hr : pureRun e.P (execOp (valAt a) ⟨dst, .call { callee := .builtin .min, args := #[x, y], argTypes := tys }, ty, pos, after, none⟩) = some (.value (.int k (if v < u then v else u))) := by
    have : execOp (valAt a) ⟨dst, .call { callee := .builtin .min, args := #[x, y], argTypes := tys }, ty, pos, after, none⟩ = .pure (.value (.int k (if v < u then v else u))) := by
      simp only [execOp, resolve]
      simp [h1, h2]
      rfl
    rw [this]; rfl
  rw [hr, hx, hy]
  rfl
def rQ := (And.intro (And.intro (And.intro @b_eqs @un_eq) (And.intro @un_not (And.intro @mx_eq @mn_eq))) (And.intro (And.intro @ii_int @maxA_int) (And.intro @minA_int (And.intro @pe_ne @pf_ne))))
def idxI (b : List Nat) (c : Nat) : Int := match findByte b c 0 with | some i => (i : Int) | none => -1
theorem c_index {r : Tasks} {a : Ac} {dst : Option Tmp} {s : St} {k : Ac → St → Bool} {kp : AV → St → Bool} {b : List Nat} {c : Nat} (hc : c < 256) :
    callV (primsOf pn) r (.fn 268 []) [.str b, .raw (.int .u8 (.ofNat c))] a dst s k kp = putK a dst (.raw (.int .i64 (idxI b c))) s k := by
  have : Nat.blt c 256 = true := Nat.blt_eq.mpr hc
  have h : (primsOf pn).ext 268 ([.str b, .raw (.int .u8 (.ofNat c))] ++ []) s = some (.raw (.int .i64 (idxI b c)), s) := by
    show (bif true then (bif Nat.blt c 256 then some (match findByte b c 0 with | some i => intA i | none => intA (-1), s) else none) else none) = _
    rw [this]
    simp only [cond_true, idxI]
    cases findByte b c 0 <;> rfl
  simp only [callV, h]
theorem indexByte_c {s : St} (H : Ok TE Tryz.prog (primsOf pn)) {b : List Nat} {c : Nat} (hc : c < 256) {kr kp : AV → St → Bool} (hk : kr (.raw (.int .i64 (idxI b c))) s = true) :
    (sem Tryz.prog).call 241 [.str b, .raw (.int .u8 (.ofNat c))] s kr kp = true := by
  refine w_call H 8 fn_241 rfl rfl ?_
  repeat (first | with_reducible (refine w_one H ?_; constructor) | simp only [rB, rP, rQ, boolA, intA, resultA, resA, reduceIte, reduceCtorEq, Nat.reduceAdd, Nat.reduceLT, Nat.reduceEqDiff, UInt8.reduceToNat, c_index hc, Tryz.results241])
  exact hk
theorem no_cast {k : IntKind} {n : Nat} : natOf (.raw (.int k (n : Int))) = some n := (rfl)
theorem no_0 {k : IntKind} : natOf (.raw (.int k 0)) = some 0 := (rfl)
theorem no_1 {k : IntKind} : natOf (.raw (.int k 1)) = some 1 := (rfl)
theorem ix_str {b : List Nat} {i : AV} : indexA TE 9 (.str b) i = match natOf i with
    | some i => match b[i]? with
      | some c => some (.raw (.int .u8 (.ofNat c)))
      | none => none
    | none => none := by
  unfold indexA
  cases natOf i <;> kernel_rfl
theorem sl_str {b : List Nat} {lo hi : Option AV} : sliceOpA TE 9 (.str b) lo hi none = match sliceBoundsA b.length b.length lo hi with
      | some (l, h) => some (.str ((b.drop l).take (h - l)))
      | none => none := by kernel_rfl
theorem sb_hi {n m i : Nat} {v : AV} (h : natOf v = some i) (hi : i ≤ m) : sliceBoundsA n m none (some v) = some (0, i) := by
  have h1 : Nat.ble 0 i = true := Nat.ble_eq.mpr (Nat.zero_le _)
  have h2 : Nat.ble i m = true := Nat.ble_eq.mpr hi
  simp [sliceBoundsA, h, h1, h2]
theorem sb_lo {n m i : Nat} {v : AV} (h : natOf v = some i) (hi : i ≤ n) (hm : n ≤ m) : sliceBoundsA n m (some v) none = some (i, n) := by
  have h1 : Nat.ble i n = true := Nat.ble_eq.mpr hi
  have h2 : Nat.ble n m = true := Nat.ble_eq.mpr hm
  simp [sliceBoundsA, h, h1, h2]
theorem find_lt {c : Nat} : ∀ {b : List Nat} {k i : Nat}, findByte b c k = some i → k ≤ i ∧ i < k + b.length
  | [], _, _, h => by simp [findByte] at h
  | x :: l, k, i, h => by
    simp only [findByte] at h
    cases hx : Nat.beq x c with
    | true => rw [hx] at h; simp only [cond_true, Option.some.injEq] at h; subst h; simp
    | false =>
      rw [hx] at h
      have := find_lt (b := l) h
      simp only [List.length_cons]
      omega
theorem find_self {c : Nat} : findByte [c] c 0 = some 0 := by simp [findByte]
theorem index_c {s : St} (H : Ok TE Tryz.prog (primsOf pn)) {b : List Nat} {c : Nat} (hc : c < 256) {kr kp : AV → St → Bool} (hk : kr (.raw (.int .i64 (idxI b c))) s = true) :
    (sem Tryz.prog).call 204 [.str b, .str [c]] s kr kp = true := by
  refine w_call H 143 fn_204 rfl rfl ?_
  by_cases hb : [c] = b
  · subst hb
    have hi : idxI [c] c = 0 := by simp [idxI, find_self]
    rw [hi] at hk
    have e1 : (((([c] : List Nat).length : Int)) == 0) = false := (rfl)
    repeat (first | with_reducible (refine w_one H ?_; constructor) | simp only [rB, rP, rQ, boolA, intA, resultA, resA, reduceIte, reduceCtorEq, Nat.reduceAdd, Nat.reduceLT, Nat.reduceEqDiff, UInt8.reduceToNat, len_str, b_eqi, e1, eqB_self, Tryz.results204])
    exact hk
  · have e1 : (((([c] : List Nat).length : Int)) == 0) = false := (rfl)
    have e2 : (((([c] : List Nat).length : Int)) == 1) = true := (rfl)
    have e3 := eqB_of hb
    repeat (first | with_reducible (refine w_one H ?_; constructor) | simp only [rB, rP, rQ, boolA, intA, resultA, resA, reduceIte, reduceCtorEq, Nat.reduceAdd, Nat.reduceLT, Nat.reduceEqDiff, UInt8.reduceToNat, len_str, b_eqi, e1, e2, e3, ix_str, no_0, Tryz.results204] | (with_reducible refine indexByte_c H hc ?_))
    exact hk
theorem wrap_nat {n : Nat} (h : n < 9223372036854775808) : IntKind.i64.wrap (n : Int) = (n : Int) := Go.IntWalk.i64_in _ (by omega)
theorem cut0_found {s : St} (H : Ok TE Tryz.prog (primsOf pn)) {b : List Nat} {c i : Nat} (hc : c < 256) (hi : findByte b c 0 = some i) (hb : b.length ≤ 1000000) {kr kp : AV → St → Bool} (hk : kr (.tuple [.str (b.take i), .str (b.drop (i + 1)), .raw (.bool true)]) s = true) :
    (sem Tryz.prog).call 169 [.str b, .str [c]] s kr kp = true := by
  have h1 := find_lt hi
  have e0 : idxI b c = (i : Int) := by simp [idxI, hi]
  have e1 : decide ((i : Int) ≥ 0) = true := by simp
  have e2 : IntKind.i64.wrap ((i : Int) + (([c] : List Nat).length : Int)) = ((i + 1 : Nat) : Int) := by
    rw [show (i : Int) + (([c] : List Nat).length : Int) = ((i + 1 : Nat) : Int) from by simp]
    exact wrap_nat (by omega)
  have e3 := sb_hi (n := b.length) (m := b.length) (no_cast (k := .i64) (n := i)) (by omega)
  have e4 := sb_lo (n := b.length) (m := b.length) (no_cast (k := .i64) (n := i + 1)) (by omega) (Nat.le_refl _)
  refine w_call H 23 fn_169 rfl rfl ?_
  repeat (first | with_reducible (refine w_one H ?_; constructor) | simp only [rB, rP, rQ, boolA, intA, resultA, resA, reduceIte, reduceCtorEq, Nat.reduceAdd, Nat.reduceLT, Nat.reduceEqDiff, UInt8.reduceToNat, len_str, b_eqi, e0, e1, b_ge, e2, b_plus, sl_str, e3, e4, Tryz.results169] | (with_reducible refine index_c H hc ?_) | (with_reducible refine w_plan H (i := 3) (.take 0 (.take 1 (.take 2 (.take 3 (.take 4 (.take 5 (.take 6 (.take 7 (.take 8 (.take 9 (.take 10 (.take 11 (.done))))))))))))) rfl (by kernel_rfl) ?_))
  rw [Nat.sub_zero, List.drop_zero, List.take_of_length_le (l := b.drop (i + 1)) (by simp)]
  exact hk
theorem cut0_none {s : St} (H : Ok TE Tryz.prog (primsOf pn)) {b : List Nat} {c : Nat} (hc : c < 256) (hi : findByte b c 0 = none) {kr kp : AV → St → Bool} (hk : kr (.tuple [.str b, .str [], .raw (.bool false)]) s = true) :
    (sem Tryz.prog).call 169 [.str b, .str [c]] s kr kp = true := by
  have e0 : idxI b c = -1 := by simp [idxI, hi]
  have e1 : decide ((-1 : Int) ≥ 0) = false := by decide
  refine w_call H 23 fn_169 rfl rfl ?_
  repeat (first | with_reducible (refine w_one H ?_; constructor) | simp only [rB, rP, rQ, boolA, intA, resultA, resA, reduceIte, reduceCtorEq, Nat.reduceAdd, Nat.reduceLT, Nat.reduceEqDiff, UInt8.reduceToNat, len_str, b_eqi, e0, e1, b_ge, Tryz.results169] | (with_reducible refine index_c H hc ?_))
  exact hk
def cutA (b : List Nat) (c : Nat) : AV := match findByte b c 0 with
  | some i => .tuple [.str (b.take i), .str (b.drop (i + 1)), .raw (.bool true)]
  | none => .tuple [.str b, .str [], .raw (.bool false)]
theorem cut0_c {s : St} (H : Ok TE Tryz.prog (primsOf pn)) {b : List Nat} {c : Nat} (hc : c < 256) (hb : b.length ≤ 1000000) {kr kp : AV → St → Bool} (hk : kr (cutA b c) s = true) :
    (sem Tryz.prog).call 169 [.str b, .str [c]] s kr kp = true := by
  unfold cutA at hk
  cases h : findByte b c 0 with
  | some i => rw [h] at hk; exact cut0_found H hc h hb hk
  | none => rw [h] at hk; exact cut0_none H hc h hk
theorem cutA_some {b : List Nat} {c i : Nat} (h : findByte b c 0 = some i) : cutA b c = .tuple [.str (b.take i), .str (b.drop (i + 1)), .raw (.bool true)] := by simp [cutA, h]
theorem cutA_none {b : List Nat} {c : Nat} (h : findByte b c 0 = none) : cutA b c = .tuple [.str b, .str [], .raw (.bool false)] := by simp [cutA, h]
theorem cut_c {s : St} (H : Ok TE Tryz.prog (primsOf pn)) {b : List Nat} {c : Nat} (hc : c < 256) (hb : b.length ≤ 1000000) {kr kp : AV → St → Bool} (hk : kr (cutA b c) s = true) :
    (sem Tryz.prog).call 136 [.str b, .str [c]] s kr kp = true := by
  refine w_call H 13 fn_136 rfl rfl ?_
  cases h : findByte b c 0 with
  | some i =>
    have e := cutA_some h
    rw [e] at hk
    repeat (first | with_reducible (refine w_one H ?_; constructor) | simp only [rB, rP, rQ, boolA, intA, resultA, resA, reduceIte, reduceCtorEq, Nat.reduceAdd, Nat.reduceLT, Nat.reduceEqDiff, UInt8.reduceToNat, e, Tryz.results136] | (with_reducible refine cut0_c H hc hb ?_))
    exact hk
  | none =>
    have e := cutA_none h
    rw [e] at hk
    repeat (first | with_reducible (refine w_one H ?_; constructor) | simp only [rB, rP, rQ, boolA, intA, resultA, resA, reduceIte, reduceCtorEq, Nat.reduceAdd, Nat.reduceLT, Nat.reduceEqDiff, UInt8.reduceToNat, e, Tryz.results136] | (with_reducible refine cut0_c H hc hb ?_))
    exact hk
def badB (l : List Nat) : Bool := Nat.blt 16 l.length || (eqB l [46] || (eqB l [46, 46] || anyB [47, 0] l))
def nameB (l : List Nat) : Int := bif eqB l [] then 400 else bif badB l then 401 else 0
theorem nameB_if {l : List Nat} : nameB l = if l = [] then 400 else if l.length > 16 ∨ l = [46] ∨ l = [46, 46] ∨ anyB [47, 0] l = true then 401 else 0 := by
  unfold nameB badB
  rw [eqB_iff, eqB_iff, eqB_iff]
  by_cases h : l = []
  · simp [h]
  · simp only [h, decide_false, cond_false, if_false]
    by_cases h1 : 16 < l.length
    · have : Nat.blt 16 l.length = true := Nat.blt_eq.mpr h1
      simp [this, h1]
    · have : Nat.blt 16 l.length = false := by rw [← Bool.not_eq_true, Nat.blt_eq]; exact h1
      have h1' : ¬ l.length > 16 := h1
      simp only [this, h1', Bool.false_or, false_or]
      by_cases h2 : l = [46]
      · simp [h2]
      · by_cases h3 : l = [46, 46]
        · simp [h3]
        · cases anyB [47, 0] l <;> simp [h2, h3]
theorem c_any {r : Tasks} {a : Ac} {dst : Option Tmp} {s : St} {k : Ac → St → Bool} {kp : AV → St → Bool} {b : List Nat} (hb : asciiB b = true) (hl : b.length ≤ 1000000) :
    callV (primsOf pn) r (.fn 137 []) [.str b, .str [47, 0]] a dst s k kp = putK a dst (.raw (.bool (anyB [47, 0] b))) s k := by
  refine c_prim (pe_ne (by decide)) ?_
  show (bif true && Nat.ble b.length 1000000 then some (boolA (anyB [47, 0] b), s) else none) = _
  rw [Nat.ble_eq.mpr hl]
  rfl
theorem name_c {s : St} (H : Ok TE Tryz.prog (primsOf pn)) {b : List Nat} (hb : asciiB b = true) {kr kp : AV → St → Bool} (hk : kr (.raw (.int .i64 (nameB b))) s = true) :
    (sem Tryz.prog).call 94 [.str b] s kr kp = true := by
  refine w_call H 16 fn_94 rfl rfl ?_
  rw [nameB_if] at hk
  by_cases h0 : b = []
  · subst h0
    rw [if_pos rfl] at hk
    repeat (first | with_reducible (refine w_one H ?_; constructor) | simp only [rB, rP, rQ, boolA, intA, resultA, resA, reduceIte, reduceCtorEq, Nat.reduceAdd, Nat.reduceLT, Nat.reduceEqDiff, UInt8.reduceToNat, eqB_self, Tryz.results94])
    exact hk
  rw [if_neg h0] at hk
  have e0 := eqB_of h0
  by_cases h1 : b.length > 16
  · have e1 : decide ((b.length : Int) > 16) = true := by simp; omega
    rw [if_pos (Or.inl h1)] at hk
    repeat (first | with_reducible (refine w_one H ?_; constructor) | simp only [rB, rP, rQ, boolA, intA, resultA, resA, reduceIte, reduceCtorEq, Nat.reduceAdd, Nat.reduceLT, Nat.reduceEqDiff, UInt8.reduceToNat, e0, e1, len_str, b_gt, Tryz.results94])
    exact hk
  have e1 : decide ((b.length : Int) > 16) = false := by simp; omega
  by_cases h2 : b = [46]
  · subst h2
    rw [if_pos (Or.inr (Or.inl rfl))] at hk
    repeat (first | with_reducible (refine w_one H ?_; constructor) | simp only [rB, rP, rQ, boolA, intA, resultA, resA, reduceIte, reduceCtorEq, Nat.reduceAdd, Nat.reduceLT, Nat.reduceEqDiff, UInt8.reduceToNat, e0, e1, len_str, b_gt, eqB_self, Tryz.results94])
    exact hk
  have e2 := eqB_of h2
  by_cases h3 : b = [46, 46]
  · subst h3
    rw [if_pos (Or.inr (Or.inr (Or.inl rfl)))] at hk
    repeat (first | with_reducible (refine w_one H ?_; constructor) | simp only [rB, rP, rQ, boolA, intA, resultA, resA, reduceIte, reduceCtorEq, Nat.reduceAdd, Nat.reduceLT, Nat.reduceEqDiff, UInt8.reduceToNat, e0, e1, e2, len_str, b_gt, eqB_self, Tryz.results94])
    exact hk
  have e3 := eqB_of h3
  have ea := fun {r a dst s k kp} => c_any (r := r) (a := a) (dst := dst) (s := s) (k := k) (kp := kp) hb (by omega)
  by_cases h4 : anyB [47, 0] b = true
  · rw [if_pos (Or.inr (Or.inr (Or.inr h4)))] at hk
    repeat (first | with_reducible (refine w_one H ?_; constructor) | simp only [rB, rP, rQ, boolA, intA, resultA, resA, reduceIte, reduceCtorEq, Nat.reduceAdd, Nat.reduceLT, Nat.reduceEqDiff, UInt8.reduceToNat, e0, e1, e2, e3, ea, h4, len_str, b_gt, Tryz.results94])
    exact hk
  · rw [if_neg (by rintro (h | h | h | h) <;> contradiction)] at hk
    have e4 : anyB [47, 0] b = false := by simpa using h4
    repeat (first | with_reducible (refine w_one H ?_; constructor) | simp only [rB, rP, rQ, boolA, intA, resultA, resA, reduceIte, reduceCtorEq, Nat.reduceAdd, Nat.reduceLT, Nat.reduceEqDiff, UInt8.reduceToNat, e0, e1, e2, e3, ea, e4, len_str, b_gt, Tryz.results94])
    exact hk
end Go.AX
namespace Go.AX
open Go.Proofs Go.RowKit
set_option maxRecDepth 100000
set_option linter.unusedSimpArgs false
def pieces : List Nat → List (List Nat)
  | [] => [[]]
  | c :: l => bif Nat.beq c 47 then [] :: pieces l else match pieces l with
    | p :: ps => (c :: p) :: ps
    | [] => [[c]]
theorem findK_shift {c : Nat} : ∀ (b : List Nat) (k : Nat), findByte b c k = (findByte b c 0).map (k + ·)
  | [], k => (rfl)
  | x :: l, k => by
    simp only [findByte]
    cases Nat.beq x c with
    | true => simp
    | false =>
      simp only [cond_false]
      rw [findK_shift l (k + 1), findK_shift l (0 + 1), Option.map_map]
      congr 1
      funext i
      simp only [Function.comp]
      omega
theorem pieces_found : ∀ {b : List Nat} {i : Nat}, findByte b 47 0 = some i → pieces b = b.take i :: pieces (b.drop (i + 1))
  | [], _, h => by simp [findByte] at h
  | x :: l, i, h => by
    simp only [findByte] at h
    cases hx : Nat.beq x 47 with
    | true =>
      have := Nat.eq_of_beq_eq_true hx
      subst this
      rw [hx] at h
      simp only [cond_true, Option.some.injEq] at h
      subst h
      simp [pieces]
    | false =>
      rw [hx] at h
      simp only [cond_false] at h
      rw [findK_shift, Option.map_eq_some_iff] at h
      obtain ⟨j, hj, rfl⟩ := h
      have ih := pieces_found (b := l) hj
      rw [show 0 + 1 + j = j + 1 from by omega]
      simp only [pieces, hx, cond_false, ih, List.take_succ_cons, List.drop_succ_cons]
theorem pieces_none : ∀ {b : List Nat}, findByte b 47 0 = none → pieces b = [b]
  | [], _ => (rfl)
  | x :: l, h => by
    simp only [findByte] at h
    cases hx : Nat.beq x 47 with
    | true => rw [hx] at h; cases h
    | false =>
      rw [hx] at h
      simp only [cond_false] at h
      rw [findK_shift, Option.map_eq_none_iff] at h
      simp only [pieces, hx, cond_false, pieces_none h]
theorem pieces_call {s : St} (H : Ok TE Tryz.prog (primsOf pn)) {b : List Nat} {kr kp : AV → St → Bool} (hk : kr (.fn 135 [.ptr s.nx 0]) (s.alloc (.cells [.str b] 9 0)) = true) :
    (sem Tryz.prog).call 93 [.str b] s kr kp = true := by
  refine w_call H 4 fn_93 rfl rfl ?_
  repeat (first | with_reducible (refine w_one H ?_; constructor) | simp only [rB, rP, rQ, boolA, intA, resultA, resA, reduceIte, reduceCtorEq, Nat.reduceAdd, Nat.reduceLT, Nat.reduceEqDiff, UInt8.reduceToNat, cells_str, Tryz.results93])
  exact hk
theorem pieces_run (H : Ok TE Tryz.prog (primsOf pn)) {y c : Nat} (I : List (List Nat) → St → Prop) (D : St → Prop)
    (hst : ∀ ps s o, I ps s → I ps { s with h := s.h.set c o })
    (hround : ∀ p ps s (kk : AV → St → Bool), I (p :: ps) s → (∀ s', s'.h.get c = s.h.get c → I ps s' → kk (boolA true) s' = true) → (∀ s', D s' → kk (boolA false) s' = true) → roundA (sem Tryz.prog) y [.str p] s kk = true)
    {b : List Nat} {s : St} (hb : b.length ≤ 1000000) (hc : s.h.get c = some (.cells [.str b] 9 0)) (hI : I (pieces b) s) {kr kp : AV → St → Bool} (h1 : ∀ s', I [] s' → kr (.tuple []) s' = true) (h2 : ∀ s', D s' → kr (.tuple []) s' = true) :
    (sem Tryz.prog).call 135 [.yld y, .ptr c 0] s kr kp = true := by
  refine w_call H 21 fn_135 rfl rfl ?_
  repeat (first | with_reducible (refine w_one H ?_; constructor) | simp only [rB, rP, rQ, boolA, intA, resultA, resA, reduceIte, reduceCtorEq, Nat.reduceAdd, Nat.reduceLT, Nat.reduceEqDiff, UInt8.reduceToNat])
  refine w_loop_ind H (fun n t s => ∃ b : List Nat, b.length = n ∧ n ≤ 1000000 ∧ tg t 0 = .yld y ∧ tg t 1 = .ptr c 0 ∧ s.h.get c = some (.cells [.str b] 9 0) ∧ I (pieces b) s)
    ⟨b, rfl, hb, by simp only [rB, rP, rQ, boolA, intA, resultA, resA, reduceIte, reduceCtorEq, Nat.reduceAdd, Nat.reduceLT, Nat.reduceEqDiff, UInt8.reduceToNat], by simp only [rB, rP, rQ, boolA, intA, resultA, resA, reduceIte, reduceCtorEq, Nat.reduceAdd, Nat.reduceLT, Nat.reduceEqDiff, UInt8.reduceToNat], hc, hI⟩ ?_
  clear hI hc hb b
  rintro n t s ih ⟨b, hn, hb, ht0, ht1, hc, hI⟩
  cases h : findByte b 47 0 with
  | some i =>
    have hl := find_lt h
    have e := cutA_some h
    rw [pieces_found h] at hI
    repeat (first | with_reducible (refine w_one H ?_; constructor) | simp only [rB, rP, rQ, boolA, intA, resultA, resA, reduceIte, reduceCtorEq, Nat.reduceAdd, Nat.reduceLT, Nat.reduceEqDiff, UInt8.reduceToNat, ht0, ht1, ld_9, hc, e, c_yld] | (with_reducible refine cut_c H (by decide) (by omega) ?_))
    refine hround _ _ _ _ hI (fun s' hs' hI' => ?_) (fun s' hD => ?_)
    · have hc' := hs'.trans hc
      repeat (first | with_reducible (refine w_one H ?_; constructor) | simp only [rB, rP, rQ, boolA, intA, resultA, resA, reduceIte, reduceCtorEq, Nat.reduceAdd, Nat.reduceLT, Nat.reduceEqDiff, UInt8.reduceToNat, ht0, ht1, st_9, hc'])
      exact ih _ _ _ (by simp; omega) ⟨b.drop (i + 1), rfl, by simp; omega, by simp only [rB, rP, rQ, boolA, intA, resultA, resA, reduceIte, reduceCtorEq, Nat.reduceAdd, Nat.reduceLT, Nat.reduceEqDiff, UInt8.reduceToNat, ht0], by simp only [rB, rP, rQ, boolA, intA, resultA, resA, reduceIte, reduceCtorEq, Nat.reduceAdd, Nat.reduceLT, Nat.reduceEqDiff, UInt8.reduceToNat, ht1], hs_same, hst _ _ _ hI'⟩
    · repeat (first | with_reducible (refine w_one H ?_; constructor) | simp only [rB, rP, rQ, boolA, intA, resultA, resA, reduceIte, reduceCtorEq, Nat.reduceAdd, Nat.reduceLT, Nat.reduceEqDiff, UInt8.reduceToNat, ht0, ht1, Tryz.results135])
      exact h2 _ hD
  | none =>
    have e := cutA_none h
    rw [pieces_none h] at hI
    repeat (first | with_reducible (refine w_one H ?_; constructor) | simp only [rB, rP, rQ, boolA, intA, resultA, resA, reduceIte, reduceCtorEq, Nat.reduceAdd, Nat.reduceLT, Nat.reduceEqDiff, UInt8.reduceToNat, ht0, ht1, ld_9, hc, e, c_yld] | (with_reducible refine cut_c H (by decide) (by omega) ?_))
    refine hround _ _ _ _ hI (fun s' hs' hI' => ?_) (fun s' hD => ?_)
    · repeat (first | with_reducible (refine w_one H ?_; constructor) | simp only [rB, rP, rQ, boolA, intA, resultA, resA, reduceIte, reduceCtorEq, Nat.reduceAdd, Nat.reduceLT, Nat.reduceEqDiff, UInt8.reduceToNat, ht0, ht1, Tryz.results135])
      exact h1 _ hI'
    · repeat (first | with_reducible (refine w_one H ?_; constructor) | simp only [rB, rP, rQ, boolA, intA, resultA, resA, reduceIte, reduceCtorEq, Nat.reduceAdd, Nat.reduceLT, Nat.reduceEqDiff, UInt8.reduceToNat, ht0, ht1, Tryz.results135])
      exact h2 _ hD
theorem range_pieces (H : Ok TE Tryz.prog (primsOf pn)) {f : Operand} {ps : List Tmp} {asg body : Code} {t : Tr AV} {N : Nat} {ds : List AD} {s : St} {k : AE → Ac → St → Bool} {c : Nat} {b : List Nat}
    (J : List (List Nat) → St → Prop) (D : Code → St → Prop) (nx : Nat) (hnx : s.nx = nx)
    (hf : Ac.eval ⟨t, N, ds⟩ f = .fn 135 [.ptr c 0]) (hb : b.length ≤ 1000000) (hc : s.h.get c = some (.cells [.str b] 9 0)) (hcn : c < nx)
    (hst : ∀ l s' i o, (i = c ∨ i = nx ∨ i = nx + 1) → J l s' → J l { s' with h := s'.h.set i o })
    (hJ : J (pieces b) { s with nx := nx + 2 })
    (hbody : ∀ p l s1 t' (k' : AV → St → Bool), J (p :: l) s1 → s1.h.get nx = some (.dfr false) → s1.h.get (nx + 1) = some (.loop .ready none 0 t N ps asg body nx) → setTmps t N ps [.str p] = some t' →
      (∀ s2, s2.h.get c = s1.h.get c → s2.h.get nx = some (.dfr false) → s2.h.get (nx + 1) = some (.loop .ready none 0 t N ps asg body nx) → J l s2 → k' (boolA true) s2 = true) →
      (∀ j s2, s2.h.get nx = some (.dfr false) → s2.h.get (nx + 1) = some (.loop .done (some j) 0 t N ps asg body nx) → D j s2 → k' (boolA false) s2 = true) →
      (sem Tryz.prog).code (some (nx + 1)) asg ⟨t', N, []⟩ s1 (asK (sem Tryz.prog) (nx + 1) body k') = true)
    (hset : ∀ p, ∃ t', setTmps t N ps [.str p] = some t')
    (hD : ∀ j s' o, D j s' → D j { s' with h := s'.h.set (nx + 1) o })
    (h1 : ∀ s2, s2.h.get nx = some (.dfr false) → J [] s2 → k .normal ⟨t, N, .mark nx :: ds⟩ s2 = true)
    (h2 : ∀ j s2, s2.h.get nx = some (.dfr false) → D j s2 → (sem Tryz.prog).code none j ⟨t, N, .mark nx :: ds⟩ s2 k = true) :
    (sem Tryz.prog).code none (.rangeFunc f ps.toArray asg body) ⟨t, N, ds⟩ s k = true := by
  subst hnx
  refine w_range H _ _ hf ?_
  have hn0 : s.nx ≠ s.nx + 1 := by omega
  have hn1 : c ≠ s.nx := by omega
  have hn2 : c ≠ s.nx + 1 := by omega
  refine pieces_run (c := c) H (fun l s' => J l s' ∧ s'.h.get s.nx = some (.dfr false) ∧ s'.h.get (s.nx + 1) = some (.loop .ready none 0 t N ps asg body s.nx))
    (fun s' => ∃ j, D j s' ∧ s'.h.get s.nx = some (.dfr false) ∧ s'.h.get (s.nx + 1) = some (.loop .done (some j) 0 t N ps asg body s.nx)) ?_ ?_ hb ?_ ⟨?_, ?_, ?_⟩ ?_ ?_
  · rintro l s' o ⟨g1, g2, g3⟩
    exact ⟨hst _ _ _ _ (Or.inl rfl) g1, by rw [hs_ne (Ne.symm hn1)]; exact g2, by rw [hs_ne (Ne.symm hn2)]; exact g3⟩
  · rintro p l s' kk ⟨g1, g2, g3⟩ k1 k2
    obtain ⟨t', ht'⟩ := hset p
    refine w_round g3 ht' (hbody p l s' t' kk g1 g2 g3 ht' (fun s2 q1 q2 q3 q4 => k1 s2 q1 ⟨q4, q2, q3⟩) (fun j s2 q2 q3 q4 => k2 s2 ⟨j, q4, q2, q3⟩))
  · show ((s.h.set s.nx (.dfr false)).set (s.nx + 1) _).get c = _
    rw [hs_ne hn2, hs_ne hn1]
    exact hc
  · exact hst _ { s with h := s.h.set s.nx (.dfr false), nx := s.nx + 2 } _ _ (Or.inr (Or.inr rfl)) (hst _ { s with nx := s.nx + 2 } _ _ (Or.inr (Or.inl rfl)) hJ)
  · show ((s.h.set s.nx (.dfr false)).set (s.nx + 1) _).get s.nx = _
    rw [hs_ne hn0, hs_same]
  · exact hs_same
  · rintro s' ⟨g1, g2, g3⟩
    rw [rangeK_normal g3]
    exact h1 _ (by show (s'.h.set (s.nx + 1) _).get s.nx = _; rw [hs_ne hn0]; exact g2) (hst _ _ _ _ (Or.inr (Or.inr rfl)) g1)
  · rintro s' ⟨j, g1, g2, g3⟩
    rw [rangeK_jump g3]
    exact h2 _ _ (by show (s'.h.set (s.nx + 1) _).get s.nx = _; rw [hs_ne hn0]; exact g2) (hD _ _ _ g1)
abbrev SlRep (F : Nat → Prop) (s : St) (V : AV) (names : List (List Nat)) : Prop := SlR 9 F s V names
theorem SlRep.set {F : Nat → Prop} {s : St} {V : AV} {names : List (List Nat)} (h : SlRep F s V names) {i : Nat} (hi : ¬ F i) (o : AO) : SlRep F { s with h := s.h.set i o } V names := by
  rcases h with h | ⟨id, cap, cs, h1, h2, h3, h4, h5⟩
  · exact Or.inl h
  · exact Or.inr ⟨id, cap, cs, h1, h2, h3, by show (s.h.set i o).get id = _; rw [hs_ne (i := id) (j := i) (fun hh => hi (hh ▸ h2))]; exact h4, h5⟩
theorem SlRep.cells1 {F : Nat → Prop} {s : St} {V : AV} {names : List (List Nat)} (h : SlRep F s V names) : V.cells = [V] ∧ V.one = true := by
  rcases h with ⟨rfl, _⟩ | ⟨id, cap, cs, rfl, _⟩ <;> exact ⟨rfl, rfl⟩
theorem SlRep.alloc {F : Nat → Prop} {s : St} {V : AV} {names : List (List Nat)} (h : SlRep F s V names) (o : AO) : SlRep F (s.alloc o) V names := by
  rcases h with h | ⟨id, cap, cs, h1, h2, h3, h4, h5⟩
  · exact Or.inl h
  · exact Or.inr ⟨id, cap, cs, h1, h2, Nat.lt_succ_of_lt h3, by rw [al_ne (by omega)]; exact h4, h5⟩
theorem takeL_eq : ∀ {n : Nat} {l : List AV}, n ≤ l.length → takeL n l = some (l.take n)
  | 0, _, _ => (rfl)
  | _ + 1, [], h => by simp at h
  | n + 1, x :: l, h => by simp only [takeL, takeL_eq (n := n) (l := l) (by simpa using h), List.take_succ_cons]
theorem cutL_zero {n : Nat} {l : List AV} (h : n ≤ l.length) : cutL 0 n l = some (l.take n) := by simp only [cutL, dropL, takeL_eq h]
theorem putL_at : ∀ {l : List AV} {n : Nat} {v : AV}, n < l.length → putL l n [v] = some (l.take n ++ v :: l.drop (n + 1))
  | [], _, _, h => by simp at h
  | x :: l, 0, v, _ => by cases l <;> simp [putL]
  | x :: l, n + 1, v, h => by simp only [putL, putL_at (l := l) (n := n) (v := v) (by simpa using h), List.take_succ_cons, List.drop_succ_cons, List.cons_append]
theorem app_eq {s : St} {V X : AV} : appendA TE s [41, 41] [V, X] = (match lenA X with
  | none => none
  | some n =>
    match firstA s 1 n X with
    | none => none
    | some new => bif Nat.beq new.length (n * 1) && new.all AV.one then growA s 9 { desc := .string, size := 1, bytes := 16, zero := some (.string ⟨#[]⟩) } V n new else none) := by kernel_rfl
theorem app_one {F : Nat → Prop} {q : Nat} {s : St} {V : AV} {names : List (List Nat)} {p : List Nat} (h : SlRep F s V names) (hq : s.h.get q = some (.cells [.str p] 9 0)) (hm : F s.nx) (hn : names.length ≤ 1048575) :
    ∃ V' s1, appendA TE s [41, 41] [V, .slice q 0 1 0 1 true] = some (V', s1) ∧ SlRep F s1 V' (names ++ [p]) ∧ s.nx ≤ s1.nx ∧ ∀ i, ¬ F i → s1.h.get i = s.h.get i := by
  have e0 : firstA s 1 1 (.slice q 0 1 0 1 true) = some [.str p] := by simp [firstA, gc_of hq, cutL, dropL, takeL]
  rw [app_eq]
  simp only [lenA, e0]
  show ∃ V' s1, growA s 9 { desc := .string, size := 1, bytes := 16, zero := some (.string ⟨#[]⟩) } V 1 [.str p] = some (V', s1) ∧ _
  rcases h with ⟨rfl, rfl⟩ | ⟨id, cap, cs, rfl, h2, h3, h4, h5, h6, h7⟩
  · refine ⟨.slice s.nx 0 1 0 1 false, s.alloc (.cells [.str p] 9 2), rfl, Or.inr ⟨s.nx, 1, [.str p], rfl, hm, Nat.lt_succ_self _, al_same, rfl, Nat.le_refl _, rfl⟩, Nat.le_succ _, fun i hi => al_ne (fun hh => hi (hh ▸ hm))⟩
  · by_cases hcap : names.length + 1 ≤ cap
    · refine ⟨.slice id 0 (names.length + 1) 0 cap false, { s with h := s.h.set id (.cells (cs.take names.length ++ .str p :: cs.drop (names.length + 1)) 9 2) }, ?_, Or.inr ⟨id, cap, _, by simp, h2, h3, hs_same, ?_, by simp; omega, ?_⟩, Nat.le_refl _, fun i hi => by show (s.h.set id _).get i = _; rw [hs_ne (i := i) (j := id) (fun hh => hi (hh ▸ h2))]⟩
      · simp only [growA, gc_of h4, Nat.ble_eq.mpr hcap, cond_true, storeCellsA, List.all_cons, one_str, List.all_nil, Bool.and_self, Nat.mul_one, Nat.zero_add, putL_at (l := cs) (n := names.length) (v := .str p) (by omega)]
      · simp; omega
      · rw [List.length_append, List.length_singleton, h7, List.take_append, List.take_of_length_le (by simp)]
        simp
    · have hce : cap = names.length := by omega
      have e1 : Nat.ble (names.length + 1) cap = false := by
        rw [← Bool.not_eq_true, Nat.ble_eq]; omega
      have e2 : Nat.ble ((names.length + 1) * 16) 134217728 = true := Nat.ble_eq.mpr (by omega)
      have e3 : Nat.ble (names.length + 1) 1048576 = true := Nat.ble_eq.mpr (by omega)
      refine ⟨.slice s.nx 0 (names.length + 1) 0 (names.length + 1) false, { h := (s.h.del id).set s.nx (.cells (cs.take names.length ++ [.str p]) 9 2), nx := s.nx + 1 }, ?_, Or.inr ⟨s.nx, names.length + 1, cs.take names.length ++ [.str p], by simp, hm, Nat.lt_succ_self _, hs_same, ?_, by simp, ?_⟩, Nat.le_succ _, fun i hi => ?_⟩
      · simp only [growA, gc_of h4, e1, cond_false, Nat.mul_one, cutL_zero (l := cs) (n := names.length) (by omega), e2, e3, Bool.and_self, cond_true]
        rfl
      · simp; omega
      · rw [h7, List.take_of_length_le (by simp)]; simp
      · show ((s.h.del id).set s.nx _).get i = _
        rw [hs_ne (i := i) (j := s.nx) (fun hh => hi (hh ▸ hm)), Tr.get_del, if_neg (fun hh : i = id => hi (hh ▸ h2))]
theorem app_step {F : Nat → Prop} {q : Nat} {s : St} {V : AV} {names : List (List Nat)} {p : List Nat} {a : Ac} {dst : Option Tmp} {k : Ac → St → Bool} (h : SlRep F s V names) (hq : s.h.get q = some (.cells [.str p] 9 0)) (hm : F s.nx) (hn : names.length ≤ 1048575)
    (hk : ∀ V' s1, SlRep F s1 V' (names ++ [p]) → s.nx ≤ s1.nx → (∀ i, ¬ F i → s1.h.get i = s.h.get i) → putK a dst V' s1 k = true) : putS (appendA TE s [41, 41] [V, .slice q 0 1 0 1 true]) a dst k = true := by
  obtain ⟨V', s1, h1, h2, h3, h4⟩ := app_one h hq hm hn
  rw [h1]
  exact hk _ _ h2 h3 h4
theorem setTmps_one {t : Tr AV} {n p : Nat} {v : AV} (h : p < n) : setTmps t n [p] [v] = some (t.set p v) := by
  have : Nat.blt p n = true := Nat.blt_eq.mpr h
  simp [setTmps, this]
end Go.AX
namespace Go.AX
open Go.Proofs Go.RowKit
set_option maxRecDepth 100000
set_option linter.unusedSimpArgs false
-- light
theorem zero_sl : zeroOf TE 41 = some (.raw (.slice none 0 0)) := by kernel_rfl
theorem zero_str : zeroOf TE 9 = some (.str []) := by kernel_rfl
theorem zero_int : zeroOf TE 3 = some (.raw (.int .i64 0)) := by kernel_rfl
theorem zero_errno : zeroOf TE 33 = some (.raw (.int .i64 0)) := by kernel_rfl
theorem zero_bool : zeroOf TE 4 = some (.raw (.bool false)) := by kernel_rfl
theorem all_sl {s : St} : allocA TE s 41 = some (.ptr s.nx 0, s.alloc (.cells [.raw (.slice none 0 0)] 41 0)) := by simp only [allocA, zero_sl]; rfl
theorem all_str {s : St} : allocA TE s 9 = some (.ptr s.nx 0, s.alloc (.cells [.str []] 9 0)) := by simp only [allocA, zero_str]; rfl
theorem all_int {s : St} : allocA TE s 3 = some (.ptr s.nx 0, s.alloc (.cells [.raw (.int .i64 0)] 3 0)) := by simp only [allocA, zero_int]; rfl
theorem all_errno {s : St} : allocA TE s 33 = some (.ptr s.nx 0, s.alloc (.cells [.raw (.int .i64 0)] 33 0)) := by simp only [allocA, zero_errno]; rfl
theorem all_bool {s : St} : allocA TE s 4 = some (.ptr s.nx 0, s.alloc (.cells [.raw (.bool false)] 4 0)) := by simp only [allocA, zero_bool]; rfl
theorem bs_one {s : St} {p : List Nat} : buildSliceA TE s 41 1 [(0, .str p)] = some (.slice s.nx 0 1 0 1 true, s.alloc (.cells [.str p] 9 0)) := by kernel_rfl
def partsL (b : List Nat) : List (List Nat) := match b with
  | [] => []
  | _ :: _ => pieces b
theorem partsL_ne {b : List Nat} (h : b ≠ []) : partsL b = pieces b := by cases b with | nil => exact absurd rfl h | cons _ _ => rfl
theorem parts_nil (H : Ok TE Tryz.prog (primsOf pn)) {kr kp : AV → St → Bool} (hk : ∀ s', kr (.raw (.slice none 0 0)) s' = true) : (sem Tryz.prog).call 92 [.str []] st0 kr kp = true := by
  refine w_call H 16 fn_92 rfl rfl ?_
  repeat (first | with_reducible (refine w_one H ?_; constructor) | simp only [rB, rQ, boolA, intA, resultA, resA, reduceIte, reduceCtorEq, Nat.reduceAdd, Nat.reduceLT, Nat.reduceEqDiff, UInt8.reduceToNat, all_sl, eqB_self, ld_41, Tryz.results92])
  exact hk _
theorem parts_c (H : Ok TE Tryz.prog (primsOf pn)) {b : List Nat} (hb : b.length ≤ 1000) (hp : (pieces b).length ≤ 60000) {kr kp : AV → St → Bool} (hk : ∀ V s', SlRep (fun _ => True) s' V (partsL b) → kr V s' = true) :
    (sem Tryz.prog).call 92 [.str b] st0 kr kp = true := by
  refine w_call H 16 fn_92 rfl rfl ?_
  by_cases h0 : b = []
  · subst h0
    repeat (first | with_reducible (refine w_one H ?_; constructor) | simp only [rB, rQ, boolA, intA, resultA, resA, reduceIte, reduceCtorEq, Nat.reduceAdd, Nat.reduceLT, Nat.reduceEqDiff, UInt8.reduceToNat, all_sl, eqB_self, ld_41, Tryz.results92])
    exact hk _ _ (Or.inl ⟨rfl, rfl⟩)
  · rw [partsL_ne h0] at hk
    have e0 := eqB_of h0
    repeat (first | with_reducible (refine w_one H ?_; constructor) | simp only [rB, rQ, boolA, intA, resultA, resA, reduceIte, reduceCtorEq, Nat.reduceAdd, Nat.reduceLT, Nat.reduceEqDiff, UInt8.reduceToNat, all_sl, e0] | (with_reducible refine pieces_call H ?_))
    refine range_pieces H (c := 1) (b := b) (fun l s => ∃ dn V, dn ++ l = pieces b ∧ s.h.get 0 = some (.cells [V] 41 0) ∧ SlRep (4 ≤ ·) s V dn ∧ 4 ≤ s.nx) (fun _ _ => False) 2 rfl (by simp only [rB, rQ, boolA, intA, resultA, resA, reduceIte, reduceCtorEq, Nat.reduceAdd, Nat.reduceLT, Nat.reduceEqDiff, UInt8.reduceToNat]) (by omega) rfl (by decide) ?_ ?_ ?_ (fun p => ⟨_, setTmps_one (by decide)⟩) (fun _ _ _ h => h) ?_ (fun _ _ _ h => h.elim)
    · rintro l s' i o hi ⟨dn, V, h1, h2, h3, h4⟩
      have hi' : i = 1 ∨ i = 2 ∨ i = 3 := hi
      exact ⟨dn, V, h1, by show (s'.h.set i o).get 0 = _; rw [hs_ne (by omega)]; exact h2, h3.set (by show ¬ (4 ≤ i); omega) o, h4⟩
    · exact ⟨[], .raw (.slice none 0 0), rfl, rfl, Or.inl ⟨rfl, rfl⟩, Nat.le_refl _⟩
    · rintro p l s1 t' k' ⟨dn, V, h1, h2, h3, h4⟩ g2 g3 ht' k1 k2
      rw [setTmps_one (by decide)] at ht'
      cases ht'
      have hlen : dn.length + (p :: l).length = (pieces b).length := by rw [← h1, List.length_append]
      repeat (first | with_reducible (refine w_one H ?_; constructor) | simp only [rB, rQ, boolA, intA, resultA, resA, reduceIte, reduceCtorEq, Nat.reduceAdd, Nat.reduceLT, Nat.reduceEqDiff, UInt8.reduceToNat])
      rw [asK_normal g3]
      repeat (first | with_reducible (refine w_one H ?_; constructor) | simp only [rB, rQ, boolA, intA, resultA, resA, reduceIte, reduceCtorEq, Nat.reduceAdd, Nat.reduceLT, Nat.reduceEqDiff, UInt8.reduceToNat, ld_41, h2, bs_one])
      refine app_step (F := (4 ≤ ·)) (p := p) (names := dn) ((h3.set (by decide) _).alloc _) al_same (by show 4 ≤ s1.nx + 1; omega) (by simp at hlen; omega) ?_
      intro V' s2 hr hn hfr
      have hn' : s1.nx + 1 ≤ s2.nx := hn
      have f0 := (hfr 0 (by decide)).trans ((al_ne (by show 0 ≠ s1.nx; omega)).trans ((hs_ne (by decide)).trans h2))
      have f1 := (hfr 1 (by decide)).trans ((al_ne (by show 1 ≠ s1.nx; omega)).trans (hs_ne (by decide)))
      have f2 := (hfr 2 (by decide)).trans ((al_ne (by show 2 ≠ s1.nx; omega)).trans ((hs_ne (by decide)).trans g2))
      have f3 := (hfr 3 (by decide)).trans ((al_ne (by show 3 ≠ s1.nx; omega)).trans hs_same)
      obtain ⟨c1, c2⟩ := hr.cells1
      repeat (first | with_reducible (refine w_one H ?_; constructor) | simp only [rB, rQ, boolA, intA, resultA, resA, reduceIte, reduceCtorEq, Nat.reduceAdd, Nat.reduceLT, Nat.reduceEqDiff, UInt8.reduceToNat, st_41 _ _ _ _ c1 c2, f0])
      rw [bodyK_normal ((hs_ne (by decide)).trans f3)]
      refine k1 _ ?_ ?_ hs_same ⟨dn ++ [p], V', ?_, ?_, ?_, ?_⟩
      · exact (hs_ne (by decide)).trans ((hs_ne (by decide)).trans f1)
      · exact (hs_ne (by decide)).trans ((hs_ne (by decide)).trans f2)
      · rw [List.append_assoc]; exact h1
      · exact (hs_ne (by decide)).trans hs_same
      · exact (hr.set (by decide) _).set (by decide) _
      · show 4 ≤ s2.nx; omega
    · rintro s2 g2 ⟨dn, V, h1, h2, h3, h4⟩
      rw [List.append_nil] at h1
      subst h1
      repeat (first | with_reducible (refine w_one H ?_; constructor) | simp only [rB, rQ, boolA, intA, resultA, resA, reduceIte, reduceCtorEq, Nat.reduceAdd, Nat.reduceLT, Nat.reduceEqDiff, UInt8.reduceToNat, ld_41, h2, k_leave_mark g2, Tryz.results92])
      refine hk _ _ ?_
      rcases h3 with h | ⟨id, cap, cs, q1, q2, q3, q4, q5⟩
      · exact Or.inl h
      · exact Or.inr ⟨id, cap, cs, q1, trivial, q3, (hs_ne (by have q2 : 4 ≤ id := q2; omega)).trans q4, q5⟩
theorem pieces_len : ∀ (b : List Nat), (pieces b).length ≤ b.length + 1
  | [] => Nat.le_refl _
  | c :: l => by
    have ih := pieces_len l
    simp only [pieces]
    cases Nat.beq c 47 with
    | true => simp; omega
    | false =>
      simp only [cond_false]
      split
      · rename_i h; rw [h] at ih; simp at ih ⊢; omega
      · simp
theorem pieces_ne : ∀ (b : List Nat), pieces b ≠ []
  | [] => by simp [pieces]
  | c :: l => by
    simp only [pieces]
    cases Nat.beq c 47 with
    | true => simp
    | false =>
      simp only [cond_false]
      split <;> simp
theorem pieces_ascii {b p : List Nat} (_ : asciiB b = true) (_ : p ∈ pieces b) : asciiB p = true := rfl
def allB : List (List Nat) → Bool
  | [] => true
  | p :: l => bif eqB p [] then false else bif badB p then false else allB l
theorem nameB_zero {p : List Nat} : nameB p = 0 ↔ eqB p [] = false ∧ badB p = false := by
  unfold nameB
  cases eqB p [] <;> cases badB p <;> simp
theorem allB_iff : ∀ {l : List (List Nat)}, allB l = true ↔ ∀ p ∈ l, nameB p = 0
  | [] => by simp [allB]
  | p :: l => by
    have ih := allB_iff (l := l)
    simp only [allB, List.mem_cons, forall_eq_or_imp, nameB_zero (p := p), ← ih]
    cases eqB p [] <;> cases badB p <;> simp
def cleanB (b : List Nat) : Bool := bif eqB b [] then true else (allB (pieces b) && (Nat.ble (pieces b).length 8 && Nat.ble b.length 140))
theorem clean_c (H : Ok TE Tryz.prog (primsOf pn)) {b : List Nat} (hb : b.length ≤ 1000) (ha : asciiB b = true) {kr kp : AV → St → Bool} (hk : ∀ s', kr (.raw (.bool (cleanB b))) s' = true) :
    (sem Tryz.prog).call 91 [.str b] st0 kr kp = true := by
  refine w_call H 22 fn_91 rfl rfl ?_
  have hlen := pieces_len b
  by_cases h0 : b = []
  · subst h0
    repeat (first | with_reducible (refine w_one H ?_; constructor) | simp only [rB, rQ, boolA, intA, resultA, resA, reduceIte, reduceCtorEq, Nat.reduceAdd, Nat.reduceLT, Nat.reduceEqDiff, UInt8.reduceToNat, all_bool, eqB_self, st_4, ld_4, Tryz.results91])
    exact hk _
  · have e0 := eqB_of h0
    repeat (first | with_reducible (refine w_one H ?_; constructor) | simp only [rB, rQ, boolA, intA, resultA, resA, reduceIte, reduceCtorEq, Nat.reduceAdd, Nat.reduceLT, Nat.reduceEqDiff, UInt8.reduceToNat, all_bool, all_int, e0, st_3] | (with_reducible refine pieces_call H ?_))
    refine range_pieces H (c := 2) (b := b) (fun l s => ∃ dn, dn ++ l = pieces b ∧ (∀ p ∈ dn, nameB p = 0) ∧ s.h.get 0 = some (.cells [.raw (.bool false)] 4 0) ∧ s.h.get 1 = some (.cells [.raw (.int .i64 (dn.length : Int))] 3 0))
      (fun j s => j = .ret ∧ s.h.get 0 = some (.cells [.raw (.bool false)] 4 0) ∧ ∃ p ∈ pieces b, nameB p ≠ 0) 3 rfl (by simp only [rB, rQ, boolA, intA, resultA, resA, reduceIte, reduceCtorEq, Nat.reduceAdd, Nat.reduceLT, Nat.reduceEqDiff, UInt8.reduceToNat]) (by omega) rfl (by decide) ?_ ?_ ?_ (fun p => ⟨_, setTmps_one (by decide)⟩) ?_ ?_ ?_
    · rintro l s' i o hi ⟨dn, h1, h2, h3, h4⟩
      exact ⟨dn, h1, h2, (hs_ne (by omega)).trans h3, (hs_ne (by omega)).trans h4⟩
    · exact ⟨[], rfl, by simp, rfl, rfl⟩
    · rintro p l s1 t' k' ⟨dn, h1, h2, h3, h4⟩ g2 g3 ht' k1 k2
      rw [setTmps_one (by decide)] at ht'
      cases ht'
      have hl : dn.length + (p :: l).length = (pieces b).length := by rw [← h1, List.length_append]
      have hp : p ∈ pieces b := by rw [← h1]; simp
      have hpa := pieces_ascii ha hp
      have ew : IntKind.i64.wrap ((dn.length : Int) + 1) = ((dn.length + 1 : Nat) : Int) := by
        rw [show (dn.length : Int) + 1 = ((dn.length + 1 : Nat) : Int) from by simp]
        exact wrap_nat (by simp at hl; omega)
      by_cases hz : nameB p = 0
      · have ez : (nameB p != 0) = false := by rw [hz]; rfl
        repeat (first | with_reducible (refine w_one H ?_; constructor) | simp only [rB, rQ, boolA, intA, resultA, resA, reduceIte, reduceCtorEq, Nat.reduceAdd, Nat.reduceLT, Nat.reduceEqDiff, UInt8.reduceToNat])
        rw [asK_normal g3]
        repeat (first | with_reducible (refine w_one H ?_; constructor) | simp only [rB, rQ, boolA, intA, resultA, resA, reduceIte, reduceCtorEq, Nat.reduceAdd, Nat.reduceLT, Nat.reduceEqDiff, UInt8.reduceToNat, ld_3, st_3, h4, b_plus, ew, b_nei, ez] | (with_reducible refine name_c H hpa ?_))
        rw [bodyK_normal ((hs_ne (by decide)).trans hs_same)]
        refine k1 _ ?_ ?_ hs_same ⟨dn ++ [p], ?_, ?_, ?_, ?_⟩
        · exact (hs_ne (by decide)).trans ((hs_ne (by decide)).trans (hs_ne (by decide)))
        · exact (hs_ne (by decide)).trans ((hs_ne (by decide)).trans ((hs_ne (by decide)).trans g2))
        · rw [List.append_assoc]; exact h1
        · intro q hq
          rcases List.mem_append.1 hq with hq | hq
          · exact h2 q hq
          · rw [List.mem_singleton] at hq; rw [hq]; exact hz
        · exact (hs_ne (by decide)).trans ((hs_ne (by decide)).trans ((hs_ne (by decide)).trans h3))
        · rw [List.length_append, List.length_singleton]; exact (hs_ne (by decide)).trans hs_same
      · have ez : (nameB p != 0) = true := by simpa using hz
        repeat (first | with_reducible (refine w_one H ?_; constructor) | simp only [rB, rQ, boolA, intA, resultA, resA, reduceIte, reduceCtorEq, Nat.reduceAdd, Nat.reduceLT, Nat.reduceEqDiff, UInt8.reduceToNat])
        rw [asK_normal g3]
        repeat (first | with_reducible (refine w_one H ?_; constructor) | simp only [rB, rQ, boolA, intA, resultA, resA, reduceIte, reduceCtorEq, Nat.reduceAdd, Nat.reduceLT, Nat.reduceEqDiff, UInt8.reduceToNat, ld_3, st_3, h4, b_plus, ew, b_nei, ez, st_4, h3] | (with_reducible refine name_c H hpa ?_))
        rw [bodyK_ret ((hs_ne (by decide)).trans ((hs_ne (by decide)).trans hs_same))]
        refine k2 _ _ ?_ hs_same ⟨rfl, ?_, p, hp, hz⟩
        · exact (hs_ne (by decide)).trans ((hs_ne (by decide)).trans ((hs_ne (by decide)).trans ((hs_ne (by decide)).trans g2)))
        · exact (hs_ne (by decide)).trans hs_same
    · rintro j s' o ⟨h1, h2, h3⟩
      exact ⟨h1, (hs_ne (by decide)).trans h2, h3⟩
    · rintro s2 g2 ⟨dn, h1, h2, h3, h4⟩
      rw [List.append_nil] at h1
      subst h1
      have hall : allB (pieces b) = true := allB_iff.2 h2
      have hdec : ∀ x y : Nat, Nat.ble x y = decide (x ≤ y) := fun x y => by rw [Bool.eq_iff_iff, Nat.ble_eq, decide_eq_true_eq]
      have hcl : cleanB b = (decide ((pieces b).length ≤ 8) && decide (b.length ≤ 140)) := by
        unfold cleanB; rw [hall, e0, hdec, hdec]; rfl
      rw [hcl] at hk
      by_cases q1 : (pieces b).length ≤ 8
      · have e1 : decide (((pieces b).length : Int) ≤ 8) = true := by simp; omega
        rw [decide_eq_true q1, Bool.true_and] at hk
        by_cases q2 : b.length ≤ 140
        · have e2 : decide ((b.length : Int) ≤ 140) = true := by simp; omega
          rw [decide_eq_true q2] at hk
          repeat (first | with_reducible (refine w_one H ?_; constructor) | simp only [rB, rQ, boolA, intA, resultA, resA, reduceIte, reduceCtorEq, Nat.reduceAdd, Nat.reduceLT, Nat.reduceEqDiff, UInt8.reduceToNat, ld_3, ld_4, st_4, h3, h4, len_str, b_le, e1, e2])
          rw [k_leave_mark ((hs_ne (by decide)).trans g2)]
          repeat (first | with_reducible (refine w_one H ?_; constructor) | simp only [rB, rQ, boolA, intA, resultA, resA, reduceIte, reduceCtorEq, Nat.reduceAdd, Nat.reduceLT, Nat.reduceEqDiff, UInt8.reduceToNat, ld_3, ld_4, st_4, h3, h4, len_str, b_le, e1, e2, Tryz.results91])
          exact hk _
        · have e2 : decide ((b.length : Int) ≤ 140) = false := by simp; omega
          rw [decide_eq_false q2] at hk
          repeat (first | with_reducible (refine w_one H ?_; constructor) | simp only [rB, rQ, boolA, intA, resultA, resA, reduceIte, reduceCtorEq, Nat.reduceAdd, Nat.reduceLT, Nat.reduceEqDiff, UInt8.reduceToNat, ld_3, ld_4, st_4, h3, h4, len_str, b_le, e1, e2])
          rw [k_leave_mark ((hs_ne (by decide)).trans g2)]
          repeat (first | with_reducible (refine w_one H ?_; constructor) | simp only [rB, rQ, boolA, intA, resultA, resA, reduceIte, reduceCtorEq, Nat.reduceAdd, Nat.reduceLT, Nat.reduceEqDiff, UInt8.reduceToNat, ld_3, ld_4, st_4, h3, h4, len_str, b_le, e1, e2, Tryz.results91])
          exact hk _
      · have e1 : decide (((pieces b).length : Int) ≤ 8) = false := by simp; omega
        rw [decide_eq_false q1, Bool.false_and] at hk
        repeat (first | with_reducible (refine w_one H ?_; constructor) | simp only [rB, rQ, boolA, intA, resultA, resA, reduceIte, reduceCtorEq, Nat.reduceAdd, Nat.reduceLT, Nat.reduceEqDiff, UInt8.reduceToNat, ld_3, ld_4, st_4, h3, h4, len_str, b_le, e1])
        rw [k_leave_mark ((hs_ne (by decide)).trans g2)]
        repeat (first | with_reducible (refine w_one H ?_; constructor) | simp only [rB, rQ, boolA, intA, resultA, resA, reduceIte, reduceCtorEq, Nat.reduceAdd, Nat.reduceLT, Nat.reduceEqDiff, UInt8.reduceToNat, ld_3, ld_4, st_4, h3, h4, len_str, b_le, e1, Tryz.results91])
        exact hk _
    · rintro j s2 g2 ⟨rfl, h2, p, hp, hz⟩
      have hcl : cleanB b = false := by
        unfold cleanB
        have : allB (pieces b) = false := by
          rw [← Bool.not_eq_true, allB_iff]
          exact fun hh => hz (hh p hp)
        rw [this, e0]; rfl
      rw [hcl] at hk
      repeat (first | with_reducible (refine w_one H ?_; constructor) | simp only [rB, rQ, boolA, intA, resultA, resA, reduceIte, reduceCtorEq, Nat.reduceAdd, Nat.reduceLT, Nat.reduceEqDiff, UInt8.reduceToNat, ld_4, h2, k_leave_mark g2, Tryz.results91])
      exact hk _
end Go.AX
namespace Go.AX
open Go.Proofs Go.RowKit
set_option maxRecDepth 100000
set_option linter.unusedSimpArgs false
def partsP (args : List AV) (s : St) : Option (AV × St) := match args with
  | [.str b] => bif Nat.ble b.length 1000 then some (mkSl 9 (partsL b) s) else none
  | _ => none
def cleanPr (args : List AV) (s : St) : Option (AV × St) := match args with
  | [.str b] => bif Nat.ble b.length 1000 && asciiB b then some (boolA (cleanB b), s) else none
  | _ => none
def pr1 : Prims := ((primsOf pn).add 92 partsP).add 91 cleanPr
theorem partsP_ok (H : Ok TE Tryz.prog (primsOf pn)) {args : List AV} {s s' : St} {v : AV} {w0 w : World} {E : Em} {Args : List Value} (h : partsP args s = some (v, s')) (hv : VRels E args Args) (hs : Sim w0 E s w) :
    Enters Tryz.prog 92 ∧ CallsIn (FW none) 0 Tryz.prog 92 Args.toArray w fun en w' => ∃ V E', en = .returned V ∧ E.le E' ∧ VRel E' v V ∧ Sim w0 E' s' w' := by
  unfold partsP at h
  split at h
  · rename_i b
    cases hb : Nat.ble b.length 1000 with
    | false => rw [hb] at h; cases h
    | true =>
      rw [hb] at h
      simp only [cond_true, Option.some.injEq] at h
      have hb := Nat.le_of_ble_eq_true hb
      by_cases h0 : b = []
      · subst h0
        cases h
        exact lift_flat rfl rfl (fun kr kp hk => parts_nil H hk) hv hs
      · have hne : partsL b ≠ [] := by rw [partsL_ne h0]; exact pieces_ne b
        have hl := pieces_len b
        have := lift_slice (ty := 9) (s := s) hne rfl (fun kr kp hk => parts_c H hb (by omega) hk) hv hs
        rw [h] at this
        exact this
  · cases h
theorem cleanPr_ok (H : Ok TE Tryz.prog (primsOf pn)) {args : List AV} {s s' : St} {v : AV} {w0 w : World} {E : Em} {Args : List Value} (h : cleanPr args s = some (v, s')) (hv : VRels E args Args) (hs : Sim w0 E s w) :
    Enters Tryz.prog 91 ∧ CallsIn (FW none) 0 Tryz.prog 91 Args.toArray w fun en w' => ∃ V E', en = .returned V ∧ E.le E' ∧ VRel E' v V ∧ Sim w0 E' s' w' := by
  unfold cleanPr at h
  split at h
  · rename_i b
    cases hb : (Nat.ble b.length 1000 && asciiB b) with
    | false => rw [hb] at h; cases h
    | true =>
      rw [hb] at h
      simp only [cond_true, Option.some.injEq, Prod.mk.injEq] at h
      obtain ⟨rfl, rfl⟩ := h
      rw [Bool.and_eq_true] at hb
      exact lift_flat rfl rfl (fun kr kp hk => clean_c H (Nat.le_of_ble_eq_true hb.1) hb.2 hk) hv hs
  · cases h
theorem ok1 (H : Ok TE Tryz.prog (primsOf pn)) : Ok TE Tryz.prog pr1 := ⟨H.prog, prims_add (prims_add H.prims (fun h hv hs => partsP_ok H h hv hs)) (fun h hv hs => cleanPr_ok H h hv hs)⟩
theorem pe1 {g : Nat} {args : List AV} {s : St} (h : g ≠ 268) : pr1.ext g args s = none := pe_ne h
theorem pf1 {g : Nat} {args : List AV} {s : St} (h1 : g ≠ 70) (h2 : g ≠ 138) (h3 : g ≠ 133) (h4 : g ≠ 137) (h5 : g ≠ 92) (h6 : g ≠ 91) : pr1.fn g args s = none := by
  unfold pr1
  rw [add_ne h6, add_ne h5]
  exact pf_ne h1 h2 h3 h4
section
variable {r : Tasks} {a : Ac} {dst : Option Tmp} {s : St} {k : Ac → St → Bool} {kp : AV → St → Bool}
theorem c1_clean {b : List Nat} (hb : b.length ≤ 1000) (ha : asciiB b = true) : callV pr1 r (.fn 91 []) [.str b] a dst s k kp = putK a dst (.raw (.bool (cleanB b))) s k := by
  refine c_prim (pe1 (by decide)) ?_
  unfold pr1
  rw [add_same]
  simp only [List.append_nil, cleanPr, Nat.ble_eq.mpr hb, ha, Bool.and_self, cond_true]
  rfl
theorem c1_parts {b : List Nat} (hb : b.length ≤ 1000) : callV pr1 r (.fn 92 []) [.str b] a dst s k kp = putK a dst (mkSl 9 (partsL b) s).1 (mkSl 9 (partsL b) s).2 k := by
  refine c_prim (pe1 (by decide)) ?_
  unfold pr1
  rw [add_ne (by decide), add_same]
  simp only [List.append_nil, partsP, Nat.ble_eq.mpr hb, cond_true]
theorem strsL_map : ∀ (l : List (List Nat)), strsL (l.map .str) = some l
  | [] => (rfl)
  | x :: l => by simp only [List.map_cons, strsL, strsL_map l]
theorem strs_of {F : Nat → Prop} {V : AV} {names : List (List Nat)} (h : SlRep F s V names) : strsOf s V = some names := by
  rcases h with ⟨rfl, rfl⟩ | ⟨id, cap, cs, rfl, h2, h3, h4, h5, h6, h7⟩
  · rfl
  · simp only [strsOf, gc_of h4, cutL_zero (l := cs) (n := names.length) (by omega), h7, strsL_map]
theorem joinL_len : ∀ {l : List (List Nat)}, (∀ p ∈ l, p.length ≤ 1000) → (joinL [47] l).length ≤ l.length * 1001
  | [], _ => by simp [joinL]
  | [x], h => by have := h x (by simp); simp [joinL]; omega
  | x :: y :: l, h => by
    have h1 := h x (by simp)
    have h2 := joinL_len (l := y :: l) (fun p hp => h p (List.mem_cons_of_mem _ hp))
    simp only [joinL, List.length_append, List.length_cons, List.length_nil] at h2 ⊢
    omega
theorem c1_join {F : Nat → Prop} {V : AV} {names : List (List Nat)} (h : SlRep F s V names) (h1 : names.length ≤ 600) (h2 : ∀ p ∈ names, p.length ≤ 1000) :
    callV pr1 r (.fn 70 []) [V, .str [47]] a dst s k kp = putK a dst (.str (joinL [47] names)) s k := by
  have hl := joinL_len h2
  have e1 : Nat.ble (joinL [47] names).length 1000000 = true := Nat.ble_eq.mpr (by omega)
  have e2 : Nat.ble names.length 1000000 = true := Nat.ble_eq.mpr (by omega)
  refine c_prim (pe1 (by decide)) ?_
  unfold pr1
  rw [add_ne (by decide), add_ne (by decide)]
  show (match strsOf s V with
      | some l => bif Nat.ble (joinL [47] l).length 1000000 && Nat.ble l.length 1000000 then some (AV.str (joinL [47] l), s) else none
      | none => none) = _
  rw [strs_of h]
  simp only [e1, e2, Bool.and_self, cond_true]
end
theorem len_sl {F : Nat → Prop} {s : St} {V : AV} {names : List (List Nat)} (h : SlRep F s V names) : lenOpA TE s [41] [V] = some (intA names.length) := by
  rcases h with ⟨rfl, rfl⟩ | ⟨id, cap, cs, rfl, _⟩ <;> kernel_rfl
theorem ids_sl {F : Nat → Prop} {s : St} {V : AV} {names : List (List Nat)} (h : SlRep F s V names) : idsOf V = [] := by
  rcases h with ⟨rfl, rfl⟩ | ⟨id, cap, cs, rfl, _⟩ <;> rfl
theorem so_sl {id off len ci cap : Nat} {ex : Bool} {lo hi : Option AV} : sliceOpA TE 41 (.slice id off len ci cap ex) lo hi none = match sliceBoundsA len cap lo hi with
    | some (l, h) => bif Nat.blt l cap || Nat.beq l 0 then some (.slice id (off + l * 1) (h - l) (ci + l) (cap - l) ex) else bif ex then some (.slice id off 0 ci 0 true) else some (.esl id off ci l 1)
    | none => none := by
  have h : sliceOpA TE 41 (.slice id off len ci cap ex) lo hi none = (match (some { desc := .string, size := 1, bytes := 16, zero := some (.string ⟨#[]⟩) } : Option TI), sliceBoundsA len cap lo hi with
      | some el, some (l, h) =>
        bif Nat.blt l cap || Nat.beq l 0 then some (.slice id (off + l * el.size) (h - l) (ci + l) (cap - l) ex)
        else bif ex then some (.slice id off 0 ci 0 true)
        else some (.esl id off ci l el.size)
      | _, _ => none) := by kernel_rfl
  rw [h]
  cases sliceBoundsA len cap lo hi with
  | none => rfl
  | some x => rfl
theorem sl_take {F : Nat → Prop} {s : St} {V : AV} {names : List (List Nat)} {j : Nat} (h : SlRep F s V names) (hj : j ≤ names.length) :
    ∃ V', sliceOpA TE 41 V none (some (.raw (.int .i64 (j : Int)))) none = some V' ∧ SlRep F s V' (names.take j) := by
  rcases h with ⟨rfl, rfl⟩ | ⟨id, cap, cs, rfl, h2, h3, h4, h5, h6, h7⟩
  · simp only [List.length_nil, Nat.le_zero_eq] at hj
    subst hj
    exact ⟨.raw (.slice none 0 0), by kernel_rfl, Or.inl ⟨rfl, rfl⟩⟩
  · refine ⟨.slice id 0 j 0 cap false, ?_, Or.inr ⟨id, cap, cs, ?_, h2, h3, h4, h5, ?_, ?_⟩⟩
    · rw [so_sl, sb_hi (i := j) no_cast (by omega)]
      simp
    · rw [List.length_take, Nat.min_eq_left hj]
    · rw [List.length_take]; omega
    · rw [List.length_take, Nat.min_eq_left hj, List.map_take, ← h7, List.take_take, Nat.min_eq_left hj]
theorem mkSl_ne {ty : Nat} {names : List (List Nat)} {s : St} (h : names ≠ []) : mkSl ty names s = (.slice s.nx 0 names.length 0 names.length false, s.alloc (.cells (names.map .str) ty 2)) := by
  cases names with
  | nil => exact absurd rfl h
  | cons _ _ => rfl
theorem pieces_le : ∀ {b p : List Nat}, p ∈ pieces b → p.length ≤ b.length
  | [], p, h => by simp [pieces] at h; subst h; simp
  | x :: l, p, h => by
    simp only [pieces] at h
    cases hx : Nat.beq x 47 with
    | true =>
      rw [hx] at h
      rcases List.mem_cons.1 h with rfl | h
      · simp
      · have := pieces_le h; simp; omega
    | false =>
      rw [hx] at h
      simp only [cond_false] at h
      split at h
      · rename_i q qs hq
        rcases List.mem_cons.1 h with rfl | h
        · have := pieces_le (b := l) (p := q) (by rw [hq]; simp); simp; omega
        · have := pieces_le (b := l) (p := p) (by rw [hq]; simp [h]); simp; omega
      · rw [List.mem_singleton] at h; subst h; simp
def walkP : List (List Nat) → List (List Nat) → Option (List (List Nat))
  | way, [] => some way
  | way, p :: ps => bif eqB p [] then walkP way ps else bif eqB p [46] then walkP way ps else bif eqB p [46, 46] then walkP (way.take (way.length - 1)) ps
    else bif badB p then none else walkP (way ++ [p]) ps
def relB : List Nat → Bool
  | [] => false
  | c :: _ => !(Nat.beq c 47)
def cleanL (cwd b : List Nat) : List Nat × Nat := bif cleanB cwd then (bif eqB b [] then ([], 400) else bif Nat.blt 560 b.length then ([], 403) else
    match walkP (bif relB b then partsL cwd else []) (pieces b) with
    | none => ([], 401)
    | some way => bif Nat.blt 8 way.length then ([], 402) else bif Nat.blt 140 (joinL [47] way).length then ([], 403) else (joinL [47] way, 0)) else ([], 401)
def outC (x : List Nat × Nat) : AV := .tuple [.str x.1, .raw (.int .i64 (x.2 : Int))]
abbrev FC (c i : Nat) : Prop := i ≠ 0 ∧ i ≠ 1 ∧ i ≠ 2 ∧ i ≠ c ∧ i ≠ c + 1 ∧ i ≠ c + 2
end Go.AX
namespace Go.AX
open Go.Proofs Go.RowKit
set_option maxRecDepth 100000
set_option linter.unusedSimpArgs false
-- light
theorem Clean_c (H0 : Ok TE Tryz.prog (primsOf pn)) (H : Ok TE Tryz.prog pr1) {cwd b : List Nat} (hcw : cwd.length ≤ 1000) (hca : asciiB cwd = true) (hba : asciiB b = true) {kr kp : AV → St → Bool} (hk : ∀ s', kr (outC (cleanL cwd b)) s' = true) :
    (sem Tryz.prog).call 49 [.str cwd, .str b] st0 kr kp = true := by
  refine w_call H 63 fn_49 rfl rfl ?_
  have ec := fun {r a dst s k kp} => c1_clean (r := r) (a := a) (dst := dst) (s := s) (k := k) (kp := kp) hcw hca
  unfold cleanL at hk
  cases hcl : cleanB cwd with
  | false =>
    rw [hcl] at hk ec
    repeat (first | with_reducible (refine w_one H ?_; constructor) | simp only [rB, rQ, boolA, intA, resultA, resA, reduceIte, reduceCtorEq, Nat.reduceAdd, Nat.reduceLT, Nat.reduceEqDiff, UInt8.reduceToNat, all_str, all_errno, pe1, pf1, ec, st_9, st_33, ld_9, ld_33, Tryz.results49])
    exact hk _
  | true =>
  rw [hcl] at hk ec
  simp only [cond_true] at hk
  by_cases h0 : b = []
  · subst h0
    repeat (first | with_reducible (refine w_one H ?_; constructor) | simp only [rB, rQ, boolA, intA, resultA, resA, reduceIte, reduceCtorEq, Nat.reduceAdd, Nat.reduceLT, Nat.reduceEqDiff, UInt8.reduceToNat, all_str, all_errno, pe1, pf1, ec, eqB_self, st_9, st_33, ld_9, ld_33, Tryz.results49])
    exact hk _
  have e0 := eqB_of h0
  rw [e0] at hk
  simp only [cond_false] at hk
  by_cases h1 : b.length > 560
  · have e1 : decide ((b.length : Int) > 560) = true := by simp; omega
    rw [Nat.blt_eq.mpr h1] at hk
    repeat (first | with_reducible (refine w_one H ?_; constructor) | simp only [rB, rQ, boolA, intA, resultA, resA, reduceIte, reduceCtorEq, Nat.reduceAdd, Nat.reduceLT, Nat.reduceEqDiff, UInt8.reduceToNat, all_str, all_errno, pe1, pf1, ec, e0, e1, len_str, b_gt, st_9, st_33, ld_9, ld_33, Tryz.results49])
    exact hk _
  have e1 : decide ((b.length : Int) > 560) = false := by simp; omega
  have e1' : Nat.blt 560 b.length = false := by rw [← Bool.not_eq_true, Nat.blt_eq]; exact h1
  rw [e1'] at hk
  simp only [cond_false] at hk
  obtain ⟨c, l0, hb⟩ : ∃ c l, b = c :: l := by cases b with | nil => exact absurd rfl h0 | cons c l => exact ⟨c, l, rfl⟩
  have eb0 : b[0]? = some c := by rw [hb]; rfl
  have hpl := pieces_len b
  generalize hway : (bif relB b then partsL cwd else []) = way0 at hk
  have hcl' : cwd = [] ∨ (pieces cwd).length ≤ 8 := by
    unfold cleanB at hcl
    by_cases hc0 : cwd = []
    · exact Or.inl hc0
    · rw [eqB_of hc0] at hcl
      simp only [cond_false, Bool.and_eq_true] at hcl
      exact Or.inr (Nat.le_of_ble_eq_true hcl.2.1)
  have hpc : (partsL cwd).length ≤ 8 := by
    rcases hcl' with rfl | h
    · simp [partsL]
    · by_cases hc0 : cwd = []
      · subst hc0; simp [partsL]
      · rw [partsL_ne hc0]; exact h
  have hpm : ∀ p ∈ partsL cwd, p.length ≤ 1000 := by
    intro p hp
    by_cases hc0 : cwd = []
    · subst hc0; cases hp
    · rw [partsL_ne hc0] at hp
      exact Nat.le_trans (pieces_le hp) hcw
  have hlen0 : way0.length + (pieces b).length ≤ 600 := by
    subst hway
    cases relB b
    · simp only [cond_false, List.length_nil]; omega
    · simp only [cond_true]; omega
  have hw1 : ∀ p ∈ way0, p.length ≤ 1000 := by
    subst hway
    cases relB b
    · intro p hp; cases hp
    · exact hpm
  by_cases hcc : c = 47
  · have hw0 : way0 = [] := by subst hway hcc; rw [hb]; rfl
    have e2 : ((Int.ofNat c) != 47) = false := by rw [hcc]; rfl
    repeat (first | with_reducible (refine w_one H ?_; constructor) | simp only [rB, rQ, boolA, intA, resultA, resA, reduceIte, reduceCtorEq, Nat.reduceAdd, Nat.reduceLT, Nat.reduceEqDiff, UInt8.reduceToNat, all_str, all_errno, all_sl, pe1, pf1, ec, e0, e1, e2, len_str, ix_str, no_0, eb0, b_gt, b_nei] | (with_reducible refine pieces_call H0 ?_))
    refine range_pieces H0 (c := 3) (b := b) (fun l s => ∃ way V, walkP way l = walkP way0 (pieces b) ∧ s.h.get 0 = some (.cells [.str []] 9 0) ∧ s.h.get 1 = some (.cells [.raw (.int .i64 0)] 33 0) ∧ s.h.get 2 = some (.cells [V] 41 0) ∧ SlRep (FC 3) s V way ∧ way.length + l.length ≤ 600 ∧ (∀ p ∈ way, p.length ≤ 1000) ∧ 6 ≤ s.nx ∧ ∀ q ∈ l, asciiB q = true ∧ q.length ≤ 1000)
      (fun j s => j = .ret ∧ s.h.get 0 = some (.cells [.str []] 9 0) ∧ s.h.get 1 = some (.cells [.raw (.int .i64 401)] 33 0) ∧ walkP way0 (pieces b) = none) 4 rfl (by simp only [rB, rQ, boolA, intA, resultA, resA, reduceIte, reduceCtorEq, Nat.reduceAdd, Nat.reduceLT, Nat.reduceEqDiff, UInt8.reduceToNat]) (by omega) rfl (by decide) ?_ ?_ ?_ (fun p => ⟨_, setTmps_one (by decide)⟩) ?_ ?_ ?_
    · rintro l s' i o hi ⟨way, V, h1, h2, h3, h4, h5, h6, h7, h8, h9⟩
      exact ⟨way, V, h1, (hs_ne (by omega)).trans h2, (hs_ne (by omega)).trans h3, (hs_ne (by omega)).trans h4, h5.set (by unfold FC; omega) o, h6, h7, h8, h9⟩
    · exact ⟨way0, _, rfl, rfl, rfl, rfl, Or.inl ⟨rfl, hw0⟩, hlen0, hw1, Nat.le_refl _, fun q hq => ⟨pieces_ascii hba hq, Nat.le_trans (pieces_le hq) (by omega)⟩⟩
    · rintro p l s1 t' k' ⟨way, V, h1, h2, h3, h4, h5, h6, h7, h8, h9⟩ g2 g3 ht' k1 k2
      rw [setTmps_one (by decide)] at ht'
      cases ht'
      have h6' : way.length + l.length + 1 ≤ 600 := by simp only [List.length_cons] at h6; omega
      repeat (first | with_reducible (refine w_one H ?_; constructor) | simp only [rB, rQ, boolA, intA, resultA, resA, reduceIte, reduceCtorEq, Nat.reduceAdd, Nat.reduceLT, Nat.reduceEqDiff, UInt8.reduceToNat])
      rw [asK_normal g3]
      by_cases p0 : p = []
      · subst p0
        repeat (first | with_reducible (refine w_one H ?_; constructor) | simp only [rB, rQ, boolA, intA, resultA, resA, reduceIte, reduceCtorEq, Nat.reduceAdd, Nat.reduceLT, Nat.reduceEqDiff, UInt8.reduceToNat, pe1, pf1, eqB_self])
        rw [bodyK_normal hs_same]
        refine k1 _ ?_ ?_ hs_same ⟨way, V, ?_, ?_, ?_, ?_, ?_, by omega, h7, h8, fun q hq => h9 q (List.mem_cons_of_mem _ hq)⟩
        · exact (hs_ne (by decide)).trans (hs_ne (by decide))
        · exact (hs_ne (by decide)).trans ((hs_ne (by decide)).trans g2)
        · rw [← h1, walkP, eqB_self]; rfl
        · exact (hs_ne (by decide)).trans ((hs_ne (by decide)).trans h2)
        · exact (hs_ne (by decide)).trans ((hs_ne (by decide)).trans h3)
        · exact (hs_ne (by decide)).trans ((hs_ne (by decide)).trans h4)
        · exact (h5.set (by decide) _).set (by decide) _
      have p0' := eqB_of p0
      by_cases p1 : p = [46]
      · subst p1
        repeat (first | with_reducible (refine w_one H ?_; constructor) | simp only [rB, rQ, boolA, intA, resultA, resA, reduceIte, reduceCtorEq, Nat.reduceAdd, Nat.reduceLT, Nat.reduceEqDiff, UInt8.reduceToNat, pe1, pf1, p0', eqB_self])
        rw [bodyK_normal hs_same]
        refine k1 _ ?_ ?_ hs_same ⟨way, V, ?_, ?_, ?_, ?_, ?_, by omega, h7, h8, fun q hq => h9 q (List.mem_cons_of_mem _ hq)⟩
        · exact (hs_ne (by decide)).trans (hs_ne (by decide))
        · exact (hs_ne (by decide)).trans ((hs_ne (by decide)).trans g2)
        · rw [← h1, walkP, p0', eqB_self]; rfl
        · exact (hs_ne (by decide)).trans ((hs_ne (by decide)).trans h2)
        · exact (hs_ne (by decide)).trans ((hs_ne (by decide)).trans h3)
        · exact (hs_ne (by decide)).trans ((hs_ne (by decide)).trans h4)
        · exact (h5.set (by decide) _).set (by decide) _
      have p1' := eqB_of p1
      by_cases p2 : p = [46, 46]
      · subst p2
        obtain ⟨V', ev, hr⟩ := sl_take (j := way.length - 1) h5 (by omega)
        obtain ⟨c1, c2⟩ := hr.cells1
        have el : ∀ s2, lenOpA TE s2 [41] [V] = some (intA way.length) := fun s2 => by rcases h5 with ⟨rfl, rfl⟩ | ⟨id, cap, cs, rfl, _⟩ <;> kernel_rfl
        have ei := ids_sl h5
        have ew : IntKind.i64.wrap ((way.length : Int) - 1) = (way.length : Int) - 1 := Go.IntWalk.i64_in _ (by omega)
        have em : (if (way.length : Int) - 1 > 0 then (way.length : Int) - 1 else 0) = ((way.length - 1 : Nat) : Int) := by split <;> omega
        repeat (first | with_reducible (refine w_one H ?_; constructor) | simp only [rB, rQ, boolA, intA, resultA, resA, reduceIte, reduceCtorEq, Nat.reduceAdd, Nat.reduceLT, Nat.reduceEqDiff, UInt8.reduceToNat, pe1, pf1, p0', p1', eqB_self, ld_41, h4, el, ei, b_minus, ew, em, ev, st_41 _ _ _ _ c1 c2])
        rw [bodyK_normal ((hs_ne (by decide)).trans hs_same)]
        refine k1 _ ?_ ?_ hs_same ⟨way.take (way.length - 1), V', ?_, ?_, ?_, ?_, ?_, ?_, ?_, h8, fun q hq => h9 q (List.mem_cons_of_mem _ hq)⟩
        · exact (hs_ne (by decide)).trans ((hs_ne (by decide)).trans (hs_ne (by decide)))
        · exact (hs_ne (by decide)).trans ((hs_ne (by decide)).trans ((hs_ne (by decide)).trans g2))
        · rw [← h1, walkP, p0', p1', eqB_self]; rfl
        · exact (hs_ne (by decide)).trans ((hs_ne (by decide)).trans ((hs_ne (by decide)).trans h2))
        · exact (hs_ne (by decide)).trans ((hs_ne (by decide)).trans ((hs_ne (by decide)).trans h3))
        · exact (hs_ne (by decide)).trans hs_same
        · exact ((hr.set (by decide) _).set (by decide) _).set (by decide) _
        · rw [List.length_take]; omega
        · exact fun q hq => h7 q (List.mem_of_mem_take hq)
      have p2' := eqB_of p2
      obtain ⟨hpa, hpl1⟩ := h9 p (by simp)
      cases hbad : badB p with
      | true =>
        have ez : (nameB p != 0) = true := by unfold nameB; rw [p0', hbad]; rfl
        repeat (first | with_reducible (refine w_one H ?_; constructor) | simp only [rB, rQ, boolA, intA, resultA, resA, reduceIte, reduceCtorEq, Nat.reduceAdd, Nat.reduceLT, Nat.reduceEqDiff, UInt8.reduceToNat, pe1, pf1, p0', p1', p2', b_nei, ez, st_9, st_33, h2, h3] | (with_reducible refine name_c H0 hpa ?_))
        rw [bodyK_ret ((hs_ne (by decide)).trans ((hs_ne (by decide)).trans hs_same))]
        refine k2 _ _ ?_ hs_same ⟨rfl, ?_, ?_, ?_⟩
        · exact (hs_ne (by decide)).trans ((hs_ne (by decide)).trans ((hs_ne (by decide)).trans ((hs_ne (by decide)).trans g2)))
        · exact (hs_ne (by decide)).trans ((hs_ne (by decide)).trans hs_same)
        · exact (hs_ne (by decide)).trans hs_same
        · rw [← h1, walkP, p0', p1', p2', hbad]; rfl
      | false =>
        have ez : (nameB p != 0) = false := by unfold nameB; rw [p0', hbad]; rfl
        repeat (first | with_reducible (refine w_one H ?_; constructor) | simp only [rB, rQ, boolA, intA, resultA, resA, reduceIte, reduceCtorEq, Nat.reduceAdd, Nat.reduceLT, Nat.reduceEqDiff, UInt8.reduceToNat, pe1, pf1, p0', p1', p2', b_nei, ez, ld_41, h4, bs_one] | (with_reducible refine name_c H0 hpa ?_))
        refine app_step (F := FC 3) (p := p) (names := way) ((h5.set (by decide) _).alloc _) al_same (by show FC 3 (s1.nx + 1); unfold FC; omega) (by omega) ?_
        intro V' s2 hr hn hfr
        have hn' : s1.nx + 1 ≤ s2.nx := hn
        have hv : ∀ i, i < 6 → ¬ FC 3 i := fun i hi => by unfold FC; omega
        have fr : ∀ i, i < 6 → i ≠ 5 → s2.h.get i = s1.h.get i := fun i hi h5' => (hfr i (hv i hi)).trans ((al_ne (by show i ≠ s1.nx; omega)).trans (hs_ne h5'))
        have f2 := (fr 2 (by decide) (by decide)).trans h4
        have f5 := (hfr 5 (hv 5 (by decide))).trans ((al_ne (by show 5 ≠ s1.nx; omega)).trans hs_same)
        obtain ⟨c1, c2⟩ := hr.cells1
        repeat (first | with_reducible (refine w_one H ?_; constructor) | simp only [rB, rQ, boolA, intA, resultA, resA, reduceIte, reduceCtorEq, Nat.reduceAdd, Nat.reduceLT, Nat.reduceEqDiff, UInt8.reduceToNat, pe1, pf1, st_41 _ _ _ _ c1 c2, f2])
        rw [bodyK_normal ((hs_ne (by decide)).trans f5)]
        refine k1 _ ?_ ?_ hs_same ⟨way ++ [p], V', ?_, ?_, ?_, ?_, ?_, ?_, ?_, ?_, fun q hq => h9 q (List.mem_cons_of_mem _ hq)⟩
        · exact (hs_ne (by decide)).trans ((hs_ne (by decide)).trans (fr 3 (by decide) (by decide)))
        · exact (hs_ne (by decide)).trans ((hs_ne (by decide)).trans ((fr 4 (by decide) (by decide)).trans g2))
        · rw [← h1, walkP, p0', p1', p2', hbad]; rfl
        · exact (hs_ne (by decide)).trans ((hs_ne (by decide)).trans ((fr 0 (by decide) (by decide)).trans h2))
        · exact (hs_ne (by decide)).trans ((hs_ne (by decide)).trans ((fr 1 (by decide) (by decide)).trans h3))
        · exact (hs_ne (by decide)).trans hs_same
        · exact (hr.set (by decide) _).set (by decide) _
        · rw [List.length_append, List.length_singleton]; omega
        · intro q hq
          rcases List.mem_append.1 hq with hq | hq
          · exact h7 q hq
          · rw [List.mem_singleton] at hq; rw [hq]; exact hpl1
        · show 6 ≤ s2.nx; omega
    · rintro j s' o ⟨h1, h2, h3, h4⟩
      exact ⟨h1, (hs_ne (by decide)).trans h2, (hs_ne (by decide)).trans h3, h4⟩
    · rintro s2 g2 ⟨way, V, h1, h2, h3, h4, h5, h6, h7, h8, h9⟩
      rw [walkP] at h1
      rw [← h1] at hk
      simp only at hk
      have h6' : way.length ≤ 600 := by simpa using h6
      have ej := fun {r a dst k kp} => c1_join (r := r) (a := a) (dst := dst) (s := s2) (k := k) (kp := kp) h5 h6' h7
      have el := len_sl h5
      have ei := ids_sl h5
      by_cases q1 : way.length > 8
      · have r1 : decide ((way.length : Int) > 8) = true := by simp; omega
        rw [Nat.blt_eq.mpr q1] at hk
        repeat (first | with_reducible (refine w_one H ?_; constructor) | simp only [rB, rQ, boolA, intA, resultA, resA, reduceIte, reduceCtorEq, Nat.reduceAdd, Nat.reduceLT, Nat.reduceEqDiff, UInt8.reduceToNat, pe1, pf1, ld_41, h4, ej, el, ei, b_gt, r1, st_9, st_33, h2, h3])
        rw [k_leave_mark ((hs_ne (by decide)).trans ((hs_ne (by decide)).trans g2))]
        repeat (first | with_reducible (refine w_one H ?_; constructor) | simp only [rB, rQ, boolA, intA, resultA, resA, reduceIte, reduceCtorEq, Nat.reduceAdd, Nat.reduceLT, Nat.reduceEqDiff, UInt8.reduceToNat, ld_9, ld_33, Tryz.results49])
        exact hk _
      have r1 : decide ((way.length : Int) > 8) = false := by simp; omega
      have r1' : Nat.blt 8 way.length = false := by rw [← Bool.not_eq_true, Nat.blt_eq]; exact q1
      rw [r1'] at hk
      simp only [cond_false] at hk
      by_cases q2 : (joinL [47] way).length > 140
      · have r2 : decide (((joinL [47] way).length : Int) > 140) = true := by simp; omega
        rw [Nat.blt_eq.mpr q2] at hk
        repeat (first | with_reducible (refine w_one H ?_; constructor) | simp only [rB, rQ, boolA, intA, resultA, resA, reduceIte, reduceCtorEq, Nat.reduceAdd, Nat.reduceLT, Nat.reduceEqDiff, UInt8.reduceToNat, pe1, pf1, ld_41, h4, ej, el, ei, b_gt, r1, r2, len_str, st_9, st_33, h2, h3])
        rw [k_leave_mark ((hs_ne (by decide)).trans ((hs_ne (by decide)).trans g2))]
        repeat (first | with_reducible (refine w_one H ?_; constructor) | simp only [rB, rQ, boolA, intA, resultA, resA, reduceIte, reduceCtorEq, Nat.reduceAdd, Nat.reduceLT, Nat.reduceEqDiff, UInt8.reduceToNat, ld_9, ld_33, Tryz.results49])
        exact hk _
      have r2 : decide (((joinL [47] way).length : Int) > 140) = false := by simp; omega
      have r2' : Nat.blt 140 (joinL [47] way).length = false := by rw [← Bool.not_eq_true, Nat.blt_eq]; exact q2
      rw [r2'] at hk
      repeat (first | with_reducible (refine w_one H ?_; constructor) | simp only [rB, rQ, boolA, intA, resultA, resA, reduceIte, reduceCtorEq, Nat.reduceAdd, Nat.reduceLT, Nat.reduceEqDiff, UInt8.reduceToNat, pe1, pf1, ld_41, h4, ej, el, ei, b_gt, r1, r2, len_str, st_9, st_33, h2, h3])
      rw [k_leave_mark ((hs_ne (by decide)).trans ((hs_ne (by decide)).trans g2))]
      repeat (first | with_reducible (refine w_one H ?_; constructor) | simp only [rB, rQ, boolA, intA, resultA, resA, reduceIte, reduceCtorEq, Nat.reduceAdd, Nat.reduceLT, Nat.reduceEqDiff, UInt8.reduceToNat, ld_9, ld_33, Tryz.results49])
      exact hk _
    · rintro j s2 g2 ⟨rfl, h2, h3, h4⟩
      rw [h4] at hk
      repeat (first | with_reducible (refine w_one H ?_; constructor) | simp only [rB, rQ, boolA, intA, resultA, resA, reduceIte, reduceCtorEq, Nat.reduceAdd, Nat.reduceLT, Nat.reduceEqDiff, UInt8.reduceToNat, ld_9, ld_33, h2, h3])
      rw [k_leave_mark g2]
      repeat (first | with_reducible (refine w_one H ?_; constructor) | simp only [rB, rQ, boolA, intA, resultA, resA, reduceIte, reduceCtorEq, Nat.reduceAdd, Nat.reduceLT, Nat.reduceEqDiff, UInt8.reduceToNat, ld_9, ld_33, h2, h3, Tryz.results49])
      exact hk _
  · have hrel : relB b = true := by rw [hb]; simp only [relB, beq_ne hcc]; rfl
    rw [hrel] at hway
    simp only [cond_true] at hway
    have e2 : ((Int.ofNat c) != 47) = true := by
      simp only [bne_iff_ne, ne_eq]
      intro h
      exact hcc (by have h' : ((c : Nat) : Int) = 47 := h; omega)
    have ep := fun {r a dst s k kp} => c1_parts (r := r) (a := a) (dst := dst) (s := s) (k := k) (kp := kp) hcw
    by_cases hc0 : cwd = []
    · have hw0 : way0 = [] := by rw [← hway, hc0]; rfl
      have em : ∀ s, mkSl 9 (partsL cwd) s = (.raw (.slice none 0 0), s) := fun s => by rw [hc0]; rfl
      repeat (first | with_reducible (refine w_one H ?_; constructor) | simp only [rB, rQ, boolA, intA, resultA, resA, reduceIte, reduceCtorEq, Nat.reduceAdd, Nat.reduceLT, Nat.reduceEqDiff, UInt8.reduceToNat, all_str, all_errno, all_sl, pe1, pf1, ec, e0, e1, e2, len_str, ix_str, no_0, eb0, b_gt, b_nei, ep, em, st_41] | (with_reducible refine pieces_call H0 ?_))
      refine range_pieces H0 (c := 3) (b := b) (fun l s => ∃ way V, walkP way l = walkP way0 (pieces b) ∧ s.h.get 0 = some (.cells [.str []] 9 0) ∧ s.h.get 1 = some (.cells [.raw (.int .i64 0)] 33 0) ∧ s.h.get 2 = some (.cells [V] 41 0) ∧ SlRep (FC 3) s V way ∧ way.length + l.length ≤ 600 ∧ (∀ p ∈ way, p.length ≤ 1000) ∧ 6 ≤ s.nx ∧ ∀ q ∈ l, asciiB q = true ∧ q.length ≤ 1000)
        (fun j s => j = .ret ∧ s.h.get 0 = some (.cells [.str []] 9 0) ∧ s.h.get 1 = some (.cells [.raw (.int .i64 401)] 33 0) ∧ walkP way0 (pieces b) = none) 4 rfl (by simp only [rB, rQ, boolA, intA, resultA, resA, reduceIte, reduceCtorEq, Nat.reduceAdd, Nat.reduceLT, Nat.reduceEqDiff, UInt8.reduceToNat]) (by omega) rfl (by decide) ?_ ?_ ?_ (fun p => ⟨_, setTmps_one (by decide)⟩) ?_ ?_ ?_
      · rintro l s' i o hi ⟨way, V, h1, h2, h3, h4, h5, h6, h7, h8, h9⟩
        exact ⟨way, V, h1, (hs_ne (by omega)).trans h2, (hs_ne (by omega)).trans h3, (hs_ne (by omega)).trans h4, h5.set (by unfold FC; omega) o, h6, h7, h8, h9⟩
      · exact ⟨way0, _, rfl, rfl, rfl, rfl, Or.inl ⟨rfl, hw0⟩, hlen0, hw1, Nat.le_refl _, fun q hq => ⟨pieces_ascii hba hq, Nat.le_trans (pieces_le hq) (by omega)⟩⟩
      · rintro p l s1 t' k' ⟨way, V, h1, h2, h3, h4, h5, h6, h7, h8, h9⟩ g2 g3 ht' k1 k2
        rw [setTmps_one (by decide)] at ht'
        cases ht'
        have h6' : way.length + l.length + 1 ≤ 600 := by simp only [List.length_cons] at h6; omega
        repeat (first | with_reducible (refine w_one H ?_; constructor) | simp only [rB, rQ, boolA, intA, resultA, resA, reduceIte, reduceCtorEq, Nat.reduceAdd, Nat.reduceLT, Nat.reduceEqDiff, UInt8.reduceToNat])
        rw [asK_normal g3]
        by_cases p0 : p = []
        · subst p0
          repeat (first | with_reducible (refine w_one H ?_; constructor) | simp only [rB, rQ, boolA, intA, resultA, resA, reduceIte, reduceCtorEq, Nat.reduceAdd, Nat.reduceLT, Nat.reduceEqDiff, UInt8.reduceToNat, pe1, pf1, eqB_self])
          rw [bodyK_normal hs_same]
          refine k1 _ ?_ ?_ hs_same ⟨way, V, ?_, ?_, ?_, ?_, ?_, by omega, h7, h8, fun q hq => h9 q (List.mem_cons_of_mem _ hq)⟩
          · exact (hs_ne (by decide)).trans (hs_ne (by decide))
          · exact (hs_ne (by decide)).trans ((hs_ne (by decide)).trans g2)
          · rw [← h1, walkP, eqB_self]; rfl
          · exact (hs_ne (by decide)).trans ((hs_ne (by decide)).trans h2)
          · exact (hs_ne (by decide)).trans ((hs_ne (by decide)).trans h3)
          · exact (hs_ne (by decide)).trans ((hs_ne (by decide)).trans h4)
          · exact (h5.set (by decide) _).set (by decide) _
        have p0' := eqB_of p0
        by_cases p1 : p = [46]
        · subst p1
          repeat (first | with_reducible (refine w_one H ?_; constructor) | simp only [rB, rQ, boolA, intA, resultA, resA, reduceIte, reduceCtorEq, Nat.reduceAdd, Nat.reduceLT, Nat.reduceEqDiff, UInt8.reduceToNat, pe1, pf1, p0', eqB_self])
          rw [bodyK_normal hs_same]
          refine k1 _ ?_ ?_ hs_same ⟨way, V, ?_, ?_, ?_, ?_, ?_, by omega, h7, h8, fun q hq => h9 q (List.mem_cons_of_mem _ hq)⟩
          · exact (hs_ne (by decide)).trans (hs_ne (by decide))
          · exact (hs_ne (by decide)).trans ((hs_ne (by decide)).trans g2)
          · rw [← h1, walkP, p0', eqB_self]; rfl
          · exact (hs_ne (by decide)).trans ((hs_ne (by decide)).trans h2)
          · exact (hs_ne (by decide)).trans ((hs_ne (by decide)).trans h3)
          · exact (hs_ne (by decide)).trans ((hs_ne (by decide)).trans h4)
          · exact (h5.set (by decide) _).set (by decide) _
        have p1' := eqB_of p1
        by_cases p2 : p = [46, 46]
        · subst p2
          obtain ⟨V', ev, hr⟩ := sl_take (j := way.length - 1) h5 (by omega)
          obtain ⟨c1, c2⟩ := hr.cells1
          have el : ∀ s2, lenOpA TE s2 [41] [V] = some (intA way.length) := fun s2 => by rcases h5 with ⟨rfl, rfl⟩ | ⟨id, cap, cs, rfl, _⟩ <;> kernel_rfl
          have ei := ids_sl h5
          have ew : IntKind.i64.wrap ((way.length : Int) - 1) = (way.length : Int) - 1 := Go.IntWalk.i64_in _ (by omega)
          have em : (if (way.length : Int) - 1 > 0 then (way.length : Int) - 1 else 0) = ((way.length - 1 : Nat) : Int) := by split <;> omega
          repeat (first | with_reducible (refine w_one H ?_; constructor) | simp only [rB, rQ, boolA, intA, resultA, resA, reduceIte, reduceCtorEq, Nat.reduceAdd, Nat.reduceLT, Nat.reduceEqDiff, UInt8.reduceToNat, pe1, pf1, p0', p1', eqB_self, ld_41, h4, el, ei, b_minus, ew, em, ev, st_41 _ _ _ _ c1 c2])
          rw [bodyK_normal ((hs_ne (by decide)).trans hs_same)]
          refine k1 _ ?_ ?_ hs_same ⟨way.take (way.length - 1), V', ?_, ?_, ?_, ?_, ?_, ?_, ?_, h8, fun q hq => h9 q (List.mem_cons_of_mem _ hq)⟩
          · exact (hs_ne (by decide)).trans ((hs_ne (by decide)).trans (hs_ne (by decide)))
          · exact (hs_ne (by decide)).trans ((hs_ne (by decide)).trans ((hs_ne (by decide)).trans g2))
          · rw [← h1, walkP, p0', p1', eqB_self]; rfl
          · exact (hs_ne (by decide)).trans ((hs_ne (by decide)).trans ((hs_ne (by decide)).trans h2))
          · exact (hs_ne (by decide)).trans ((hs_ne (by decide)).trans ((hs_ne (by decide)).trans h3))
          · exact (hs_ne (by decide)).trans hs_same
          · exact ((hr.set (by decide) _).set (by decide) _).set (by decide) _
          · rw [List.length_take]; omega
          · exact fun q hq => h7 q (List.mem_of_mem_take hq)
        have p2' := eqB_of p2
        obtain ⟨hpa, hpl1⟩ := h9 p (by simp)
        cases hbad : badB p with
        | true =>
          have ez : (nameB p != 0) = true := by unfold nameB; rw [p0', hbad]; rfl
          repeat (first | with_reducible (refine w_one H ?_; constructor) | simp only [rB, rQ, boolA, intA, resultA, resA, reduceIte, reduceCtorEq, Nat.reduceAdd, Nat.reduceLT, Nat.reduceEqDiff, UInt8.reduceToNat, pe1, pf1, p0', p1', p2', b_nei, ez, st_9, st_33, h2, h3] | (with_reducible refine name_c H0 hpa ?_))
          rw [bodyK_ret ((hs_ne (by decide)).trans ((hs_ne (by decide)).trans hs_same))]
          refine k2 _ _ ?_ hs_same ⟨rfl, ?_, ?_, ?_⟩
          · exact (hs_ne (by decide)).trans ((hs_ne (by decide)).trans ((hs_ne (by decide)).trans ((hs_ne (by decide)).trans g2)))
          · exact (hs_ne (by decide)).trans ((hs_ne (by decide)).trans hs_same)
          · exact (hs_ne (by decide)).trans hs_same
          · rw [← h1, walkP, p0', p1', p2', hbad]; rfl
        | false =>
          have ez : (nameB p != 0) = false := by unfold nameB; rw [p0', hbad]; rfl
          repeat (first | with_reducible (refine w_one H ?_; constructor) | simp only [rB, rQ, boolA, intA, resultA, resA, reduceIte, reduceCtorEq, Nat.reduceAdd, Nat.reduceLT, Nat.reduceEqDiff, UInt8.reduceToNat, pe1, pf1, p0', p1', p2', b_nei, ez, ld_41, h4, bs_one] | (with_reducible refine name_c H0 hpa ?_))
          refine app_step (F := FC 3) (p := p) (names := way) ((h5.set (by decide) _).alloc _) al_same (by show FC 3 (s1.nx + 1); unfold FC; omega) (by omega) ?_
          intro V' s2 hr hn hfr
          have hn' : s1.nx + 1 ≤ s2.nx := hn
          have hv : ∀ i, i < 6 → ¬ FC 3 i := fun i hi => by unfold FC; omega
          have fr : ∀ i, i < 6 → i ≠ 5 → s2.h.get i = s1.h.get i := fun i hi h5' => (hfr i (hv i hi)).trans ((al_ne (by show i ≠ s1.nx; omega)).trans (hs_ne h5'))
          have f2 := (fr 2 (by decide) (by decide)).trans h4
          have f5 := (hfr 5 (hv 5 (by decide))).trans ((al_ne (by show 5 ≠ s1.nx; omega)).trans hs_same)
          obtain ⟨c1, c2⟩ := hr.cells1
          repeat (first | with_reducible (refine w_one H ?_; constructor) | simp only [rB, rQ, boolA, intA, resultA, resA, reduceIte, reduceCtorEq, Nat.reduceAdd, Nat.reduceLT, Nat.reduceEqDiff, UInt8.reduceToNat, pe1, pf1, st_41 _ _ _ _ c1 c2, f2])
          rw [bodyK_normal ((hs_ne (by decide)).trans f5)]
          refine k1 _ ?_ ?_ hs_same ⟨way ++ [p], V', ?_, ?_, ?_, ?_, ?_, ?_, ?_, ?_, fun q hq => h9 q (List.mem_cons_of_mem _ hq)⟩
          · exact (hs_ne (by decide)).trans ((hs_ne (by decide)).trans (fr 3 (by decide) (by decide)))
          · exact (hs_ne (by decide)).trans ((hs_ne (by decide)).trans ((fr 4 (by decide) (by decide)).trans g2))
          · rw [← h1, walkP, p0', p1', p2', hbad]; rfl
          · exact (hs_ne (by decide)).trans ((hs_ne (by decide)).trans ((fr 0 (by decide) (by decide)).trans h2))
          · exact (hs_ne (by decide)).trans ((hs_ne (by decide)).trans ((fr 1 (by decide) (by decide)).trans h3))
          · exact (hs_ne (by decide)).trans hs_same
          · exact (hr.set (by decide) _).set (by decide) _
          · rw [List.length_append, List.length_singleton]; omega
          · intro q hq
            rcases List.mem_append.1 hq with hq | hq
            · exact h7 q hq
            · rw [List.mem_singleton] at hq; rw [hq]; exact hpl1
          · show 6 ≤ s2.nx; omega
      · rintro j s' o ⟨h1, h2, h3, h4⟩
        exact ⟨h1, (hs_ne (by decide)).trans h2, (hs_ne (by decide)).trans h3, h4⟩
      · rintro s2 g2 ⟨way, V, h1, h2, h3, h4, h5, h6, h7, h8, h9⟩
        rw [walkP] at h1
        rw [← h1] at hk
        simp only at hk
        have h6' : way.length ≤ 600 := by simpa using h6
        have ej := fun {r a dst k kp} => c1_join (r := r) (a := a) (dst := dst) (s := s2) (k := k) (kp := kp) h5 h6' h7
        have el := len_sl h5
        have ei := ids_sl h5
        by_cases q1 : way.length > 8
        · have r1 : decide ((way.length : Int) > 8) = true := by simp; omega
          rw [Nat.blt_eq.mpr q1] at hk
          repeat (first | with_reducible (refine w_one H ?_; constructor) | simp only [rB, rQ, boolA, intA, resultA, resA, reduceIte, reduceCtorEq, Nat.reduceAdd, Nat.reduceLT, Nat.reduceEqDiff, UInt8.reduceToNat, pe1, pf1, ld_41, h4, ej, el, ei, b_gt, r1, st_9, st_33, h2, h3])
          rw [k_leave_mark ((hs_ne (by decide)).trans ((hs_ne (by decide)).trans g2))]
          repeat (first | with_reducible (refine w_one H ?_; constructor) | simp only [rB, rQ, boolA, intA, resultA, resA, reduceIte, reduceCtorEq, Nat.reduceAdd, Nat.reduceLT, Nat.reduceEqDiff, UInt8.reduceToNat, ld_9, ld_33, Tryz.results49])
          exact hk _
        have r1 : decide ((way.length : Int) > 8) = false := by simp; omega
        have r1' : Nat.blt 8 way.length = false := by rw [← Bool.not_eq_true, Nat.blt_eq]; exact q1
        rw [r1'] at hk
        simp only [cond_false] at hk
        by_cases q2 : (joinL [47] way).length > 140
        · have r2 : decide (((joinL [47] way).length : Int) > 140) = true := by simp; omega
          rw [Nat.blt_eq.mpr q2] at hk
          repeat (first | with_reducible (refine w_one H ?_; constructor) | simp only [rB, rQ, boolA, intA, resultA, resA, reduceIte, reduceCtorEq, Nat.reduceAdd, Nat.reduceLT, Nat.reduceEqDiff, UInt8.reduceToNat, pe1, pf1, ld_41, h4, ej, el, ei, b_gt, r1, r2, len_str, st_9, st_33, h2, h3])
          rw [k_leave_mark ((hs_ne (by decide)).trans ((hs_ne (by decide)).trans g2))]
          repeat (first | with_reducible (refine w_one H ?_; constructor) | simp only [rB, rQ, boolA, intA, resultA, resA, reduceIte, reduceCtorEq, Nat.reduceAdd, Nat.reduceLT, Nat.reduceEqDiff, UInt8.reduceToNat, ld_9, ld_33, Tryz.results49])
          exact hk _
        have r2 : decide (((joinL [47] way).length : Int) > 140) = false := by simp; omega
        have r2' : Nat.blt 140 (joinL [47] way).length = false := by rw [← Bool.not_eq_true, Nat.blt_eq]; exact q2
        rw [r2'] at hk
        repeat (first | with_reducible (refine w_one H ?_; constructor) | simp only [rB, rQ, boolA, intA, resultA, resA, reduceIte, reduceCtorEq, Nat.reduceAdd, Nat.reduceLT, Nat.reduceEqDiff, UInt8.reduceToNat, pe1, pf1, ld_41, h4, ej, el, ei, b_gt, r1, r2, len_str, st_9, st_33, h2, h3])
        rw [k_leave_mark ((hs_ne (by decide)).trans ((hs_ne (by decide)).trans g2))]
        repeat (first | with_reducible (refine w_one H ?_; constructor) | simp only [rB, rQ, boolA, intA, resultA, resA, reduceIte, reduceCtorEq, Nat.reduceAdd, Nat.reduceLT, Nat.reduceEqDiff, UInt8.reduceToNat, ld_9, ld_33, Tryz.results49])
        exact hk _
      · rintro j s2 g2 ⟨rfl, h2, h3, h4⟩
        rw [h4] at hk
        repeat (first | with_reducible (refine w_one H ?_; constructor) | simp only [rB, rQ, boolA, intA, resultA, resA, reduceIte, reduceCtorEq, Nat.reduceAdd, Nat.reduceLT, Nat.reduceEqDiff, UInt8.reduceToNat, ld_9, ld_33, h2, h3])
        rw [k_leave_mark g2]
        repeat (first | with_reducible (refine w_one H ?_; constructor) | simp only [rB, rQ, boolA, intA, resultA, resA, reduceIte, reduceCtorEq, Nat.reduceAdd, Nat.reduceLT, Nat.reduceEqDiff, UInt8.reduceToNat, ld_9, ld_33, h2, h3, Tryz.results49])
        exact hk _
    · have hne : partsL cwd ≠ [] := by rw [partsL_ne hc0]; exact pieces_ne cwd
      have em : ∀ s, mkSl 9 (partsL cwd) s = (.slice s.nx 0 (partsL cwd).length 0 (partsL cwd).length false, s.alloc (.cells ((partsL cwd).map .str) 9 2)) := fun s => mkSl_ne hne
      rw [hway] at em
      repeat (first | with_reducible (refine w_one H ?_; constructor) | simp only [rB, rQ, boolA, intA, resultA, resA, reduceIte, reduceCtorEq, Nat.reduceAdd, Nat.reduceLT, Nat.reduceEqDiff, UInt8.reduceToNat, all_str, all_errno, all_sl, pe1, pf1, ec, e0, e1, e2, len_str, ix_str, no_0, eb0, b_gt, b_nei, ep, em, st_41, hway] | (with_reducible refine pieces_call H0 ?_))
      have hr0 : ∀ s : St, 3 < s.nx → s.h.get 3 = some (.cells (way0.map .str) 9 2) → SlRep (FC 4) s (.slice 3 0 way0.length 0 way0.length false) way0 := fun s h1 h2 =>
        Or.inr ⟨3, way0.length, way0.map .str, rfl, by decide, h1, h2, by simp, Nat.le_refl _, by rw [List.take_of_length_le (by simp)]⟩
      refine range_pieces H0 (c := 4) (b := b) (fun l s => ∃ way V, walkP way l = walkP way0 (pieces b) ∧ s.h.get 0 = some (.cells [.str []] 9 0) ∧ s.h.get 1 = some (.cells [.raw (.int .i64 0)] 33 0) ∧ s.h.get 2 = some (.cells [V] 41 0) ∧ SlRep (FC 4) s V way ∧ way.length + l.length ≤ 600 ∧ (∀ p ∈ way, p.length ≤ 1000) ∧ 7 ≤ s.nx ∧ ∀ q ∈ l, asciiB q = true ∧ q.length ≤ 1000)
        (fun j s => j = .ret ∧ s.h.get 0 = some (.cells [.str []] 9 0) ∧ s.h.get 1 = some (.cells [.raw (.int .i64 401)] 33 0) ∧ walkP way0 (pieces b) = none) 5 rfl (by simp only [rB, rQ, boolA, intA, resultA, resA, reduceIte, reduceCtorEq, Nat.reduceAdd, Nat.reduceLT, Nat.reduceEqDiff, UInt8.reduceToNat]) (by omega) (by exact al_same) (by decide) ?_ ?_ ?_ (fun p => ⟨_, setTmps_one (by decide)⟩) ?_ ?_ ?_
      · rintro l s' i o hi ⟨way, V, h1, h2, h3, h4, h5, h6, h7, h8, h9⟩
        exact ⟨way, V, h1, (hs_ne (by omega)).trans h2, (hs_ne (by omega)).trans h3, (hs_ne (by omega)).trans h4, h5.set (by unfold FC; omega) o, h6, h7, h8, h9⟩
      · exact ⟨way0, .slice 3 0 way0.length 0 way0.length false, rfl, by simp only [rB, rQ, boolA, intA, resultA, resA, reduceIte, reduceCtorEq, Nat.reduceAdd, Nat.reduceLT, Nat.reduceEqDiff, UInt8.reduceToNat], by simp only [rB, rQ, boolA, intA, resultA, resA, reduceIte, reduceCtorEq, Nat.reduceAdd, Nat.reduceLT, Nat.reduceEqDiff, UInt8.reduceToNat], by simp only [rB, rQ, boolA, intA, resultA, resA, reduceIte, reduceCtorEq, Nat.reduceAdd, Nat.reduceLT, Nat.reduceEqDiff, UInt8.reduceToNat], hr0 _ (by show 3 < 7; decide) (by simp only [rB, rQ, boolA, intA, resultA, resA, reduceIte, reduceCtorEq, Nat.reduceAdd, Nat.reduceLT, Nat.reduceEqDiff, UInt8.reduceToNat]), hlen0, hw1, Nat.le_refl _, fun q hq => ⟨pieces_ascii hba hq, Nat.le_trans (pieces_le hq) (by omega)⟩⟩
      · rintro p l s1 t' k' ⟨way, V, h1, h2, h3, h4, h5, h6, h7, h8, h9⟩ g2 g3 ht' k1 k2
        rw [setTmps_one (by decide)] at ht'
        cases ht'
        have h6' : way.length + l.length + 1 ≤ 600 := by simp only [List.length_cons] at h6; omega
        repeat (first | with_reducible (refine w_one H ?_; constructor) | simp only [rB, rQ, boolA, intA, resultA, resA, reduceIte, reduceCtorEq, Nat.reduceAdd, Nat.reduceLT, Nat.reduceEqDiff, UInt8.reduceToNat])
        rw [asK_normal g3]
        by_cases p0 : p = []
        · subst p0
          repeat (first | with_reducible (refine w_one H ?_; constructor) | simp only [rB, rQ, boolA, intA, resultA, resA, reduceIte, reduceCtorEq, Nat.reduceAdd, Nat.reduceLT, Nat.reduceEqDiff, UInt8.reduceToNat, pe1, pf1, eqB_self])
          rw [bodyK_normal hs_same]
          refine k1 _ ?_ ?_ hs_same ⟨way, V, ?_, ?_, ?_, ?_, ?_, by omega, h7, h8, fun q hq => h9 q (List.mem_cons_of_mem _ hq)⟩
          · exact (hs_ne (by decide)).trans (hs_ne (by decide))
          · exact (hs_ne (by decide)).trans ((hs_ne (by decide)).trans g2)
          · rw [← h1, walkP, eqB_self]; rfl
          · exact (hs_ne (by decide)).trans ((hs_ne (by decide)).trans h2)
          · exact (hs_ne (by decide)).trans ((hs_ne (by decide)).trans h3)
          · exact (hs_ne (by decide)).trans ((hs_ne (by decide)).trans h4)
          · exact (h5.set (by decide) _).set (by decide) _
        have p0' := eqB_of p0
        by_cases p1 : p = [46]
        · subst p1
          repeat (first | with_reducible (refine w_one H ?_; constructor) | simp only [rB, rQ, boolA, intA, resultA, resA, reduceIte, reduceCtorEq, Nat.reduceAdd, Nat.reduceLT, Nat.reduceEqDiff, UInt8.reduceToNat, pe1, pf1, p0', eqB_self])
          rw [bodyK_normal hs_same]
          refine k1 _ ?_ ?_ hs_same ⟨way, V, ?_, ?_, ?_, ?_, ?_, by omega, h7, h8, fun q hq => h9 q (List.mem_cons_of_mem _ hq)⟩
          · exact (hs_ne (by decide)).trans (hs_ne (by decide))
          · exact (hs_ne (by decide)).trans ((hs_ne (by decide)).trans g2)
          · rw [← h1, walkP, p0', eqB_self]; rfl
          · exact (hs_ne (by decide)).trans ((hs_ne (by decide)).trans h2)
          · exact (hs_ne (by decide)).trans ((hs_ne (by decide)).trans h3)
          · exact (hs_ne (by decide)).trans ((hs_ne (by decide)).trans h4)
          · exact (h5.set (by decide) _).set (by decide) _
        have p1' := eqB_of p1
        by_cases p2 : p = [46, 46]
        · subst p2
          obtain ⟨V', ev, hr⟩ := sl_take (j := way.length - 1) h5 (by omega)
          obtain ⟨c1, c2⟩ := hr.cells1
          have el : ∀ s2, lenOpA TE s2 [41] [V] = some (intA way.length) := fun s2 => by rcases h5 with ⟨rfl, rfl⟩ | ⟨id, cap, cs, rfl, _⟩ <;> kernel_rfl
          have ei := ids_sl h5
          have ew : IntKind.i64.wrap ((way.length : Int) - 1) = (way.length : Int) - 1 := Go.IntWalk.i64_in _ (by omega)
          have em : (if (way.length : Int) - 1 > 0 then (way.length : Int) - 1 else 0) = ((way.length - 1 : Nat) : Int) := by split <;> omega
          repeat (first | with_reducible (refine w_one H ?_; constructor) | simp only [rB, rQ, boolA, intA, resultA, resA, reduceIte, reduceCtorEq, Nat.reduceAdd, Nat.reduceLT, Nat.reduceEqDiff, UInt8.reduceToNat, pe1, pf1, p0', p1', eqB_self, ld_41, h4, el, ei, b_minus, ew, em, ev, st_41 _ _ _ _ c1 c2])
          rw [bodyK_normal ((hs_ne (by decide)).trans hs_same)]
          refine k1 _ ?_ ?_ hs_same ⟨way.take (way.length - 1), V', ?_, ?_, ?_, ?_, ?_, ?_, ?_, h8, fun q hq => h9 q (List.mem_cons_of_mem _ hq)⟩
          · exact (hs_ne (by decide)).trans ((hs_ne (by decide)).trans (hs_ne (by decide)))
          · exact (hs_ne (by decide)).trans ((hs_ne (by decide)).trans ((hs_ne (by decide)).trans g2))
          · rw [← h1, walkP, p0', p1', eqB_self]; rfl
          · exact (hs_ne (by decide)).trans ((hs_ne (by decide)).trans ((hs_ne (by decide)).trans h2))
          · exact (hs_ne (by decide)).trans ((hs_ne (by decide)).trans ((hs_ne (by decide)).trans h3))
          · exact (hs_ne (by decide)).trans hs_same
          · exact ((hr.set (by decide) _).set (by decide) _).set (by decide) _
          · rw [List.length_take]; omega
          · exact fun q hq => h7 q (List.mem_of_mem_take hq)
        have p2' := eqB_of p2
        obtain ⟨hpa, hpl1⟩ := h9 p (by simp)
        cases hbad : badB p with
        | true =>
          have ez : (nameB p != 0) = true := by unfold nameB; rw [p0', hbad]; rfl
          repeat (first | with_reducible (refine w_one H ?_; constructor) | simp only [rB, rQ, boolA, intA, resultA, resA, reduceIte, reduceCtorEq, Nat.reduceAdd, Nat.reduceLT, Nat.reduceEqDiff, UInt8.reduceToNat, pe1, pf1, p0', p1', p2', b_nei, ez, st_9, st_33, h2, h3] | (with_reducible refine name_c H0 hpa ?_))
          rw [bodyK_ret ((hs_ne (by decide)).trans ((hs_ne (by decide)).trans hs_same))]
          refine k2 _ _ ?_ hs_same ⟨rfl, ?_, ?_, ?_⟩
          · exact (hs_ne (by decide)).trans ((hs_ne (by decide)).trans ((hs_ne (by decide)).trans ((hs_ne (by decide)).trans g2)))
          · exact (hs_ne (by decide)).trans ((hs_ne (by decide)).trans hs_same)
          · exact (hs_ne (by decide)).trans hs_same
          · rw [← h1, walkP, p0', p1', p2', hbad]; rfl
        | false =>
          have ez : (nameB p != 0) = false := by unfold nameB; rw [p0', hbad]; rfl
          repeat (first | with_reducible (refine w_one H ?_; constructor) | simp only [rB, rQ, boolA, intA, resultA, resA, reduceIte, reduceCtorEq, Nat.reduceAdd, Nat.reduceLT, Nat.reduceEqDiff, UInt8.reduceToNat, pe1, pf1, p0', p1', p2', b_nei, ez, ld_41, h4, bs_one] | (with_reducible refine name_c H0 hpa ?_))
          refine app_step (F := FC 4) (p := p) (names := way) ((h5.set (by decide) _).alloc _) al_same (by show FC 4 (s1.nx + 1); unfold FC; omega) (by omega) ?_
          intro V' s2 hr hn hfr
          have hn' : s1.nx + 1 ≤ s2.nx := hn
          have hv : ∀ i, i < 7 → i ≠ 3 → ¬ FC 4 i := fun i hi h3' => by unfold FC; omega
          have fr : ∀ i, i < 7 → i ≠ 6 → i ≠ 3 → s2.h.get i = s1.h.get i := fun i hi h5' h3' => (hfr i (hv i hi h3')).trans ((al_ne (by show i ≠ s1.nx; omega)).trans (hs_ne h5'))
          have f2 := (fr 2 (by decide) (by decide) (by decide)).trans h4
          have f5 := (hfr 6 (hv 6 (by decide) (by decide))).trans ((al_ne (by show 6 ≠ s1.nx; omega)).trans hs_same)
          obtain ⟨c1, c2⟩ := hr.cells1
          repeat (first | with_reducible (refine w_one H ?_; constructor) | simp only [rB, rQ, boolA, intA, resultA, resA, reduceIte, reduceCtorEq, Nat.reduceAdd, Nat.reduceLT, Nat.reduceEqDiff, UInt8.reduceToNat, pe1, pf1, st_41 _ _ _ _ c1 c2, f2])
          rw [bodyK_normal ((hs_ne (by decide)).trans f5)]
          refine k1 _ ?_ ?_ hs_same ⟨way ++ [p], V', ?_, ?_, ?_, ?_, ?_, ?_, ?_, ?_, fun q hq => h9 q (List.mem_cons_of_mem _ hq)⟩
          · exact (hs_ne (by decide)).trans ((hs_ne (by decide)).trans (fr 4 (by decide) (by decide) (by decide)))
          · exact (hs_ne (by decide)).trans ((hs_ne (by decide)).trans ((fr 5 (by decide) (by decide) (by decide)).trans g2))
          · rw [← h1, walkP, p0', p1', p2', hbad]; rfl
          · exact (hs_ne (by decide)).trans ((hs_ne (by decide)).trans ((fr 0 (by decide) (by decide) (by decide)).trans h2))
          · exact (hs_ne (by decide)).trans ((hs_ne (by decide)).trans ((fr 1 (by decide) (by decide) (by decide)).trans h3))
          · exact (hs_ne (by decide)).trans hs_same
          · exact (hr.set (by decide) _).set (by decide) _
          · rw [List.length_append, List.length_singleton]; omega
          · intro q hq
            rcases List.mem_append.1 hq with hq | hq
            · exact h7 q hq
            · rw [List.mem_singleton] at hq; rw [hq]; exact hpl1
          · show 7 ≤ s2.nx; omega
      · rintro j s' o ⟨h1, h2, h3, h4⟩
        exact ⟨h1, (hs_ne (by decide)).trans h2, (hs_ne (by decide)).trans h3, h4⟩
      · rintro s2 g2 ⟨way, V, h1, h2, h3, h4, h5, h6, h7, h8, h9⟩
        rw [walkP] at h1
        rw [← h1] at hk
        simp only at hk
        have h6' : way.length ≤ 600 := by simpa using h6
        have ej := fun {r a dst k kp} => c1_join (r := r) (a := a) (dst := dst) (s := s2) (k := k) (kp := kp) h5 h6' h7
        have el := len_sl h5
        have ei := ids_sl h5
        by_cases q1 : way.length > 8
        · have r1 : decide ((way.length : Int) > 8) = true := by simp; omega
          rw [Nat.blt_eq.mpr q1] at hk
          repeat (first | with_reducible (refine w_one H ?_; constructor) | simp only [rB, rQ, boolA, intA, resultA, resA, reduceIte, reduceCtorEq, Nat.reduceAdd, Nat.reduceLT, Nat.reduceEqDiff, UInt8.reduceToNat, pe1, pf1, ld_41, h4, ej, el, ei, b_gt, r1, st_9, st_33, h2, h3])
          rw [k_leave_mark ((hs_ne (by decide)).trans ((hs_ne (by decide)).trans g2))]
          repeat (first | with_reducible (refine w_one H ?_; constructor) | simp only [rB, rQ, boolA, intA, resultA, resA, reduceIte, reduceCtorEq, Nat.reduceAdd, Nat.reduceLT, Nat.reduceEqDiff, UInt8.reduceToNat, ld_9, ld_33, Tryz.results49])
          exact hk _
        have r1 : decide ((way.length : Int) > 8) = false := by simp; omega
        have r1' : Nat.blt 8 way.length = false := by rw [← Bool.not_eq_true, Nat.blt_eq]; exact q1
        rw [r1'] at hk
        simp only [cond_false] at hk
        by_cases q2 : (joinL [47] way).length > 140
        · have r2 : decide (((joinL [47] way).length : Int) > 140) = true := by simp; omega
          rw [Nat.blt_eq.mpr q2] at hk
          repeat (first | with_reducible (refine w_one H ?_; constructor) | simp only [rB, rQ, boolA, intA, resultA, resA, reduceIte, reduceCtorEq, Nat.reduceAdd, Nat.reduceLT, Nat.reduceEqDiff, UInt8.reduceToNat, pe1, pf1, ld_41, h4, ej, el, ei, b_gt, r1, r2, len_str, st_9, st_33, h2, h3])
          rw [k_leave_mark ((hs_ne (by decide)).trans ((hs_ne (by decide)).trans g2))]
          repeat (first | with_reducible (refine w_one H ?_; constructor) | simp only [rB, rQ, boolA, intA, resultA, resA, reduceIte, reduceCtorEq, Nat.reduceAdd, Nat.reduceLT, Nat.reduceEqDiff, UInt8.reduceToNat, ld_9, ld_33, Tryz.results49])
          exact hk _
        have r2 : decide (((joinL [47] way).length : Int) > 140) = false := by simp; omega
        have r2' : Nat.blt 140 (joinL [47] way).length = false := by rw [← Bool.not_eq_true, Nat.blt_eq]; exact q2
        rw [r2'] at hk
        repeat (first | with_reducible (refine w_one H ?_; constructor) | simp only [rB, rQ, boolA, intA, resultA, resA, reduceIte, reduceCtorEq, Nat.reduceAdd, Nat.reduceLT, Nat.reduceEqDiff, UInt8.reduceToNat, pe1, pf1, ld_41, h4, ej, el, ei, b_gt, r1, r2, len_str, st_9, st_33, h2, h3])
        rw [k_leave_mark ((hs_ne (by decide)).trans ((hs_ne (by decide)).trans g2))]
        repeat (first | with_reducible (refine w_one H ?_; constructor) | simp only [rB, rQ, boolA, intA, resultA, resA, reduceIte, reduceCtorEq, Nat.reduceAdd, Nat.reduceLT, Nat.reduceEqDiff, UInt8.reduceToNat, ld_9, ld_33, Tryz.results49])
        exact hk _
      · rintro j s2 g2 ⟨rfl, h2, h3, h4⟩
        rw [h4] at hk
        repeat (first | with_reducible (refine w_one H ?_; constructor) | simp only [rB, rQ, boolA, intA, resultA, resA, reduceIte, reduceCtorEq, Nat.reduceAdd, Nat.reduceLT, Nat.reduceEqDiff, UInt8.reduceToNat, ld_9, ld_33, h2, h3])
        rw [k_leave_mark g2]
        repeat (first | with_reducible (refine w_one H ?_; constructor) | simp only [rB, rQ, boolA, intA, resultA, resA, reduceIte, reduceCtorEq, Nat.reduceAdd, Nat.reduceLT, Nat.reduceEqDiff, UInt8.reduceToNat, ld_9, ld_33, h2, h3, Tryz.results49])
        exact hk _
end Go.AX
namespace Go.AX
open Go.Proofs Go.RowKit
set_option maxRecDepth 100000
set_option linter.unusedSimpArgs false
-- light
def cleanLP (args : List AV) (s : St) : Option (AV × St) := match args with
  | [.str cwd, .str b] => bif Nat.ble cwd.length 1000 && (asciiB cwd && asciiB b) then some (outC (cleanL cwd b), s) else none
  | _ => none
def joinP (a b : List Nat) : List Nat := bif eqB a [] then b else bif eqB b [] then a else a ++ (47 :: b)
def joinPP (args : List AV) (s : St) : Option (AV × St) := match args with
  | [.str a, .str b] => bif Nat.ble (a.length + b.length) 1000000 then some (.str (joinP a b), s) else none
  | _ => none
def pr2 : Prims := (pr1.add 49 cleanLP).add 90 joinPP
theorem join_c {s : St} (H : Ok TE Tryz.prog pr1) {a b : List Nat} (hl : a.length + b.length ≤ 1000000) {kr kp : AV → St → Bool} (hk : kr (.str (joinP a b)) s = true) :
    (sem Tryz.prog).call 90 [.str a, .str b] s kr kp = true := by
  refine w_call H 18 fn_90 rfl rfl ?_
  have h0 := fun {x y : List Nat} (h : x.length + y.length ≤ 1048576) => b_add h
  unfold joinP at hk
  by_cases ha : a = []
  · subst ha
    have hl1 : ([] : List Nat).length + b.length ≤ 1048576 := by omega
    repeat (first | with_reducible (refine w_one H ?_; constructor) | simp only [rB, rQ, boolA, intA, resultA, resA, reduceIte, reduceCtorEq, Nat.reduceAdd, Nat.reduceLT, Nat.reduceEqDiff, UInt8.reduceToNat, eqB_self, b_add hl1, Tryz.results90])
    exact hk
  have ea := eqB_of ha
  rw [ea] at hk
  by_cases hb : b = []
  · subst hb
    have hl1 : a.length + ([] : List Nat).length ≤ 1048576 := by omega
    repeat (first | with_reducible (refine w_one H ?_; constructor) | simp only [rB, rQ, boolA, intA, resultA, resA, reduceIte, reduceCtorEq, Nat.reduceAdd, Nat.reduceLT, Nat.reduceEqDiff, UInt8.reduceToNat, eqB_self, ea, b_add hl1, Tryz.results90])
    exact hk
  have eb := eqB_of hb
  rw [eb] at hk
  have hl1 : a.length + ([47] : List Nat).length ≤ 1048576 := by simp; omega
  have hl2 : (a ++ [47]).length + b.length ≤ 1048576 := by simp; omega
  repeat (first | with_reducible (refine w_one H ?_; constructor) | simp only [rB, rQ, boolA, intA, resultA, resA, reduceIte, reduceCtorEq, Nat.reduceAdd, Nat.reduceLT, Nat.reduceEqDiff, UInt8.reduceToNat, ea, eb, b_add hl1, b_add hl2, Tryz.results90])
  rw [List.append_assoc]
  exact hk
theorem cleanLP_ok (H0 : Ok TE Tryz.prog (primsOf pn)) {args : List AV} {s s' : St} {v : AV} {w0 w : World} {E : Em} {Args : List Value} (h : cleanLP args s = some (v, s')) (hv : VRels E args Args) (hs : Sim w0 E s w) :
    Enters Tryz.prog 49 ∧ CallsIn (FW none) 0 Tryz.prog 49 Args.toArray w fun en w' => ∃ V E', en = .returned V ∧ E.le E' ∧ VRel E' v V ∧ Sim w0 E' s' w' := by
  unfold cleanLP at h
  split at h
  · rename_i cwd b
    cases hb : (Nat.ble cwd.length 1000 && (asciiB cwd && asciiB b)) with
    | false => rw [hb] at h; cases h
    | true =>
      rw [hb] at h
      simp only [cond_true, Option.some.injEq, Prod.mk.injEq] at h
      obtain ⟨rfl, rfl⟩ := h
      simp only [Bool.and_eq_true] at hb
      exact lift_flat rfl rfl (fun kr kp hk => Clean_c H0 (ok1 H0) (Nat.le_of_ble_eq_true hb.1) hb.2.1 hb.2.2 hk) hv hs
  · cases h
theorem joinPP_ok (H0 : Ok TE Tryz.prog (primsOf pn)) {args : List AV} {s s' : St} {v : AV} {w0 w : World} {E : Em} {Args : List Value} (h : joinPP args s = some (v, s')) (hv : VRels E args Args) (hs : Sim w0 E s w) :
    Enters Tryz.prog 90 ∧ CallsIn (FW none) 0 Tryz.prog 90 Args.toArray w fun en w' => ∃ V E', en = .returned V ∧ E.le E' ∧ VRel E' v V ∧ Sim w0 E' s' w' := by
  unfold joinPP at h
  split at h
  · rename_i a b
    cases hb : Nat.ble (a.length + b.length) 1000000 with
    | false => rw [hb] at h; cases h
    | true =>
      rw [hb] at h
      simp only [cond_true, Option.some.injEq, Prod.mk.injEq] at h
      obtain ⟨rfl, rfl⟩ := h
      exact lift_flat rfl rfl (fun kr kp hk => join_c (ok1 H0) (Nat.le_of_ble_eq_true hb) (hk _)) hv hs
  · cases h
theorem ok2 (H0 : Ok TE Tryz.prog (primsOf pn)) : Ok TE Tryz.prog pr2 := ⟨H0.prog, prims_add (prims_add (ok1 H0).prims (fun h hv hs => cleanLP_ok H0 h hv hs)) (fun h hv hs => joinPP_ok H0 h hv hs)⟩
theorem ok0 : Ok TE Tryz.prog (primsOf pn) := ⟨Tryz.progOk, prims_ok Tryz.libOk⟩
end Go.AX
