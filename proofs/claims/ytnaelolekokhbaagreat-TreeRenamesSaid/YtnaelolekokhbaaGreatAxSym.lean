import Derived.Test.YtnaelolekokhbaaGreatAxSem
namespace Go.AX
open Go.RowKit
variable {P : Program} {e : Env} {pr : Prims} {r : Tasks} {rd : Option Nat} {a : Ac} {s : St}

/-! ### Temporaries -/
def tg (t : Tr AV) (i : Nat) : AV := match t.get i with | some v => v | none => undefA
theorem tg_same {t : Tr AV} {i : Nat} {v : AV} : tg (t.set i v) i = v := by simp [tg, Tr.get_set]
theorem tg_ne {t : Tr AV} {i j : Nat} {v : AV} (h : i ≠ j) : tg (t.set j v) i = tg t i := by simp [tg, Tr.get_set, h]
theorem ev_tmp {t : Tr AV} {m : Nat} {ds : List AD} {i : Nat} : Ac.eval ⟨t, m, ds⟩ (.tmp i) = tg t i := (rfl)
theorem ev_int {k : IntKind} {i : Int} : a.eval (.const (.int k i)) = .raw (.int k i) := (rfl)
theorem ev_bool {b : Bool} : a.eval (.const (.bool b)) = .raw (.bool b) := (rfl)
theorem ev_str {d : Array UInt8} : a.eval (.const (.string ⟨d⟩)) = .str (d.toList.map UInt8.toNat) := (rfl)
theorem ev_nilp : a.eval (.const (.pointer none)) = .raw (.pointer none) := (rfl)
theorem ev_nilf : a.eval (.const .nilFunc) = .raw .nilFunc := (rfl)
theorem ev_nils {n c : Nat} : a.eval (.const (.slice none n c)) = .raw (.slice none n c) := (rfl)
theorem ev_func {f : FuncId} : a.eval (.func f) = .fn f [] := (rfl)
theorem in0 {t : Tr AV} {i : Nat} : initTmps t i [] = t := (rfl)
theorem in1 {t : Tr AV} {i : Nat} {v : AV} {vs : List AV} : initTmps t i (v :: vs) = initTmps (t.set i v) (i + 1) vs := (rfl)

/-! ### Continuations -/
section
variable {k : AE → Ac → St → Bool}
theorem k_seq_normal {y : Code} : seqK r rd y k .normal a s = r.code rd y a s k := (rfl)
theorem k_seq_ret {y : Code} : seqK r rd y k .ret a s = k .ret a s := (rfl)
theorem k_seq_exit {i : Nat} {y : Code} : seqK r rd y k (.exit i) a s = k (.exit i) a s := (rfl)
theorem k_seq_panic {v : AV} {y : Code} : seqK r rd y k (.panic v) a s = k (.panic v) a s := (rfl)
theorem k_block_normal {i : Nat} : blockK i k .normal a s = k .normal a s := (rfl)
theorem k_block_ret {i : Nat} : blockK i k .ret a s = k .ret a s := (rfl)
theorem k_block_panic {i : Nat} {v : AV} : blockK i k (.panic v) a s = k (.panic v) a s := (rfl)
theorem k_block_same {i : Nat} : blockK i k (.exit i) a s = k .normal a s := by simp [blockK]
theorem k_block_ne {i j : Nat} (h : j ≠ i) : blockK i k (.exit j) a s = k (.exit j) a s := by
  have : Nat.beq j i = false := by
    cases hb : Nat.beq j i with
    | false => rfl
    | true => exact absurd (Nat.eq_of_beq_eq_true hb) h
  simp [blockK, this]
theorem k_loop_normal {c : Code} : loopK r rd c k .normal a s = r.code rd (.loop c) a s k := (rfl)
theorem k_loop_ret {c : Code} : loopK r rd c k .ret a s = k .ret a s := (rfl)
theorem k_loop_exit {c : Code} {i : Nat} : loopK r rd c k (.exit i) a s = k (.exit i) a s := (rfl)
theorem k_loop_panic {c : Code} {v : AV} : loopK r rd c k (.panic v) a s = k (.panic v) a s := (rfl)
theorem k_call_normal {fn : Func} {kr kp : AV → St → Bool} : callK e r fn kr kp .normal a s = leaveA e r fn a kr kp a.d none s := (rfl)
theorem k_call_ret {fn : Func} {kr kp : AV → St → Bool} : callK e r fn kr kp .ret a s = leaveA e r fn a kr kp a.d none s := (rfl)
theorem k_call_panic {fn : Func} {v : AV} {kr kp : AV → St → Bool} : callK e r fn kr kp (.panic v) a s = leaveA e r fn a kr kp a.d (some v) s := (rfl)
theorem k_leave {fn : Func} {kr kp : AV → St → Bool} : leaveA e r fn a kr kp [] none s = match resultA e fn a s with
    | some v => kr v s
    | none => false := (rfl)
theorem k_leave_panic {fn : Func} {kr kp : AV → St → Bool} {v : AV} : leaveA e r fn a kr kp [] (some v) s = kp v s := (rfl)
theorem k_ops {all l : List Oper} : opsK e pr r rd all l k a s = evOps e pr r rd all l a s k := (rfl)
theorem k_val {dst : Option Tmp} {k : Ac → St → Bool} {v : AV} : valK a dst k v s = putK a dst v s k := (rfl)
theorem k_pan {v : AV} : panK a k v s = k (.panic v) a s := (rfl)

/-! ### Operations -/
theorem o_nil {all : List Oper} : evOps e pr r rd all [] a s k = k .normal a s := (rfl)
theorem o_cons0 {all l : List Oper} {dst : Option Tmp} {op : Op} {ty : TypeId} {pos : String} {after : Array Edge} : evOps e pr r rd all (⟨dst, op, ty, pos, after, none⟩ :: l) a s k =
    evOp e pr r rd ⟨dst, op, ty, pos, after, none⟩ a s (opsK e pr r rd all l k) (panK a k) := (rfl)
theorem o_consG {all l : List Oper} {dst : Option Tmp} {op : Op} {ty : TypeId} {pos : String} {after : Array Edge} {j : Nat} {b : Bool} : evOps e pr r rd all (⟨dst, op, ty, pos, after, some (j, b)⟩ :: l) a s k =
    match wantedA all a ⟨dst, op, ty, pos, after, some (j, b)⟩ with
    | some true => evOp e pr r rd ⟨dst, op, ty, pos, after, none⟩ a s (opsK e pr r rd all l k) (panK a k)
    | some false => putK a dst undefA s (opsK e pr r rd all l k)
    | none => false := (rfl)
end

/-- The temporary that a guard looks at. -/
def gd : List Oper → Nat → Option Tmp
  | [], _ => none
  | o :: _, 0 => o.dst
  | _ :: l, j + 1 => gd l j
theorem gd_zero {l : List Oper} {dst : Option Tmp} {op : Op} {ty : TypeId} {pos : String} {after : Array Edge} {g : Option (Nat × Bool)} : gd (⟨dst, op, ty, pos, after, g⟩ :: l) 0 = dst := (rfl)
theorem gd_succ {l : List Oper} {o : Oper} {j : Nat} : gd (o :: l) (j + 1) = gd l j := (rfl)
theorem gd_get : ∀ (l : List Oper) (j : Nat), gd l j = match l[j]? with | some o => o.dst | none => none
  | [], _ => rfl
  | _ :: _, 0 => rfl
  | o :: l, j + 1 => by simpa [gd] using gd_get l j
def gx (want : Bool) : Option AV → Option Bool
  | some (.raw (.bool b)) => some (b == want)
  | some (.raw (.tuple _)) => some false
  | _ => none
theorem gx_tt : gx true (some (.raw (.bool true))) = some true := (rfl)
theorem gx_tf : gx true (some (.raw (.bool false))) = some false := (rfl)
theorem gx_ft : gx false (some (.raw (.bool true))) = some false := (rfl)
theorem gx_ff : gx false (some (.raw (.bool false))) = some true := (rfl)
theorem gx_undef {b : Bool} : gx b (some undefA) = some false := (rfl)
def gw (want : Bool) (d : Option Tmp) (t : Tr AV) : Option Bool := match d with
  | some d => gx want (t.get d)
  | none => none
theorem gw_some {b : Bool} {d : Tmp} {t : Tr AV} : gw b (some d) t = gx b (t.get d) := (rfl)
theorem gt_same {t : Tr AV} {i : Nat} {v : AV} : (t.set i v).get i = some v := by simp [Tr.get_set]
theorem gt_ne {t : Tr AV} {i j : Nat} {v : AV} (h : i ≠ j) : (t.set j v).get i = t.get i := by simp [Tr.get_set, h]
theorem o_want {all : List Oper} {dst : Option Tmp} {op : Op} {ty : TypeId} {pos : String} {after : Array Edge} {t : Tr AV} {m : Nat} {ds : List AD} {j : Nat} {b : Bool} :
    wantedA all ⟨t, m, ds⟩ ⟨dst, op, ty, pos, after, some (j, b)⟩ = gw b (gd all j) t := by
  rw [gd_get]
  unfold wantedA
  simp only
  cases hj : all[j]? with
  | none => rfl
  | some o =>
    simp only
    cases ho : o.dst with
    | none => rfl
    | some d =>
      simp only [gw_some]
      cases ht : t.get d with
      | none => rfl
      | some v =>
        cases v with
        | raw w => cases w <;> rfl
        | _ => rfl

section
variable {dst : Option Tmp} {ty : TypeId} {pos : String} {after : Array Edge} {k : Ac → St → Bool} {kp : AV → St → Bool}
theorem p_put {d : Tmp} {v : AV} {t : Tr AV} {m : Nat} {ds : List AD} (h : d < m) : putK ⟨t, m, ds⟩ (some d) v s k = k ⟨t.set d v, m, ds⟩ s := by
  have : Nat.blt d m = true := Nat.blt_eq.mpr h
  simp only [putK, Ac.put, this, cond_true]
theorem p_none {v : AV} {t : Tr AV} {m : Nat} {ds : List AD} : putK ⟨t, m, ds⟩ none v s k = k ⟨t, m, ds⟩ s := (rfl)
theorem o_move {x : Operand} : evOp e pr r rd ⟨dst, .move x, ty, pos, after, none⟩ a s k kp = putK a dst (a.eval x) s k := (rfl)
theorem o_assign {x : Operand} : evOp e pr r rd ⟨dst, .assign x, ty, pos, after, none⟩ a s k kp = putK a dst (a.eval x) s k := (rfl)

/-- What an operation that leaves memory alone yields. -/
def putO (o : Option AV) (d : Bool) (a : Ac) (dst : Option Tmp) (s : St) (k : Ac → St → Bool) : Bool := match o with
  | some v => putK a dst v s k
  | none => d
theorem putO_some {v : AV} {d : Bool} : putO (some v) d a dst s k = putK a dst v s k := (rfl)
/-- What an operation that reads yields. -/
def putR (ids : List Nat) (o : Option AV) (d : Bool) (a : Ac) (dst : Option Tmp) (s : St) (k : Ac → St → Bool) : Bool := match o with
  | some v => bif idsIn s ids then putK a dst v s k else false
  | none => d
theorem putR_some {ids : List Nat} {v : AV} {d : Bool} (h : idsIn s ids = true) : putR ids (some v) d a dst s k = putK a dst v s k := by simp [putR, h]
/-- What an operation that turns memory yields. -/
def putS (o : Option (AV × St)) (a : Ac) (dst : Option Tmp) (k : Ac → St → Bool) : Bool := match o with
  | some (v, s') => putK a dst v s' k
  | none => false
theorem putS_some {v : AV} {s' : St} : putS (some (v, s')) a dst k = putK a dst v s' k := (rfl)


/-- An operation of which stepP knows. -/
theorem plain_some {o : Oper} {v : AV} {ids : List Nat} (h : stepP e a s o = some (v, ids)) : plainOp e o a s k = bif idsIn s ids then putK a o.dst v s k else false := by
  simp only [plainOp, h]
theorem plain_none {o : Oper} (h : stepP e a s o = none) : plainOp e o a s k = putS (stepA e a s o) a o.dst k := by
  simp only [plainOp, h, putS]
  split <;> simp_all
theorem plain_quiet {o : Oper} {x : Option AV} (h : stepP e a s o = quietR x) (h' : stepA e a s o = none) : plainOp e o a s k = putO x false a o.dst s k := by
  cases x with
  | some v => rw [plain_some h]; rfl
  | none => rw [plain_none h, h']; rfl
theorem plain_read {o : Oper} {ids : List Nat} {x : Option AV} (h : stepP e a s o = readR ids x) (h' : stepA e a s o = none) : plainOp e o a s k = putR ids x false a o.dst s k := by
  cases x with
  | some v => rw [plain_some h]; rfl
  | none => rw [plain_none h, h']; rfl

def pickA (c x y : AV) : Option AV := match c with | .raw (.bool b) => some (bif b then x else y) | _ => none
theorem pickA_bool {b : Bool} {x y : AV} : pickA (.raw (.bool b)) x y = some (bif b then x else y) := (rfl)
theorem o_pick {c x y : Operand} : evOp e pr r rd ⟨dst, .pick c x y, ty, pos, after, none⟩ a s k kp = putO (pickA (a.eval c) (a.eval x) (a.eval y)) false a dst s k := by
  refine plain_quiet (o := ⟨dst, .pick c x y, ty, pos, after, none⟩) ?_ rfl
  simp only [stepP, pickA]
  cases h : a.eval c with
  | raw v => cases v <;> rfl
  | _ => rfl
theorem o_build {t : TypeId} {parts : List (Nat × Operand)} : evOp e pr r rd ⟨dst, .build t parts.toArray, ty, pos, after, none⟩ a s k kp = putO (buildA e t (parts.map fun q => (q.1, a.eval q.2))) false a dst s k :=
  plain_quiet (o := ⟨dst, .build t parts.toArray, ty, pos, after, none⟩) rfl rfl
theorem o_load {t : TypeId} {x : Operand} : evOp e pr r rd ⟨dst, .load t x, ty, pos, after, none⟩ a s k kp = putR (idsOf (a.eval x)) (loadA e s t (a.eval x)) false a dst s k :=
  plain_read (o := ⟨dst, .load t x, ty, pos, after, none⟩) rfl rfl
def nilA : AV → Option AV
  | .ptr id off => some (.ptr id off)
  | .fn f c => some (.fn f c)
  | .yld l => some (.yld l)
  | .iface t v => some (.iface t v)
  | _ => none
theorem nilA_ptr {i j : Nat} : nilA (.ptr i j) = some (.ptr i j) := (rfl)
theorem nilA_fn {f : FuncId} {c : List AV} : nilA (.fn f c) = some (.fn f c) := (rfl)
theorem nilA_yld {i : Nat} : nilA (.yld i) = some (.yld i) := (rfl)
theorem o_nilCheck {x : Operand} : evOp e pr r rd ⟨dst, .nilCheck x, ty, pos, after, none⟩ a s k kp = putO (nilA (a.eval x)) false a dst s k := by
  refine plain_quiet (o := ⟨dst, .nilCheck x, ty, pos, after, none⟩) ?_ rfl
  simp only [stepP]
  cases h : a.eval x <;> rfl
theorem o_slice {t : TypeId} {x : Operand} {lo hi mx : Option Operand} : evOp e pr r rd ⟨dst, .slice t x lo hi mx, ty, pos, after, none⟩ a s k kp = putO (sliceOpA e t (a.eval x) (lo.map a.eval) (hi.map a.eval) (mx.map a.eval)) false a dst s k :=
  plain_quiet (o := ⟨dst, .slice t x lo hi mx, ty, pos, after, none⟩) rfl rfl
theorem o_fieldAddr {t : TypeId} {x : Operand} {f : Nat} : evOp e pr r rd ⟨dst, .fieldAddr t x f, ty, pos, after, none⟩ a s k kp = putO (fieldAddrA e t (a.eval x) f) false a dst s k :=
  plain_quiet (o := ⟨dst, .fieldAddr t x f, ty, pos, after, none⟩) rfl rfl
theorem o_field {t : TypeId} {x : Operand} {f : Nat} : evOp e pr r rd ⟨dst, .field t x f, ty, pos, after, none⟩ a s k kp = putO (fieldA e t (a.eval x) f) false a dst s k :=
  plain_quiet (o := ⟨dst, .field t x f, ty, pos, after, none⟩) rfl rfl
theorem o_indexAddr {t : TypeId} {x i : Operand} : evOp e pr r rd ⟨dst, .indexAddr t x i, ty, pos, after, none⟩ a s k kp = putO (indexAddrA e t (a.eval x) (a.eval i)) false a dst s k :=
  plain_quiet (o := ⟨dst, .indexAddr t x i, ty, pos, after, none⟩) rfl rfl
theorem o_index {t : TypeId} {x i : Operand} : evOp e pr r rd ⟨dst, .index t x i, ty, pos, after, none⟩ a s k kp = putO (indexA e t (a.eval x) (a.eval i)) false a dst s k :=
  plain_quiet (o := ⟨dst, .index t x i, ty, pos, after, none⟩) rfl rfl
theorem o_lookup {t : TypeId} {x i : Operand} {b : Bool} : evOp e pr r rd ⟨dst, .lookup t x i b, ty, pos, after, none⟩ a s k kp = putR (idsOf (a.eval x)) (lookupA e s t (a.eval x) (a.eval i) b) false a dst s k :=
  plain_read (o := ⟨dst, .lookup t x i b, ty, pos, after, none⟩) rfl rfl
theorem o_typeAssert {x : Operand} {t t' : TypeId} {b : Bool} : evOp e pr r rd ⟨dst, .typeAssert x t' t b, ty, pos, after, none⟩ a s k kp = putO (assertA e (a.eval x) t b) false a dst s k :=
  plain_quiet (o := ⟨dst, .typeAssert x t' t b, ty, pos, after, none⟩) rfl rfl
theorem o_makeFunc {f : FuncId} {cap : List Operand} : evOp e pr r rd ⟨dst, .makeFunc (.func f) #[] cap.toArray, ty, pos, after, none⟩ a s k kp = putK a dst (.fn f (cap.map a.eval)) s k := (rfl)
def mkIface (e : Env) (t : TypeId) (v : AV) : Option AV := match e.info t with
  | some ti => bif isIface ti.desc then none else some (.iface t v)
  | none => none
theorem o_makeInterface {t : TypeId} {x : Operand} : evOp e pr r rd ⟨dst, .makeInterface t x, ty, pos, after, none⟩ a s k kp = putO (mkIface e t (a.eval x)) false a dst s k := by
  refine plain_quiet (o := ⟨dst, .makeInterface t x, ty, pos, after, none⟩) ?_ rfl
  simp only [stepP, mkIface]
  cases e.info t with
  | none => rfl
  | some ti => cases h : isIface ti.desc <;> simp only [h, cond_true, cond_false, quietR]
def pureA (x : Option (AV × List Nat)) : Option AV := match x with | some (v, _) => some v | none => none
theorem stepPure_ids {o : Oper} {x : AV × List Nat} (h : stepPure e a o = some x) : x.2 = [] := by
  unfold stepPure at h
  cases hc : (o.op.operands.toList.all (fun x => (toVal (a.eval x)).isSome)) with
  | false => rw [hc] at h; cases h
  | true =>
    rw [hc] at h
    simp only [cond_true] at h
    split at h
    · cases h; rfl
    · cases h
theorem plain_pure {o : Oper} (h : stepP e a s o = stepPure e a o) (h' : stepA e a s o = none) : plainOp e o a s k = putO (pureA (stepPure e a o)) false a o.dst s k := by
  cases hx : stepPure e a o with
  | none => rw [hx] at h; rw [plain_none h, h']; rfl
  | some x =>
    obtain ⟨v, ids⟩ := x
    have := stepPure_ids hx
    simp only at this
    subst this
    rw [hx] at h
    rw [plain_some h]; rfl
theorem o_unOp {u : UnOp} {t : TypeId} {x : Operand} : evOp e pr r rd ⟨dst, .unOp u t x, ty, pos, after, none⟩ a s k kp = putO (pureA (stepPure e a ⟨dst, .unOp u t x, ty, pos, after, none⟩)) false a dst s k :=
  plain_pure (o := ⟨dst, .unOp u t x, ty, pos, after, none⟩) rfl rfl
def exK (e : Env) (v : AV) (i : Nat) (o : Oper) (a : Ac) (dst : Option Tmp) (s : St) (k : Ac → St → Bool) : Bool := match v with
  | .tuple vs => putO vs[i]? false a dst s k
  | _ => plainOp e o a s k
theorem exK_tuple {vs : List AV} {i : Nat} {o : Oper} : exK e (.tuple vs) i o a dst s k = putO vs[i]? false a dst s k := (rfl)
theorem o_extract {x : Operand} {i : Nat} : evOp e pr r rd ⟨dst, .extract x i, ty, pos, after, none⟩ a s k kp = exK e (a.eval x) i ⟨dst, .extract x i, ty, pos, after, none⟩ a dst s k := by
  cases h : a.eval x with
  | tuple vs =>
    refine plain_quiet (o := ⟨dst, .extract x i, ty, pos, after, none⟩) ?_ rfl
    simp only [stepP, h]
  | _ => rfl
def eqS (e : Env) (s : St) (op : BinOp) (t : TypeId) (x y : AV) (d : Option (AV × List Nat)) : Option (AV × List Nat) := match op with
      | .eql => match e.info t with
        | some ti => match eqA ti.desc x y with
          | some b => some (boolA b, [])
          | none => match eqP e s ti.desc x y with
            | some (b, ids) => some (boolA b, ids)
            | none => d
        | none => none
      | .neq => match e.info t with
        | some ti => match eqA ti.desc x y with
          | some b => some (boolA !b, [])
          | none => match eqP e s ti.desc x y with
            | some (b, ids) => some (boolA !b, ids)
            | none => d
        | none => none
      | _ => d
def putB (x : Option AV) (y : Option (AV × List Nat)) (a : Ac) (dst : Option Tmp) (s : St) (k : Ac → St → Bool) : Bool := match x with
  | some v => putK a dst v s k
  | none => match y with
    | some (v, ids) => bif idsIn s ids then putK a dst v s k else false
    | none => false
theorem putB_some {v : AV} {y : Option (AV × List Nat)} : putB (some v) y a dst s k = putK a dst v s k := (rfl)
theorem putB_none {v : AV} {ids : List Nat} (h : idsIn s ids = true) : putB none (some (v, ids)) a dst s k = putK a dst v s k := by simp [putB, h]
theorem o_bin {op : BinOp} {t t' : TypeId} {x y : Operand} : evOp e pr r rd ⟨dst, .binOp op t x y t', ty, pos, after, none⟩ a s k kp =
    putB (binFast op (a.eval x) (a.eval y)) (eqS e s op t (a.eval x) (a.eval y) (stepPure e a ⟨dst, .binOp op t x y t', ty, pos, after, none⟩)) a dst s k := by
  have hA : stepA e a s ⟨dst, .binOp op t x y t', ty, pos, after, none⟩ = none := (rfl)
  show plainOp e ⟨dst, .binOp op t x y t', ty, pos, after, none⟩ a s k = _
  cases h : binFast op (a.eval x) (a.eval y) with
  | some v =>
    have : stepP e a s ⟨dst, .binOp op t x y t', ty, pos, after, none⟩ = some (v, []) := by simp only [stepP, h]
    rw [plain_some this]; rfl
  | none =>
    have : stepP e a s ⟨dst, .binOp op t x y t', ty, pos, after, none⟩ = eqS e s op t (a.eval x) (a.eval y) (stepPure e a ⟨dst, .binOp op t x y t', ty, pos, after, none⟩) := by
      simp only [stepP, h, eqS]
      cases op <;> rfl
    cases hx : eqS e s op t (a.eval x) (a.eval y) (stepPure e a ⟨dst, .binOp op t x y t', ty, pos, after, none⟩) with
    | none => rw [hx] at this; rw [plain_none this, hA]; rfl
    | some z => obtain ⟨v, ids⟩ := z; rw [hx] at this; rw [plain_some this]; rfl

/-! ### Operations that turn memory -/
theorem plain_act {o : Oper} (h : stepP e a s o = none) : plainOp e o a s k = putS (stepA e a s o) a o.dst k := plain_none h
def allocA (e : Env) (s : St) (t : TypeId) : Option (AV × St) := match zeroOf e t with
    | some z => some (.ptr s.nx 0, s.alloc (.cells z.cells t 0))
    | none => none
theorem o_alloc {t : TypeId} : evOp e pr r rd ⟨dst, .alloc t, ty, pos, after, none⟩ a s k kp = putS (allocA e s t) a dst k := plain_act (o := ⟨dst, .alloc t, ty, pos, after, none⟩) rfl
theorem o_box {t : TypeId} {x : Operand} : evOp e pr r rd ⟨dst, .box t x, ty, pos, after, none⟩ a s k kp = putK a dst (.ptr s.nx 0) (s.alloc (.cells (a.eval x).cells t 0)) k := plain_act (e := e) (o := ⟨dst, .box t x, ty, pos, after, none⟩) rfl
theorem o_buildSlice {t : TypeId} {len : Nat} {parts : List (Nat × Operand)} : evOp e pr r rd ⟨dst, .buildSlice t len parts.toArray, ty, pos, after, none⟩ a s k kp = putS (buildSliceA e s t len (parts.map fun q => (q.1, a.eval q.2))) a dst k :=
  plain_act (o := ⟨dst, .buildSlice t len parts.toArray, ty, pos, after, none⟩) rfl
/-- A store: what was stored yields nothing. -/
def putU (o : Option St) (a : Ac) (dst : Option Tmp) (k : Ac → St → Bool) : Bool := match o with
  | some s' => putK a dst undefA s' k
  | none => false
theorem putU_some {s' : St} : putU (some s') a dst k = putK a dst undefA s' k := (rfl)
theorem putS_undef {o : Option St} : putS (undefR o) a dst k = putU o a dst k := by cases o <;> rfl
theorem o_store {t : TypeId} {x v : Operand} : evOp e pr r rd ⟨dst, .store t x v, ty, pos, after, none⟩ a s k kp = putU (storeA e s t (a.eval x) (a.eval v)) a dst k :=
  (plain_act (o := ⟨dst, .store t x v, ty, pos, after, none⟩) rfl).trans putS_undef
theorem o_makeMap {t : TypeId} : evOp e pr r rd ⟨dst, .makeMap t none, ty, pos, after, none⟩ a s k kp = putK a dst (.map s.nx) (s.alloc (.map [])) k := plain_act (e := e) (o := ⟨dst, .makeMap t none, ty, pos, after, none⟩) rfl
theorem o_makeSlice {t : TypeId} {l c : Operand} : evOp e pr r rd ⟨dst, .makeSlice t l c, ty, pos, after, none⟩ a s k kp = putS (makeSliceA e s t (a.eval l) (a.eval c)) a dst k :=
  plain_act (o := ⟨dst, .makeSlice t l c, ty, pos, after, none⟩) rfl
theorem o_mapUpdate {t : TypeId} {m x v : Operand} : evOp e pr r rd ⟨dst, .mapUpdate t m x v, ty, pos, after, none⟩ a s k kp = putU (mapUpdateA e s t (a.eval m) (a.eval x) (a.eval v)) a dst k :=
  (plain_act (o := ⟨dst, .mapUpdate t m x v, ty, pos, after, none⟩) rfl).trans putS_undef
theorem o_insert {t : TypeId} {m x v : Operand} : evOp e pr r rd ⟨dst, .insert t m x v, ty, pos, after, none⟩ a s k kp = putU (mapUpdateA e s t (a.eval m) (a.eval x) (a.eval v)) a dst k :=
  (plain_act (o := ⟨dst, .insert t m x v, ty, pos, after, none⟩) rfl).trans putS_undef
theorem o_append {args : List Operand} {tys : List TypeId} : evOp e pr r rd ⟨dst, .call { callee := .builtin .append, args := args.toArray, argTypes := tys.toArray }, ty, pos, after, none⟩ a s k kp = putS (appendA e s tys (args.map a.eval)) a dst k :=
  plain_act (o := ⟨dst, .call { callee := .builtin .append, args := args.toArray, argTypes := tys.toArray }, ty, pos, after, none⟩) rfl
theorem o_copy {args : List Operand} {tys : List TypeId} : evOp e pr r rd ⟨dst, .call { callee := .builtin .copy, args := args.toArray, argTypes := tys.toArray }, ty, pos, after, none⟩ a s k kp = putS (copyA e s tys (args.map a.eval)) a dst k :=
  plain_act (o := ⟨dst, .call { callee := .builtin .copy, args := args.toArray, argTypes := tys.toArray }, ty, pos, after, none⟩) rfl
theorem o_delete {args : List Operand} {tys : List TypeId} : evOp e pr r rd ⟨dst, .call { callee := .builtin .delete, args := args.toArray, argTypes := tys.toArray }, ty, pos, after, none⟩ a s k kp = putU (deleteA e s tys (args.map a.eval)) a dst k :=
  (plain_act (o := ⟨dst, .call { callee := .builtin .delete, args := args.toArray, argTypes := tys.toArray }, ty, pos, after, none⟩) rfl).trans putS_undef
theorem o_len {x : Operand} {t : TypeId} : evOp e pr r rd ⟨dst, .call { callee := .builtin .len, args := #[x], argTypes := #[t] }, ty, pos, after, none⟩ a s k kp = putR (idsOf (a.eval x)) (lenOpA e s [t] [a.eval x]) false a dst s k :=
  plain_read (o := ⟨dst, .call { callee := .builtin .len, args := #[x], argTypes := #[t] }, ty, pos, after, none⟩) rfl rfl
theorem o_min {args : Array Operand} {tys : Array TypeId} : evOp e pr r rd ⟨dst, .call { callee := .builtin .min, args := args, argTypes := tys }, ty, pos, after, none⟩ a s k kp = putO (pureA (stepPure e a ⟨dst, .call { callee := .builtin .min, args := args, argTypes := tys }, ty, pos, after, none⟩)) false a dst s k :=
  plain_pure (o := ⟨dst, .call { callee := .builtin .min, args := args, argTypes := tys }, ty, pos, after, none⟩) rfl rfl
theorem o_max {args : Array Operand} {tys : Array TypeId} : evOp e pr r rd ⟨dst, .call { callee := .builtin .max, args := args, argTypes := tys }, ty, pos, after, none⟩ a s k kp = putO (pureA (stepPure e a ⟨dst, .call { callee := .builtin .max, args := args, argTypes := tys }, ty, pos, after, none⟩)) false a dst s k :=
  plain_pure (o := ⟨dst, .call { callee := .builtin .max, args := args, argTypes := tys }, ty, pos, after, none⟩) rfl rfl

/-! ### Calls -/
def callV (pr : Prims) (r : Tasks) (f : AV) (args : List AV) (a : Ac) (dst : Option Tmp) (s : St) (k : Ac → St → Bool) (kp : AV → St → Bool) : Bool := match f with
  | .fn g cap =>
        match pr.ext g (args ++ cap) s with
        | some (v, s') => putK a dst v s' k
        | none =>
          match pr.fn g (args ++ cap) s with
          | some (v, s') => putK a dst v s' k
          | none => r.call g (args ++ cap) s (valK a dst k) kp
  | .yld id => roundA r id args s (valK a dst k)
  | _ => false
theorem o_call {f : Operand} {args : List Operand} {tys : Array TypeId} : evOp e pr r rd ⟨dst, .call { callee := .value f, args := args.toArray, argTypes := tys }, ty, pos, after, none⟩ a s k kp =
    callV pr r (a.eval f) (args.map a.eval) a dst s k kp := by
  simp only [evOp, callV]
  cases a.eval f <;> rfl
theorem c_fn {g : FuncId} {cap args : List AV} (h1 : pr.ext g (args ++ cap) s = none) (h2 : pr.fn g (args ++ cap) s = none) : callV pr r (.fn g cap) args a dst s k kp = r.call g (args ++ cap) s (valK a dst k) kp := by
  simp only [callV, h1, h2]
theorem c_prim {g : FuncId} {cap args : List AV} {v : AV} {s' : St} (h1 : pr.ext g (args ++ cap) s = none) (h2 : pr.fn g (args ++ cap) s = some (v, s')) : callV pr r (.fn g cap) args a dst s k kp = putK a dst v s' k := by
  simp only [callV, h1, h2]
theorem c_yld {id : Nat} {args : List AV} : callV pr r (.yld id) args a dst s k kp = roundA r id args s (valK a dst k) := (rfl)
theorem o_panic {x : Operand} {t : TypeId} {v : AV} (h : a.eval x = .iface t v) : evOp e pr r rd ⟨dst, .panic x, ty, pos, after, none⟩ a s k kp = kp (.iface t v) s := by
  simp only [evOp, h]
end
end Go.AX
