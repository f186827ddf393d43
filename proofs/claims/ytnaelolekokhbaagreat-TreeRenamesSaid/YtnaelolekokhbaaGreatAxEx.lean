import Derived.Test.YtnaelolekokhbaaGreatAxBeq
namespace Go.AX
open Go.RowKit

/-- What is run for a code, and for a call. -/
structure Tasks where
  code : Option Nat → Code → Ac → St → (AE → Ac → St → Bool) → Bool
  call : FuncId → List AV → St → (AV → St → Bool) → (AV → St → Bool) → Bool

def noTasks : Tasks := { code := fun _ _ _ _ _ => false, call := fun _ _ _ _ _ => false }

/-- Functions that are not run: those without a body, and those that have a contract. -/
structure Prims where
  ext : FuncId → List AV → St → Option (AV × St)
  fn : FuncId → List AV → St → Option (AV × St)

def putK (a : Ac) (dst : Option Tmp) (v : AV) (s : St) (k : Ac → St → Bool) : Bool :=
  match a.put dst v with
  | some a' => k a' s
  | none => false

def setTmps : Tr AV → Nat → List Tmp → List AV → Option (Tr AV)
  | t, _, [], [] => some t
  | t, n, p :: ps, v :: vs => bif Nat.blt p n then setTmps (t.set p v) n ps vs else none
  | _, _, _, _ => none

def initTmps : Tr AV → Nat → List AV → Tr AV
  | t, _, [] => t
  | t, i, v :: vs => initTmps (t.set i v) (i + 1) vs

def endRoundA (s : St) (id : Nat) (jump : Option Code) : Option St :=
  match s.h.get id with
  | some (.loop _ _ fn t n ps as b d) => some { s with h := s.h.set id (.loop (match jump with | none => .ready | some _ => .done) jump fn t n ps as b d) }
  | _ => none

def endK (s : St) (id : Nat) (jump : Option Code) (b : Bool) (k : AV → St → Bool) : Bool :=
  match endRoundA s id jump with
  | some s' => k (boolA b) s'
  | none => false

/-- One round of a loop over a function. -/
def roundA (r : Tasks) (id : Nat) (args : List AV) (s : St) (k : AV → St → Bool) : Bool :=
  match s.h.get id with
  | some (.loop _ _ _ t n ps as body _) =>
    match setTmps t n ps args with
    | some t' =>
      r.code (some id) as { t := t', n := n, d := [] } s fun ex a1 s1 =>
        match ex with
        | .normal =>
          match s1.h.get id with
          | some (.loop .ready pd fn t n ps as b d) =>
            r.code (some id) body a1 { s1 with h := s1.h.set id (.loop .busy pd fn t n ps as b d) } fun ex _ s2 =>
              match ex with
              | .normal => endK s2 id none true k
              | .ret => endK s2 id (some .ret) false k
              | .exit j => endK s2 id (some (.exit j)) false k
              | .goto j => endK s2 id (some (.goto j)) false k
              | .panic _ => false
          | _ => false
        | _ => false
    | none => false
  | _ => false

/-- Are these blocks known? -/
def idsIn (s : St) : List Nat → Bool
  | [] => true
  | id :: l => match s.h.get id with
    | some _ => idsIn s l
    | none => false

def plainOp (e : Env) (o : Oper) (a : Ac) (s : St) (k : Ac → St → Bool) : Bool :=
  match stepP e a s o with
  | some (v, ids) => bif idsIn s ids then putK a o.dst v s k else false
  | none => match stepA e a s o with
    | some (v, s') => putK a o.dst v s' k
    | none => false

def evOp (e : Env) (pr : Prims) (r : Tasks) (rd : Option Nat) (o : Oper) (a : Ac) (s : St) (k : Ac → St → Bool) (kp : AV → St → Bool) : Bool :=
  match o.op with
  | .panic x => match a.eval x with
    | .iface t v => kp (.iface t v) s
    | _ => false
  | .defer c => match rd, c.callee with
    | none, .value f => match a.eval f with
      | .fn g cap => putK { a with d := .call g (c.args.toList.map a.eval ++ cap) :: a.d } o.dst undefA s k
      | _ => false
    | _, _ => false
  | .call c => match c.callee with
    | .value f => match a.eval f with
      | .fn g cap =>
        match pr.ext g (c.args.toList.map a.eval ++ cap) s with
        | some (v, s') => putK a o.dst v s' k
        | none =>
          match pr.fn g (c.args.toList.map a.eval ++ cap) s with
          | some (v, s') => putK a o.dst v s' k
          | none => r.call g (c.args.toList.map a.eval ++ cap) s (fun v s' => putK a o.dst v s' k) kp
      | .yld id => roundA r id (c.args.toList.map a.eval) s (fun v s' => putK a o.dst v s' k)
      | _ => false
    | _ => plainOp e o a s k
  | _ => plainOp e o a s k

def wantedA (all : List Oper) (a : Ac) (o : Oper) : Option Bool :=
  match o.guard with
  | none => some true
  | some (j, want) => match all[j]? with
    | some oj => match oj.dst with
      | some d => match a.t.get d with
        | some (.raw (.bool b)) => some (b == want)
        | some (.raw (.tuple _)) => some false
        | _ => none
      | none => none
    | none => none

/-- A region in the text's order. -/
def evOps (e : Env) (pr : Prims) (r : Tasks) (rd : Option Nat) (all : List Oper) : List Oper → Ac → St → (AE → Ac → St → Bool) → Bool
  | [], a, s, k => k .normal a s
  | o :: l, a, s, k =>
    match wantedA all a o with
    | some true => evOp e pr r rd o a s (fun a' s' => evOps e pr r rd all l a' s' k) (fun v s' => k (.panic v) a s')
    | some false => putK a o.dst undefA s (fun a' s' => evOps e pr r rd all l a' s' k)
    | none => false

/-- May an operation be taken first in a region that draws its order? -/
def passiveA (e : Env) : Op → Bool
  | .move _ | .assign _ | .pick .. | .build .. | .load .. | .nilCheck _ | .binOp .. | .unOp .. | .fieldAddr .. | .field .. | .indexAddr .. | .index .. | .lookup .. | .extract .. | .typeAssert .. | .makeFunc .. | .slice .. | .makeInterface .. => true
  | .convert _ dst _ => match e.info dst with
    | some ti => match ti.desc with
      | .slice _ => false
      | _ => true
    | none => false
  | .call c => match c.callee with
    | .builtin .len => true
    | .builtin .cap => true
    | .builtin .min => true
    | .builtin .max => true
    | _ => false
  | _ => false

def pickTake (e : Env) (ops : Array Oper) (listed : Array Bool) : List Nat → Option (Nat × Oper)
  | [] => none
  | i :: l => match ops[i]? with
    | some o => bif passiveA e o.op && Region.free .any ops listed i then some (i, o) else pickTake e ops listed l
    | none => pickTake e ops listed l

def heldOk (s s' : St) : List Nat → Bool
  | [] => true
  | id :: l => match s.h.get id, s'.h.get id with
    | some o, some o' => bif beqO o o' then heldOk s s' l else false
    | _, _ => false

/-- Does operation j wait for operation i? -/
def depB (ops : Array Oper) : Nat → Nat → Nat → Bool
  | 0, _, _ => false
  | n + 1, j, i => match ops[j]? with
    | some o => o.after.toList.any fun ed => Region.binds .any ed && (Nat.beq ed.on i || depB ops n ed.on i)
    | none => false

/-- What was read by operations that operation j does not wait for is as it was. -/
def stillOk (ops : Array Oper) (j : Nat) (s s' : St) : List (Nat × List Nat) → Bool
  | [] => true
  | (i, ids) :: l => bif depB ops 8 j i || heldOk s s' ids then stillOk ops j s s' l else false

/-- What need be held no more. -/
def letGo (ops : Array Oper) (j : Nat) : List (Nat × List Nat) → List (Nat × List Nat)
  | [] => []
  | (i, ids) :: l => bif depB ops 8 j i then letGo ops j l else (i, ids) :: letGo ops j l

/-- A region that draws its order: what only reads is taken first, and held; of what acts each order is run. -/
def evAny (e : Env) (pr : Prims) (r : Tasks) (rd : Option Nat) (ops : Array Oper) : Nat → Array Bool → List (Nat × List Nat) → Ac → St → (Ac → St → Bool) → (AV → Ac → St → Bool) → Bool
  | 0, listed, _, a, s, k, _ => match Region.ready .any ops listed with
    | [] => k a s
    | _ => false
  | f + 1, listed, held, a, s, k, kp =>
    match Region.ready .any ops listed with
    | [] => k a s
    | i0 :: rs =>
      match pickTake e ops listed (i0 :: rs) with
      | some (i, o) =>
        match wantedA ops.toList a o with
        | some true => match stepP e a s o with
          | some (v, ids) => bif idsIn s ids then putK a o.dst v s (fun a' s' => evAny e pr r rd ops f (listed.setIfInBounds i true) (match ids with | [] => held | _ :: _ => (i, ids) :: held) a' s' k kp) else false
          | none => false
        | some false => putK a o.dst undefA s (fun a' s' => evAny e pr r rd ops f (listed.setIfInBounds i true) held a' s' k kp)
        | none => false
      | none => (i0 :: rs).all fun i => match ops[i]? with
        | some o => match wantedA ops.toList a o with
          | some true => evOp e pr r rd o a s (fun a' s' => bif stillOk ops i s s' held then evAny e pr r rd ops f (listed.setIfInBounds i true) (letGo ops i held) a' s' k kp else false) (fun v s' => kp v a s')
          | some false => putK a o.dst undefA s (fun a' s' => evAny e pr r rd ops f (listed.setIfInBounds i true) held a' s' k kp)
          | none => false
        | none => false

def noSel : List Oper → Bool
  | [] => true
  | o :: l => match o.op with
    | .select .. => false
    | _ => noSel l

def delAll : Tr AV → List Oper → Tr AV
  | t, [] => t
  | t, o :: l => match o.dst with
    | some d => delAll (t.del d) l
    | none => delAll t l

/-- The results of a function. -/
def resA (e : Env) (a : Ac) (s : St) : List ResultVar → Option (List AV)
  | [] => some []
  | .tmp t :: l => match a.t.get t, resA e a s l with
    | some v, some vs => some (v :: vs)
    | _, _ => none
  | .cell p t :: l => match a.t.get p with
    | some (.ptr id off) => match s.h.get id, loadA e s t (.ptr id off), resA e a s l with
      | some _, some v, some vs => some (v :: vs)
      | _, _, _ => none
    | _ => none

def resultA (e : Env) (fn : Func) (a : Ac) (s : St) : Option AV :=
  match resA e a s fn.results.toList with
  | some [v] => some v
  | some vs => some (.tuple vs)
  | none => none

/-- Plain operations one behind the other. -/
def evPlain (e : Env) (all : List Oper) : List Oper → Ac → St → (Ac → St → Bool) → Bool
  | [], a, s, k => k a s
  | o :: l, a, s, k =>
    match wantedA all a o with
    | some true => plainOp e o a s (fun a' s' => evPlain e all l a' s' k)
    | some false => putK a o.dst undefA s (fun a' s' => evPlain e all l a' s' k)
    | none => false

def isRecover : Op → Bool
  | .call c => match c.callee with
    | .builtin .recover => true
    | _ => false
  | _ => false

/-- A deferred function's code: it may recover. pn: what the frame below panics with, and whether that has been recovered. -/
def codeD (e : Env) (r : Tasks) : Nat → Code → Ac → Option (AV × Bool) → St → (AE → Ac → Option (AV × Bool) → St → Bool) → Bool
  | 0, _, _, _, _, _ => false
  | n + 1, c, a, pn, s, k =>
    match c with
    | .seq x y => codeD e r n x a pn s fun ex a' pn' s' => match ex with
      | .normal => codeD e r n y a' pn' s' k
      | ex => k ex a' pn' s'
    | .cond c x y => match a.eval c with
      | .raw (.bool b) => codeD e r n (bif b then x else y) a pn s k
      | _ => false
    | .region _ ops dr =>
      match dr, ops.toList with
      | false, o :: l =>
        bif isRecover o.op then
          match o.guard with
          | none => match pn with
            | some (v, false) => putK a o.dst v s (fun a' s' => evPlain e ops.toList l a' s' (fun a'' s'' => k .normal a'' (some (v, true)) s''))
            | none => putK a o.dst (.raw .nilIface) s (fun a' s' => evPlain e ops.toList l a' s' (fun a'' s'' => k .normal a'' none s''))
            | _ => false
          | some _ => false
        else r.code none c a s (fun ex a' s' => k ex a' pn s')
      | _, _ => r.code none c a s (fun ex a' s' => k ex a' pn s')
    | c => r.code none c a s (fun ex a' s' => k ex a' pn s')

/-- What it goes on with, its deferred call behind it. -/
def leftOver : Option (AV × Bool) → Option AV
  | none => none
  | some (v, b) => bif b then none else some v

/-- A frame leaves: its deferred calls, the last first. pn: none: it returns. -/
def leaveA (e : Env) (r : Tasks) (fn : Func) (a : Ac) (kr kp : AV → St → Bool) : List AD → Option AV → St → Bool
  | [], none, s => match resultA e fn a s with
    | some v => kr v s
    | none => false
  | [], some v, s => kp v s
  | .mark id :: ds, pn, s => match s.h.get id with
    | some (.dfr false) => leaveA e r fn a kr kp ds pn { s with h := s.h.set id (.dfr true) }
    | _ => false
  | .call g args :: ds, pn, s =>
    match e.fn.get g with
    | some gf => match gf.body with
      | some c =>
        codeD e r 100 c { t := initTmps .e 0 args, n := Nat.max gf.ntmps args.length, d := [] } (pn.map (·, false)) s fun ex a' pn' s' =>
          match a'.d, resultA e gf a' s' with
          | [], some _ =>
            match ex with
            | .normal => leaveA e r fn a kr kp ds (leftOver pn') s'
            | .ret => leaveA e r fn a kr kp ds (leftOver pn') s'
            | _ => false
          | _, _ => false
      | none => false
    | none => false

def step (e : Env) (pr : Prims) (r : Tasks) : Tasks := {
  code := fun rd c a s k =>
    match c with
    | .skip => k .normal a s
    | .label _ => k .normal a s
    | .exit id => k (.exit id) a s
    | .goto l => k (.goto l) a s
    | .ret => k .ret a s
    | .seq x y => r.code rd x a s fun ex a' s' => match ex with
      | .normal => r.code rd y a' s' k
      | ex => k ex a' s'
    | .cond c x y => match a.eval c with
      | .raw (.bool b) => r.code rd (bif b then x else y) a s k
      | _ => false
    | .block id c => r.code rd c a s fun ex a' s' => match ex with
      | .exit id' => bif Nat.beq id' id then k .normal a' s' else k (.exit id') a' s'
      | ex => k ex a' s'
    | .loop c => r.code rd c a s fun ex a' s' => match ex with
      | .normal => r.code rd (.loop c) a' s' k
      | ex => k ex a' s'
    | .scope _ => false
    | .region _ ops dr => match dr with
      | false => evOps e pr r rd ops.toList ops.toList a s k
      | true => bif noSel ops.toList then evAny e pr r rd ops ops.size (Array.replicate ops.size false) [] a s (fun a' s' => k .normal a' s') (fun v a' s' => k (.panic v) { a' with t := delAll a'.t ops.toList } s') else false
    | .rangeFunc f ps as body => match rd with
      | some _ => false
      | none => match a.eval f with
        | .fn g cap =>
          r.call g (.yld (s.nx + 1) :: cap) { h := (s.h.set s.nx (.dfr false)).set (s.nx + 1) (.loop .ready none 0 a.t a.n ps.toList as body s.nx), nx := s.nx + 2 } (fun _ s2 =>
            match s2.h.get (s.nx + 1) with
            | some (.loop st pd fn t n ps as b dd) =>
              match st with
              | .busy => false
              | _ => match pd with
                | none => k .normal { a with d := .mark s.nx :: a.d } { s2 with h := s2.h.set (s.nx + 1) (.loop .exhausted pd fn t n ps as b dd) }
                | some j => r.code rd j { a with d := .mark s.nx :: a.d } { s2 with h := s2.h.set (s.nx + 1) (.loop .exhausted pd fn t n ps as b dd) } k
            | _ => false) (fun _ _ => false)
        | _ => false
    | .refuse _ => false
  call := fun f args s kr kp =>
    match e.fn.get f with
    | some fn => match fn.body with
      | some c => r.code none c { t := initTmps .e 0 args, n := Nat.max fn.ntmps args.length, d := [] } s fun ex a' s' =>
        match ex with
        | .normal => leaveA e r fn a' kr kp a'.d none s'
        | .ret => leaveA e r fn a' kr kp a'.d none s'
        | .panic v => leaveA e r fn a' kr kp a'.d (some v) s'
        | _ => false
      | none => false
    | none => false }

def ev (e : Env) (pr : Prims) : Nat → Tasks
  | 0 => noTasks
  | n + 1 => step e pr (ev e pr n)

def tiOf (P : Program) (i : TypeInfo) : TI :=
  { desc := match i.desc with
      | .named _ u => match P.info? u with | some j => j.desc | none => .invalid
      | d => d
    size := i.size, bytes := i.bytes, zero := i.zero }
def tyTab (P : Program) : Tr TI := Tr.ofListF 40 (P.types.toList.map (tiOf P))
def fnTab (P : Program) : Tr Func := Tr.ofListF 40 P.funcs.toList
def envOf (P : Program) : Env := { P, ty := tyTab P, fn := fnTab P }
end Go.AX
