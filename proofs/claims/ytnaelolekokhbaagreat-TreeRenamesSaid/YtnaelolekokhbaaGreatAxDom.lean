import GoSem.Step
namespace Go.AX

/-- A map from numbers, as a binary tree. -/
inductive Tr (α : Type) where
  | e
  | n (l : Tr α) (v : Option α) (r : Tr α)
  deriving Inhabited

def Tr.get {α : Type} : Tr α → Nat → Option α
  | .e, _ => none
  | .n l v r, k => bif Nat.beq k 0 then v else bif Nat.beq (k % 2) 1 then l.get (k / 2) else r.get (k / 2 - 1)

def Tr.setF {α : Type} : Nat → Tr α → Nat → Option α → Tr α
  | 0, t, _, _ => t
  | f + 1, .e, k, x => bif Nat.beq k 0 then .n .e x .e else bif Nat.beq (k % 2) 1 then .n (Tr.setF f .e (k / 2) x) none .e else .n .e none (Tr.setF f .e (k / 2 - 1) x)
  | f + 1, .n l v r, k, x => bif Nat.beq k 0 then .n l x r else bif Nat.beq (k % 2) 1 then .n (Tr.setF f l (k / 2) x) v r else .n l v (Tr.setF f r (k / 2 - 1) x)

def Tr.set {α : Type} (t : Tr α) (k : Nat) (x : α) : Tr α := Tr.setF (k + 1) t k (some x)
def Tr.del {α : Type} (t : Tr α) (k : Nat) : Tr α := Tr.setF (k + 1) t k none

def evens {α : Type} : List α → List α
  | [] => []
  | [a] => [a]
  | a :: _ :: l => a :: evens l

def Tr.ofListF {α : Type} : Nat → List α → Tr α
  | 0, _ => .e
  | _ + 1, [] => .e
  | f + 1, a :: l => .n (Tr.ofListF f (evens l)) (some a) (Tr.ofListF f (evens (l.drop 1)))

inductive AV where
  | raw (v : Value)
  | str (s : List Nat)
  | ptr (id off : Nat)
  | slice (id off len ci cap : Nat) (ex : Bool)
  | esl (id off ci l size : Nat)
  | map (id : Nat)
  | fn (f : FuncId) (cap : List AV)
  | yld (id : Nat)
  | iface (t : TypeId) (v : AV)
  | agg (vs : List AV)
  | tuple (vs : List AV)
  deriving Inhabited

def AV.cells : AV → List AV
  | .agg cs => cs
  | .raw (.agg cs) => cs.toList.map .raw
  | v => [v]

/-- The value of one cell. -/
def AV.one : AV → Bool
  | .agg _ => false
  | .tuple _ => false
  | .raw (.agg _) => false
  | .raw (.tuple _) => false
  | _ => true

inductive AO where
  | cells (cs : List AV) (elem : TypeId) (frz : Nat)
  | map (es : List (AV × AV))
  | loop (st : LoopState) (pend : Option Code) (fn : FuncId) (tmps : Tr AV) (size : Nat) (params : List Tmp) (assign body : Code) (dfr : Nat)
  | dfr (taken : Bool)
  | siter (s : List Nat) (pos : Nat) (left : List Nat)
  deriving Inhabited

structure St where
  h : Tr AO
  nx : Nat
  deriving Inhabited

inductive AD where
  | call (f : FuncId) (args : List AV)
  | mark (id : Nat)
  deriving Inhabited

structure Ac where
  t : Tr AV
  n : Nat
  d : List AD
  deriving Inhabited

inductive AE where
  | normal
  | exit (id : Nat)
  | goto (l : Nat)
  | ret
  | panic (v : AV)
  deriving Inhabited

def ofVal1 : Value → AV
  | .string s => .str (s.data.toList.map UInt8.toNat)
  | v => .raw v

def undefA : AV := .raw (.tuple #[])

def Ac.eval (a : Ac) : Operand → AV
  | .tmp t => match a.t.get t with | some v => v | none => undefA
  | .const v => ofVal1 v
  | .global g => .raw (.pointer (some ⟨g, 0, none⟩))
  | .func f => .fn f []

def Ac.put (a : Ac) (dst : Option Tmp) (v : AV) : Option Ac :=
  match dst with
  | none => some a
  | some d => bif Nat.blt d a.n then some { a with t := a.t.set d v } else none

/-- What the run asks of a type. -/
structure TI where
  desc : TypeDesc
  size : Nat
  bytes : Nat
  zero : Option Value
  deriving Inhabited

def ofVal : Value → AV
  | .string s => .str (s.data.toList.map UInt8.toNat)
  | .agg cs => .agg (cs.toList.map ofVal1)
  | v => .raw v

def St.alloc (s : St) (o : AO) : St := { h := s.h.set s.nx o, nx := s.nx + 1 }

def setL {α : Type} : List α → Nat → α → List α
  | [], _, _ => []
  | _ :: l, 0, x => x :: l
  | a :: l, n + 1, x => a :: setL l n x

/-- Writes a row of cells over a list from a place on; none if it does not fit. -/
def putL : List AV → Nat → List AV → Option (List AV)
  | cs, _, [] => some cs
  | [], _, _ :: _ => none
  | _ :: cs, 0, x :: xs => match putL cs 0 xs with | some r => some (x :: r) | none => none
  | c :: cs, n + 1, xs => match putL cs n xs with | some r => some (c :: r) | none => none

def takeL : Nat → List AV → Option (List AV)
  | 0, _ => some []
  | _ + 1, [] => none
  | n + 1, a :: l => match takeL n l with | some r => some (a :: r) | none => none

def dropL : Nat → List AV → Option (List AV)
  | 0, l => some l
  | _ + 1, [] => none
  | n + 1, _ :: l => dropL n l

def cutL (off n : Nat) (cs : List AV) : Option (List AV) := match dropL off cs with | some l => takeL n l | none => none

def isAggD : TypeDesc → Bool
  | .struct _ => true
  | .array _ _ => true
  | _ => false

def eqB : List Nat → List Nat → Bool
  | [], [] => true
  | a :: l, b :: r => bif Nat.beq a b then eqB l r else false
  | _, _ => false

def ltB : List Nat → List Nat → Bool
  | _, [] => false
  | [], _ :: _ => true
  | a :: x, b :: y => bif Nat.blt a b then true else bif Nat.beq a b then ltB x y else false

/-- The plain run of a computation that looks at no world. -/
def pureRun {α : Type} (p : Program) : Sem α → Option α
  | .pure a => some a
  | .program k => pureRun p (k p)
  | _ => none

def toVal1 : AV → Option Value
  | .raw v => some v
  | .str s => some (.string ⟨(s.map UInt8.ofNat).toArray⟩)
  | _ => none

def toVals1 : List AV → Option (List Value)
  | [] => some []
  | v :: vs => match toVal1 v, toVals1 vs with
    | some x, some l => some (x :: l)
    | _, _ => none

def toVal : AV → Option Value
  | .raw v => some v
  | .str s => some (.string ⟨(s.map UInt8.ofNat).toArray⟩)
  | .agg vs => match toVals1 vs with | some l => some (.agg l.toArray) | none => none
  | _ => none

structure Env where
  P : Program
  ty : Tr TI
  fn : Tr Func

def Env.info (e : Env) (t : TypeId) : Option TI := e.ty.get t

def getCells (s : St) (id : Nat) : Option (List AV × TypeId × Nat) :=
  match s.h.get id with
  | some (.cells cs el fz) => some (cs, el, fz)
  | _ => none

def loadA (e : Env) (s : St) (t : TypeId) (v : AV) : Option AV :=
  match v with
  | .ptr id off =>
    match getCells s id, e.info t with
    | some (cs, _, _), some ti =>
      bif isAggD ti.desc then (match cutL off ti.size cs with | some l => some (.agg l) | none => none) else cs[off]?
    | _, _ => none
  | _ => none

def storeCellsA (s : St) (id off : Nat) (vs : List AV) : Option St :=
  match getCells s id with
  | some (cs, el, fz) =>
    bif vs.all AV.one then
      match putL cs off vs with
      | some cs' => some { s with h := s.h.set id (.cells cs' el fz) }
      | none => none
    else none
  | none => none

def storeA (e : Env) (s : St) (t : TypeId) (p v : AV) : Option St :=
  match p, e.info t with
  | .ptr id off, some ti => bif Nat.beq v.cells.length ti.size then storeCellsA s id off v.cells else none
  | _, _ => none

def fillA (place : Nat → Option (Nat × Nat)) : List AV → List (Nat × AV) → Option (List AV)
  | cells, [] => some cells
  | cells, (i, v) :: rest =>
    match place i with
    | none => none
    | some (off, size) =>
      bif Nat.beq v.cells.length size && Nat.blt 0 size then
        match putL cells off v.cells with
        | some cells' => fillA place cells' rest
        | none => none
      else none

def repL (z : List AV) : Nat → List AV
  | 0 => []
  | n + 1 => z ++ repL z n

/-- How a key stands among a map's entries. -/
def sameK (d : TypeDesc) (x y : AV) : Option Bool :=
  match d, x, y with
  | .string, .str a, .str b => some (eqB a b)
  | .int _, .raw (.int k a), .raw (.int k' b) => if k = k' then some (a == b) else none
  | .bool, .raw (.bool a), .raw (.bool b) => some (a == b)
  | _, _, _ => none

def findK (d : TypeDesc) (k : AV) : List (AV × AV) → Nat → Option (Option (Nat × AV))
  | [], _ => some none
  | (k', v) :: es, i =>
    match sameK d k k' with
    | some true => some (some (i, v))
    | some false => findK d k es (i + 1)
    | none => none

def eraseL {α : Type} : List α → Nat → List α
  | [], _ => []
  | _ :: l, 0 => l
  | a :: l, n + 1 => a :: eraseL l n

def keyOk : TypeDesc → Bool
  | .string => true
  | .int _ => true
  | .bool => true
  | _ => false

def zeroOf (e : Env) (t : TypeId) : Option AV :=
  match e.info t with
  | some ti => match ti.zero with
    | some v => some (ofVal v)
    | none => none
  | none => none

def intA (n : Int) : AV := .raw (.int .i64 n)

/-- Two addresses, or an address and nil, against each other, by a type. -/
def eqA (d : TypeDesc) (x y : AV) : Option Bool :=
  match d, x, y with
  | .pointer _, .ptr _ _, .raw (.pointer none) => some false
  | .pointer _, .raw (.pointer none), .ptr _ _ => some false
  | .slice _, .slice .., .raw (.slice none _ _) => some false
  | .slice _, .esl .., .raw (.slice none _ _) => some false
  | .map _ _, .map _, .raw (.map none) => some false
  | .func .., .fn .., .raw .nilFunc => some false
  | .interface _, .iface .., .raw .nilIface => some false
  | _, _, _ => none

/-- Two addresses of nodes that have a size. -/
def eqP (e : Env) (s : St) (d : TypeDesc) (x y : AV) : Option (Bool × List Nat) :=
  match d, x, y with
  | .pointer el, .ptr i o, .ptr j q =>
    match e.info el with
    | some ei => bif Nat.beq ei.size 0 then none else
      match getCells s i, getCells s j with
      | some (_ :: _, _, 0), some (_ :: _, _, 0) => some (bif Nat.beq i j then Nat.beq o q else false, [i, j])
      | _, _ => none
    | none => none
  | _, _, _ => none

def boolA (b : Bool) : AV := .raw (.bool b)

/-- Whole numbers and texts, the everyday ones. -/
def binFast (op : BinOp) (x y : AV) : Option AV :=
  match x, y with
  | .raw (.int k a), .raw (.int k' b) =>
    if k = k' then
      match op with
      | .add => some (.raw (.int k (k.wrap (a + b))))
      | .sub => some (.raw (.int k (k.wrap (a - b))))
      | .eql => some (boolA (a == b))
      | .neq => some (boolA (a != b))
      | .lss => some (boolA (decide (a < b)))
      | .leq => some (boolA (decide (a ≤ b)))
      | .gtr => some (boolA (decide (a > b)))
      | .geq => some (boolA (decide (a ≥ b)))
      | _ => none
    else none
  | .str a, .str b =>
    match op with
    | .add => bif Nat.ble (a.length + b.length) 1048576 then some (.str (a ++ b)) else none
    | .eql => some (boolA (eqB a b))
    | .neq => some (boolA (!eqB a b))
    | .lss => some (boolA (ltB a b))
    | .leq => some (boolA (ltB a b || eqB a b))
    | .gtr => some (boolA (!(ltB a b || eqB a b)))
    | .geq => some (boolA (!ltB a b))
    | _ => none
  | _, _ => none

def bytesL : List AV → Option (List Nat)
  | [] => some []
  | .raw (.int .u8 (.ofNat b)) :: l => bif Nat.blt b 256 then (match bytesL l with | some r => some (b :: r) | none => none) else none
  | _ => none

def bytesOfA (s : St) (id off len : Nat) : Option (List Nat) :=
  match getCells s id with
  | some (cs, _, _) =>
    match cutL off len cs with
    | some l => bytesL l
    | none => none
  | none => none

def cellsOfStr (s : List Nat) : List AV := s.map fun b => .raw (.int .u8 (.ofNat b))

/-- The first n elements of a slice or a string, as cells. -/
def firstA (s : St) (size n : Nat) : AV → Option (List AV)
  | .slice id off _ _ _ _ => match getCells s id with | some (cs, _, _) => cutL off (n * size) cs | none => none
  | .esl .. => some []
  | .raw (.slice none _ _) => some []
  | .str b => some (cellsOfStr (b.take n))
  | _ => none

def lenA : AV → Option Nat
  | .slice _ _ n _ _ _ => some n
  | .esl .. => some 0
  | .raw (.slice none n _) => some n
  | .str s => some s.length
  | _ => none

def natOf : AV → Option Nat
  | .raw (.int _ (.ofNat n)) => some n
  | _ => none

def growA (s : St) (elem : TypeId) (el : TI) (b : AV) (n : Nat) (new : List AV) : Option (AV × St) :=
  match b with
  | .raw (.slice none 0 0) =>
    bif Nat.beq n 0 then some (b, s)
    else bif Nat.ble (n * el.bytes) 1048576 && Nat.ble n 1048576 then some (.slice s.nx 0 n 0 n false, s.alloc (.cells new elem (2 * el.size))) else none
  | .slice id off len ci cap ex =>
    let need := len + n
    match getCells s id with
    | none => none
    | some (cs, el0, fz) =>
      bif Nat.ble need cap then
        match storeCellsA s id (off + len * el.size) new with
        | some s' => some (.slice id off need ci cap ex, s')
        | none => none
      else
        match cutL off (len * el.size) cs with
        | none => none
        | some old =>
          bif Nat.ble (need * el.bytes) 1048576 && Nat.ble need 1048576 then
            bif ex then some (.slice s.nx 0 need 0 need false, s.alloc (.cells (old ++ new) elem (2 * el.size)))
            else bif Nat.beq el0 elem && (Nat.beq (fz / 2) el.size && Nat.ble off (ci * el.size)) then
              some (.slice s.nx 0 need 0 need false, { h := (s.h.del id).set s.nx (.cells (old ++ new) elem fz), nx := s.nx + 1 })
            else none
          else none
  | _ => none

def srcA (s : St) (elem : TypeId) (el : TI) (b x : AV) : Option (AV × St) :=
  match lenA x with
  | none => none
  | some n =>
    match firstA s el.size n x with
    | none => none
    | some new => bif Nat.beq new.length (n * el.size) && new.all AV.one then growA s elem el b n new else none

def appendA (e : Env) (s : St) (argTypes : List TypeId) (args : List AV) : Option (AV × St) :=
  match argTypes, args with
  | [st, xt], [b, x] =>
    match e.info st, e.info xt with
    | some sti, some xti =>
      match sti.desc with
      | .slice elem =>
        match e.info elem, zeroOf e elem with
        | some el, some z =>
          bif Nat.beq z.cells.length el.size && Nat.blt 0 el.size then
            match xti.desc with
            | .int _ =>
              match natOf x with
              | some n => bif Nat.ble (n * el.bytes) 1048576 && (Nat.ble n 1048576 && (Nat.blt 0 n && z.cells.all AV.one)) then growA s elem el b n (repL z.cells n) else none
              | none => none
            | .slice _ => srcA s elem el b x
            | .string => srcA s elem el b x
            | _ => none
          else none
        | _, _ => none
      | _ => none
    | _, _ => none
  | _, _ => none

def sliceBoundsA (len cap : Nat) (lo hi : Option AV) : Option (Nat × Nat) :=
  let h := match hi with | some v => natOf v | none => some len
  let l := match lo with | some v => natOf v | none => some 0
  match l, h with
  | some l, some h => bif Nat.ble l h && Nat.ble h cap then some (l, h) else none
  | _, _ => none

def sliceOpA (e : Env) (t : TypeId) (x : AV) (lo hi mx : Option AV) : Option AV :=
  match mx with
  | some _ => none
  | none =>
  match e.info t with
  | none => none
  | some ti =>
    match ti.desc, x with
    | .string, .str s =>
      match sliceBoundsA s.length s.length lo hi with
      | some (l, h) => some (.str ((s.drop l).take (h - l)))
      | none => none
    | .slice elem, .slice id off len ci cap ex =>
      match e.info elem, sliceBoundsA len cap lo hi with
      | some el, some (l, h) =>
        bif Nat.blt l cap || Nat.beq l 0 then some (.slice id (off + l * el.size) (h - l) (ci + l) (cap - l) ex)
        else bif ex then some (.slice id off 0 ci 0 true)
        else some (.esl id off ci l el.size)
      | _, _ => none
    | .slice elem, .esl id off ci l sz => match e.info elem, sliceBoundsA 0 0 lo hi with
      | some _, some _ => some (.esl id off ci l sz)
      | _, _ => none
    | .array n elem, .ptr id off =>
      match e.info elem, sliceBoundsA n n lo hi with
      | some el, some (l, h) => some (bif Nat.beq l n then .slice id off 0 0 0 true else .slice id (off + l * el.size) (h - l) 0 (n - l) true)
      | _, _ => none
    | .slice elem, .raw (.slice none 0 0) =>
      match e.info elem, sliceBoundsA 0 0 lo hi with
      | some _, some _ => some (.raw (.slice none 0 0))
      | _, _ => none
    | _, _ => none

def mapsA (s : St) : AV → Option (List (AV × AV))
  | .map id => match s.h.get id with | some (.map es) => some es | _ => none
  | .raw (.map none) => some []
  | _ => none

def lookupA (e : Env) (s : St) (t : TypeId) (x k : AV) (ok : Bool) : Option AV :=
  match e.info t with
  | none => none
  | some ti =>
    match ti.desc with
    | .map key elem =>
      match e.info key, mapsA s x with
      | some ki, some es =>
        bif keyOk ki.desc then
          match findK ki.desc k es 0 with
          | some (some (_, v)) => some (bif ok then .tuple [v, boolA true] else v)
          | some none => match zeroOf e elem with
            | some z => some (bif ok then .tuple [z, boolA false] else z)
            | none => none
          | none => none
        else none
      | _, _ => none
    | _ => none

def mapUpdateA (e : Env) (s : St) (t : TypeId) (x k v : AV) : Option St :=
  match e.info t, x with
  | some ti, .map id =>
    match ti.desc, s.h.get id with
    | .map key _, some (.map es) =>
      match e.info key with
      | some ki =>
        bif keyOk ki.desc then
          match findK ki.desc k es 0 with
          | some (some (i, _)) => some { s with h := s.h.set id (.map (setL es i (k, v))) }
          | some none => some { s with h := s.h.set id (.map (es ++ [(k, v)])) }
          | none => none
        else none
      | none => none
    | _, _ => none
  | _, _ => none

def deleteA (e : Env) (s : St) (argTypes : List TypeId) (args : List AV) : Option St :=
  match argTypes, args with
  | t :: _, [x, k] =>
    match e.info t, x with
    | some ti, .map id =>
      match ti.desc, s.h.get id with
      | .map key _, some (.map es) =>
        match e.info key with
        | some ki =>
          bif keyOk ki.desc then
            match findK ki.desc k es 0 with
            | some (some (i, _)) => some { s with h := s.h.set id (.map (eraseL es i)) }
            | some none => some s
            | none => none
          else none
        | none => none
      | _, _ => none
    | _, _ => none
  | _, _ => none

def lenOpA (e : Env) (s : St) (argTypes : List TypeId) (args : List AV) : Option AV :=
  match argTypes, args with
  | t :: _, x :: _ =>
    match e.info t with
    | none => none
    | some ti =>
      match ti.desc, x with
      | .string, .str l => some (intA l.length)
      | .array n _, _ => some (intA n)
      | .slice _, .slice _ _ n _ _ _ => some (intA n)
      | .slice _, .esl .. => some (intA 0)
      | .slice _, .raw (.slice _ n _) => some (intA n)
      | .map _ _, _ => match mapsA s x with | some es => some (intA es.length) | none => none
      | _, _ => none
  | _, _ => none

def capOpA (e : Env) (argTypes : List TypeId) (args : List AV) : Option AV :=
  match argTypes, args with
  | t :: _, x :: _ =>
    match e.info t with
    | none => none
    | some ti =>
      match ti.desc, x with
      | .array n _, _ => some (intA n)
      | .slice _, .slice _ _ _ _ c true => some (intA c)
      | .slice _, .raw (.slice _ _ c) => some (intA c)
      | _, _ => none
  | _, _ => none

def copyA (e : Env) (s : St) (argTypes : List TypeId) (args : List AV) : Option (AV × St) :=
  match argTypes, args with
  | t :: _, [.slice id off dl _ _ _, x] =>
    match e.info t with
    | some ti =>
      match ti.desc with
      | .slice elem =>
        match e.info elem, lenA x with
        | some el, some xl =>
          let n := Nat.min xl dl
          match firstA s el.size n x with
          | some cs => match storeCellsA s id off cs with
            | some s' => some (intA n, s')
            | none => none
          | none => none
        | _, _ => none
      | _ => none
    | none => none
  | _, _ => none

/-- Bytes out of a slice of bytes, as a text. -/
def textA (e : Env) (s : St) (src dst : TypeId) (x : AV) : Option (AV × List Nat) :=
  match e.info src, e.info dst with
  | some si, some di =>
    match si.desc, di.desc, x with
    | .slice el, .string, .slice id off len _ _ _ => match e.info el with
      | some eli => match eli.desc with
        | .int .u8 => match bytesOfA s id off len with | some b => some (.str b, [id]) | none => none
        | _ => none
      | none => none
    | _, _, _ => none
  | _, _ => none

/-- A text, as a new slice of bytes. -/
def bytesA (e : Env) (s : St) (src dst : TypeId) (x : AV) : Option (AV × St) :=
  match e.info src, e.info dst, x with
  | some si, some di, .str b => match si.desc, di.desc with
    | .string, .slice el => match e.info el with
      | some eli => match eli.desc with
        | .int .u8 => some (.slice s.nx 0 b.length 0 b.length false, s.alloc (.cells (cellsOfStr b) el 3))
        | _ => none
      | none => none
    | _, _ => none
  | _, _, _ => none

def fieldsOf : TypeDesc → List Field
  | .struct fs => fs.toList
  | _ => []

def partA (e : Env) (t : TypeId) (cs : List AV) (off : Nat) : Option AV :=
  match e.info t with
  | some ti => bif isAggD ti.desc then (match cutL off ti.size cs with | some l => some (.agg l) | none => none) else cs[off]?
  | none => none

def undefR (s : Option St) : Option (AV × St) := match s with | some s => some (undefA, s) | none => none

def quietR (v : Option AV) : Option (AV × List Nat) := match v with | some v => some (v, []) | none => none
def readR (ids : List Nat) (v : Option AV) : Option (AV × List Nat) := match v with | some v => some (v, ids) | none => none

def idsOf : AV → List Nat
  | .ptr id _ => [id]
  | .map id => [id]
  | _ => []

def valAt (a : Ac) (x : Operand) : Value := match toVal (a.eval x) with | some v => v | none => undef

/-- Any operation whose operands hold no address and that looks at no memory: the model's own run. -/
def stepPure (e : Env) (a : Ac) (o : Oper) : Option (AV × List Nat) :=
  bif o.op.operands.toList.all (fun x => (toVal (a.eval x)).isSome) then
    match pureRun e.P (execOp (valAt a) o) with
    | some (.value v) => some (ofVal v, [])
    | _ => none
  else none

def orPure (e : Env) (a : Ac) (o : Oper) (r : Option (AV × List Nat)) : Option (AV × List Nat) :=
  match r with
  | some x => some x
  | none => stepPure e a o

def placesA (e : Env) : List Field → Option (List (Nat × Nat))
  | [] => some []
  | f :: fs => match e.info f.type, placesA e fs with
    | some fi, some l => some ((f.offset, fi.size) :: l)
    | _, _ => none

def buildA (e : Env) (t : TypeId) (parts : List (Nat × AV)) : Option AV :=
  match zeroOf e t, e.info t with
  | some z, some ti =>
    match ti.desc with
    | .struct fs => match placesA e fs.toList with
      | some pl => match fillA (fun i => pl[i]?) z.cells parts with
        | some cs => some (.agg cs)
        | none => none
      | none => none
    | .array _ el => match e.info el with
      | some eli => match fillA (fun i => some (i * eli.size, eli.size)) z.cells parts with
        | some cs => some (.agg cs)
        | none => none
      | none => none
    | _ => none
  | _, _ => none

def fieldAddrA (e : Env) (st : TypeId) (x : AV) (f : Nat) : Option AV :=
  match e.info st, x with
  | some ti, .ptr id off => match (fieldsOf ti.desc)[f]? with
    | some fd => match e.info fd.type with
      | some fi => bif Nat.beq fi.size 0 then none else some (.ptr id (off + fd.offset))
      | none => none
    | none => none
  | _, _ => none

def fieldA (e : Env) (t : TypeId) (x : AV) (f : Nat) : Option AV :=
  match e.info t, x with
  | some ti, .agg cs => match (fieldsOf ti.desc)[f]? with
    | some fd => partA e fd.type cs fd.offset
    | none => none
  | _, _ => none

def indexAddrA (e : Env) (t : TypeId) (x i : AV) : Option AV :=
  match e.info t, natOf i with
  | some ti, some i => match ti.desc, x with
    | .array len el, .ptr id off => match e.info el with
      | some eli => bif Nat.blt i len then some (.ptr id (off + i * eli.size)) else none
      | none => none
    | .slice el, .slice id off len _ _ _ => match e.info el with
      | some eli => bif Nat.blt i len then some (.ptr id (off + i * eli.size)) else none
      | none => none
    | _, _ => none
  | _, _ => none

def indexA (e : Env) (t : TypeId) (x i : AV) : Option AV :=
  match e.info t, natOf i with
  | some ti, some i => match ti.desc, x with
    | .array len el, .agg cs => match e.info el with
      | some eli => bif Nat.blt i len then partA e el cs (i * eli.size) else none
      | none => none
    | .string, .str b => match b[i]? with
      | some c => some (.raw (.int .u8 (.ofNat c)))
      | none => none
    | _, _ => none
  | _, _ => none

def assertA (e : Env) (x : AV) (t : TypeId) (ok : Bool) : Option AV :=
  match e.info t with
  | some ti => match ti.desc with
    | .interface _ => none
    | _ => match x with
      | .iface t' v' => bif Nat.beq t' t then some (bif ok then .tuple [v', boolA true] else v')
          else bif ok then (match zeroOf e t with | some z => some (.tuple [z, boolA false]) | none => none) else none
      | _ => none
  | none => none

def isIface : TypeDesc → Bool
  | .interface _ => true
  | _ => false

/-- One operation that leaves memory alone: what it yields, and the blocks that it has read. -/
def stepP (e : Env) (a : Ac) (s : St) (o : Oper) : Option (AV × List Nat) :=
  match o.op with
  | .move x => some (a.eval x, [])
  | .assign x => some (a.eval x, [])
  | .pick c x y => match a.eval c with
    | .raw (.bool b) => some (bif b then a.eval x else a.eval y, [])
    | _ => none
  | .build t parts => quietR (buildA e t (parts.toList.map fun q => (q.1, a.eval q.2)))
  | .load t x => readR (idsOf (a.eval x)) (loadA e s t (a.eval x))
  | .nilCheck x => match a.eval x with
    | .ptr id off => some (.ptr id off, [])
    | .fn f c => some (.fn f c, [])
    | .yld l => some (.yld l, [])
    | .iface t v => some (.iface t v, [])
    | _ => none
  | .binOp op t x y _ => match binFast op (a.eval x) (a.eval y) with
    | some v => some (v, [])
    | none => match op with
      | .eql => match e.info t with
        | some ti => match eqA ti.desc (a.eval x) (a.eval y) with
          | some b => some (boolA b, [])
          | none => match eqP e s ti.desc (a.eval x) (a.eval y) with
            | some (b, ids) => some (boolA b, ids)
            | none => stepPure e a o
        | none => none
      | .neq => match e.info t with
        | some ti => match eqA ti.desc (a.eval x) (a.eval y) with
          | some b => some (boolA !b, [])
          | none => match eqP e s ti.desc (a.eval x) (a.eval y) with
            | some (b, ids) => some (boolA !b, ids)
            | none => stepPure e a o
        | none => none
      | _ => stepPure e a o
  | .unOp .. => stepPure e a o
  | .convert src dst x => match textA e s src dst (a.eval x) with
    | some r => some r
    | none => stepPure e a o
  | .makeInterface t x => match e.info t with
    | some ti => bif isIface ti.desc then none else some (.iface t (a.eval x), [])
    | none => none
  | .makeFunc f first captured => match f with
    | .func f => bif first.toList.isEmpty then some (.fn f (captured.toList.map a.eval), []) else none
    | _ => none
  | .slice t x lo hi mx => quietR (sliceOpA e t (a.eval x) (lo.map a.eval) (hi.map a.eval) (mx.map a.eval))
  | .fieldAddr st x f => quietR (fieldAddrA e st (a.eval x) f)
  | .field t x f => quietR (fieldA e t (a.eval x) f)
  | .indexAddr t x i => quietR (indexAddrA e t (a.eval x) (a.eval i))
  | .index t x i => quietR (indexA e t (a.eval x) (a.eval i))
  | .lookup t x k ok => readR (idsOf (a.eval x)) (lookupA e s t (a.eval x) (a.eval k) ok)
  | .typeAssert x _ t ok => quietR (assertA e (a.eval x) t ok)
  | .extract x i => match a.eval x with
    | .tuple vs => quietR vs[i]?
    | _ => stepPure e a o
  | .call c => match c.callee with
    | .builtin .len => readR (match c.args.toList with | x :: _ => idsOf (a.eval x) | [] => []) (lenOpA e s c.argTypes.toList (c.args.toList.map a.eval))
    | .builtin .cap => quietR (capOpA e c.argTypes.toList (c.args.toList.map a.eval))
    | .builtin .min => stepPure e a o
    | .builtin .max => stepPure e a o
    | _ => none
  | _ => none

def makeSliceA (e : Env) (s : St) (t : TypeId) (l c : AV) : Option (AV × St) :=
  match e.info t, natOf l, natOf c with
  | some ti, some l, some c => match ti.desc with
    | .slice el => match e.info el, zeroOf e el with
      | some eli, some z => bif (Nat.ble l c && Nat.ble (c * eli.bytes) 1048576 && Nat.ble c 1048576) && (Nat.beq z.cells.length eli.size && Nat.blt 0 eli.size) then some (.slice s.nx 0 l 0 c true, s.alloc (.cells (repL z.cells c) el 0)) else none
      | _, _ => none
    | _ => none
  | _, _, _ => none

def buildSliceA (e : Env) (s : St) (t : TypeId) (len : Nat) (parts : List (Nat × AV)) : Option (AV × St) :=
  match e.info t with
  | some ti => match ti.desc with
    | .slice el => match e.info el, zeroOf e el with
      | some eli, some z =>
        bif Nat.ble (len * eli.size) 100000 && (Nat.beq z.cells.length eli.size && Nat.blt 0 eli.size) then
          match fillA (fun i => some (i * eli.size, eli.size)) (repL z.cells len) parts with
          | some cs => some (.slice s.nx 0 len 0 len true, s.alloc (.cells cs el 0))
          | none => none
        else none
      | _, _ => none
    | _ => none
  | none => none

/-- One operation that turns memory, or makes it, and calls nothing. -/
def stepA (e : Env) (a : Ac) (s : St) (o : Oper) : Option (AV × St) :=
  match o.op with
  | .alloc t => match zeroOf e t with
    | some z => some (.ptr s.nx 0, s.alloc (.cells z.cells t 0))
    | none => none
  | .box t x => some (.ptr s.nx 0, s.alloc (.cells (a.eval x).cells t 0))
  | .buildSlice t len parts => buildSliceA e s t len (parts.toList.map fun q => (q.1, a.eval q.2))
  | .store t x v => undefR (storeA e s t (a.eval x) (a.eval v))
  | .convert src dst x => bytesA e s src dst (a.eval x)
  | .makeMap _ r => match r with
    | none => some (.map s.nx, s.alloc (.map []))
    | some _ => none
  | .makeSlice t l c => makeSliceA e s t (a.eval l) (a.eval c)
  | .mapUpdate t m k x => undefR (mapUpdateA e s t (a.eval m) (a.eval k) (a.eval x))
  | .insert t m k x => undefR (mapUpdateA e s t (a.eval m) (a.eval k) (a.eval x))
  | .range t x => match e.info t, a.eval x with
    | some ti, .str b => match ti.desc with
      | .string => some (.ptr s.nx 0, s.alloc (.siter b 0 b))
      | _ => none
    | _, _ => none
  | .next it true => match a.eval it with
    | .ptr id 0 => match s.h.get id with
      | some (.siter b pos left) => match left with
        | [] => some (.tuple [boolA false], s)
        | c :: l => bif Nat.blt c 128 then some (.tuple [boolA true, intA pos, .raw (.int .i32 (.ofNat c))], { s with h := s.h.set id (.siter b (pos + 1) l) }) else none
      | _ => none
    | _ => none
  | .call c => match c.callee with
    | .builtin .append => appendA e s c.argTypes.toList (c.args.toList.map a.eval)
    | .builtin .copy => copyA e s c.argTypes.toList (c.args.toList.map a.eval)
    | .builtin .delete => undefR (deleteA e s c.argTypes.toList (c.args.toList.map a.eval))
    | _ => none
  | _ => none

def stepV (e : Env) (a : Ac) (s : St) (o : Oper) : Option (AV × St) :=
  match stepP e a s o with
  | some (v, _) => some (v, s)
  | none => stepA e a s o
end Go.AX
