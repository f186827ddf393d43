import GoSem.Step
import Derived.RangeFuncNested
import Derived.RangeFuncBound
import Derived.RangeFuncCalls
import Derived.RangeFuncLeaves
import Derived.LoopNIn
import Derived.OrdersIn
import Derived.RecoverIn
import Derived.Below
import Derived.Orders
import Derived.ChangeKeysEq
import Derived.MapKept
import Derived.Laws.Concat
import Derived.Laws.StructEq
import Derived.Laws.Tables
import Derived.Laws.BytesString
import Derived.Deep.AppendSrc
import Derived.Laws.IdiomStrings
import Derived.Laws.RangeString
import Derived.Laws.AppendOwn
import Derived.Maps.RangeRun
import Derived.KernelRfl
set_option linter.unusedVariables false
set_option linter.unusedSimpArgs false
set_option linter.defProp false
namespace Go.AX
inductive Tr (α:Type) where
 | e
 | n (l:Tr α) (v:Option α) (r:Tr α)
 deriving Inhabited
def Tr.get {α:Type}:Tr α→Nat→Option α
 | .e,_=>none
 | .n l v r,k=>bif Nat.beq k 0 then v else bif Nat.beq (k % 2) 1 then l.get (k / 2) else r.get (k / 2 - 1)
def Tr.setF {α:Type}:Nat→Tr α→Nat→Option α→Tr α
 | 0,t,_,_=>t
 | f+1,.e,k,x=>bif Nat.beq k 0 then .n .e x .e else bif Nat.beq (k % 2) 1 then .n (Tr.setF f .e (k / 2) x) none .e else .n .e none (Tr.setF f .e (k / 2 - 1) x)
 | f+1,.n l v r,k,x=>bif Nat.beq k 0 then .n l x r else bif Nat.beq (k % 2) 1 then .n (Tr.setF f l (k / 2) x) v r else .n l v (Tr.setF f r (k / 2 - 1) x)
def Tr.set {α:Type} (t:Tr α) (k:Nat) (x:α):Tr α:=Tr.setF (k+1) t k (some x)
def Tr.del {α:Type} (t:Tr α) (k:Nat):Tr α:=Tr.setF (k+1) t k none
def qf2 {α:Type}:List α→List α
 | []=>[]
 | [a]=>[a]
 | a::_::l=>a::qf2 l
def Tr.ofListF {α:Type}:Nat→List α→Tr α
 | 0,_=>.e
 | _+1,[]=>.e
 | f+1,a::l=>.n (Tr.ofListF f (qf2 l)) (some a) (Tr.ofListF f (qf2 (l.drop 1)))
inductive AV where
 | raw (v:Value)
 | str (s:List Nat)
 | ptr (id off:Nat)
 | slice (id off len ci cap:Nat) (ex:Bool)
 | esl (id off ci l size:Nat)
 | map (id:Nat)
 | fn (f:FuncId) (cap:List AV)
 | yld (id:Nat)
 | iface (t:TypeId) (v:AV)
 | agg (vs:List AV)
 | tuple (vs:List AV)
 deriving Inhabited
def AV.cells:AV→List AV
 | .agg cs=>cs
 | .raw (.agg cs)=>cs.toList.map .raw
 | v=>[v]
def AV.one:AV→Bool
 | .agg _=>false
 | .tuple _=>false
 | .raw (.agg _)=>false
 | .raw (.tuple _)=>false
 | _=>true
inductive AO where
 | cells (cs:List AV) (elem:TypeId) (frz:Nat)
 | map (es:List (AV × AV))
 | loop (st:LoopState) (pend:Option Code) (fn:FuncId) (tmps:Tr AV) (size:Nat) (params:List Tmp) (assign body:Code) (dfr:Nat)
 | dfr (taken:Bool)
 | siter (s:List Nat) (pos:Nat) (left:List Nat)
 | old (cs:List AV)
 | rmap (es:List (AV × AV)) (it:Nat) (ix:List Nat)
 | miter (m:Nat) (seen:List Nat)
 deriving Inhabited
structure St where
 h:Tr AO
 nx:Nat
 deriving Inhabited
inductive AD where
 | call (f:FuncId) (args:List AV)
 | mark (id:Nat)
 deriving Inhabited
structure Ac where
 t:Tr AV
 n:Nat
 d:List AD
 deriving Inhabited
inductive AE where
 | normal
 | exit (id:Nat)
 | goto (l:Nat)
 | ret
 | panic (v:AV)
 deriving Inhabited
def qas:Value→AV
 | .string s=>.str (s.data.toList.map UInt8.toNat)
 | v=>.raw v
def zY:AV:=.raw (.tuple #[])
def Ac.eval (a:Ac):Operand→AV
 | .tmp t=>match a.t.get t with|some v=>v|none=>zY
 | .const v=>qas v
 | .global g=>.raw (.pointer (some ⟨g,0,none⟩))
 | .func f=>.fn f []
def Ac.put (a:Ac) (dst:Option Tmp) (v:AV):Option Ac :=
 match dst with
 | none=>some a
 | some d=>bif Nat.blt d a.n then some { a with t:=a.t.set d v } else none
structure TI where
 desc:TypeDesc
 size:Nat
 bytes:Nat
 zero:Option Value
 deriving Inhabited
def qom:Value→AV
 | .string s=>.str (s.data.toList.map UInt8.toNat)
 | .agg cs=>.agg (cs.toList.map qas)
 | v=>.raw v
def St.alloc (s:St) (o:AO):St:={ h:=s.h.set s.nx o,nx:=s.nx+1 }
def setL {α:Type}:List α→Nat→α→List α
 | [],_,_=>[]
 | _::l,0,x=>x::l
 | a::l,n+1,x=>a::setL l n x
def JW:List AV→Nat→List AV→Option (List AV)
 | cs,_,[]=>some cs
 | [],_,_::_=>none
 | _::cs,0,x::xs=>match JW cs 0 xs with|some r=>some (x::r)|none=>none
 | c::cs,n+1,xs=>match JW cs n xs with|some r=>some (c::r)|none=>none
def ZJ:Nat→List AV→Option (List AV)
 | 0,_=>some []
 | _+1,[]=>none
 | n+1,a::l=>match ZJ n l with|some r=>some (a::r)|none=>none
def ZB:Nat→List AV→Option (List AV)
 | 0,l=>some l
 | _+1,[]=>none
 | n+1,_::l=>ZB n l
def ZF (off n:Nat) (cs:List AV):Option (List AV):=match ZB off cs with|some l=>ZJ n l|none=>none
def Qv:TypeDesc→Bool
 | .struct _=>true
 | .array _ _=>true
 | _=>false
def eqB:List Nat→List Nat→Bool
 | [],[]=>true
 | a::l,b::r=>bif Nat.beq a b then eqB l r else false
 | _,_=>false
def ltB:List Nat→List Nat→Bool
 | _,[]=>false
 | [],_::_=>true
 | a::x,b::y=>bif Nat.blt a b then true else bif Nat.beq a b then ltB x y else false
def qX {α:Type} (p:Program):Sem α→Option α
 | .pure a=>some a
 | .program k=>qX p (k p)
 | _=>none
def qap:AV→Option Value
 | .raw v=>some v
 | .str s=>some (.string ⟨(s.map UInt8.ofNat).toArray⟩)
 | _=>none
def X4:List AV→Option (List Value)
 | []=>some []
 | v::vs=>match qap v,X4 vs with
  | some x,some l=>some (x::l)
  | _,_=>none
def zu:AV→Option Value
 | .raw v=>some v
 | .str s=>some (.string ⟨(s.map UInt8.ofNat).toArray⟩)
 | .agg vs=>match X4 vs with|some l=>some (.agg l.toArray)|none=>none
 | _=>none
structure Env where
 P:Program
 ty:Tr TI
 fn:Tr Func
def Env.info (e:Env) (t:TypeId):Option TI:=e.ty.get t
def qY (s:St) (id:Nat):Option (List AV × TypeId × Nat) :=
 match s.h.get id with
 | some (.cells cs el fz)=>some (cs,el,fz)
 | _=>none
def qp9 (s:St) (id:Nat):Option (List AV) :=
 match s.h.get id with
 | some (.old cs)=>some cs
 | _=>none
def Q3 (e:Env) (s:St) (t:TypeId) (v:AV):Option AV :=
 match v with
 | .ptr id off =>
  match qY s id,e.info t with
  | some (cs,_,_),some ti =>
   bif Qv ti.desc then (match ZF off ti.size cs with|some l=>some (.agg l)|none=>none) else cs[off]?
  | none,some ti=>match qp9 s id with
   | some cs=>bif Qv ti.desc then (match ZF off ti.size cs with|some l=>some (.agg l)|none=>none) else cs[off]?
   | none=>none
  | _,_=>none
 | _=>none
def zj (s:St) (id off:Nat) (vs:List AV):Option St :=
 match qY s id with
 | some (cs,el,fz) =>
  bif vs.all AV.one then
   match JW cs off vs with
   | some cs'=>some { s with h:=s.h.set id (.cells cs' el fz) }
   | none=>none
  else none
 | none=>none
def Qu (e:Env) (s:St) (t:TypeId) (p v:AV):Option St :=
 match p,e.info t with
 | .ptr id off,some ti=>bif Nat.beq v.cells.length ti.size then zj s id off v.cells else none
 | _,_=>none
def qcq (place:Nat→Option (Nat × Nat)):List AV→List (Nat × AV)→Option (List AV)
 | cells,[]=>some cells
 | cells,(i,v)::rest =>
  match place i with
  | none=>none
  | some (off,size) =>
   bif Nat.beq v.cells.length size&&Nat.blt 0 size then
    match JW cells off v.cells with
    | some cells'=>qcq place cells' rest
    | none=>none
   else none
def KA (z:List AV):Nat→List AV
 | 0=>[]
 | n+1=>z++KA z n
def qb7 (d:TypeDesc) (x y:AV):Option Bool :=
 match d,x,y with
 | .string,.str a,.str b=>some (eqB a b)
 | .int _,.raw (.int k a),.raw (.int k' b)=>if k=k' then some (a==b) else none
 | .bool,.raw (.bool a),.raw (.bool b)=>some (a==b)
 | _,_,_=>none
def Qr (d:TypeDesc) (k:AV):List (AV × AV)→Nat→Option (Option (Nat × AV))
 | [],_=>some none
 | (k',v)::es,i =>
  match qb7 d k k' with
  | some true=>some (some (i,v))
  | some false=>Qr d k es (i+1)
  | none=>none
def eraseL {α:Type}:List α→Nat→List α
 | [],_=>[]
 | _::l,0=>l
 | a::l,n+1=>a::eraseL l n
def Y7:TypeDesc→Bool
 | .string=>true
 | .int _=>true
 | .bool=>true
 | _=>false
def zt (e:Env) (t:TypeId):Option AV :=
 match e.info t with
 | some ti=>match ti.zero with
  | some v=>some (qom v)
  | none=>none
 | none=>none
def qa (n:Int):AV:=.raw (.int .i64 n)
def eqA (d:TypeDesc) (x y:AV):Option Bool :=
 match d,x,y with
 | .pointer _,.ptr _ _,.raw (.pointer none)=>some false
 | .pointer _,.raw (.pointer none),.ptr _ _=>some false
 | .slice _,.slice ..,.raw (.slice none _ _)=>some false
 | .slice _,.esl ..,.raw (.slice none _ _)=>some false
 | .map _ _,.map _,.raw (.map none)=>some false
 | .func ..,.fn ..,.raw .nilFunc=>some false
 | .interface _,.iface ..,.raw .nilIface=>some false
 | _,_,_=>none
def eqP (e:Env) (s:St) (d:TypeDesc) (x y:AV):Option (Bool × List Nat) :=
 match d,x,y with
 | .pointer el,.ptr i o,.ptr j q =>
  match e.info el with
  | some ei=>bif Nat.beq ei.size 0 then none else
   match qY s i,qY s j with
   | some (_::_,_,0),some (_::_,_,0)=>some (bif Nat.beq i j then Nat.beq o q else false,[i,j])
   | _,_=>none
  | none=>none
 | _,_,_=>none
def qy4 (e:Env) (cs ds:List AV):List Field→Option Bool
 | []=>some true
 | f::fs =>
  bif f.name== "_" then none else
  match e.info f.type with
  | some fi =>
   match fi.desc,cs[f.offset]?,ds[f.offset]? with
   | .string,some (.str a),some (.str b)=>(match qy4 e cs ds fs with|some r=>some (eqB a b&&r)|none=>none)
   | .int _,some (.raw (.int k a)),some (.raw (.int k' b))=>if k=k' then (match qy4 e cs ds fs with|some r=>some ((a==b)&&r)|none=>none) else none
   | _,_,_=>none
  | none=>none
def eqG (e:Env) (t:TypeId) (d:TypeDesc) (x y:AV):Option Bool :=
 match d,x,y with
 | .struct fs,.agg cs,.agg ds=>bif e.P.eqGuardType e.P.depth t||e.P.stoodInHeld t then none else qy4 e cs ds fs.toList
 | _,_,_=>none
def q8 (b:Bool):AV:=.raw (.bool b)
def qE (op:BinOp) (x y:AV):Option AV :=
 match x,y with
 | .raw (.int k a),.raw (.int k' b) =>
  if k=k' then
   match op with
   | .add=>some (.raw (.int k (k.wrap (a+b))))
   | .sub=>some (.raw (.int k (k.wrap (a - b))))
   | .eql=>some (q8 (a==b))
   | .neq=>some (q8 (a != b))
   | .lss=>some (q8 (decide (a < b)))
   | .leq=>some (q8 (decide (a≤b)))
   | .gtr=>some (q8 (decide (a > b)))
   | .geq=>some (q8 (decide (a ≥ b)))
   | _=>none
  else none
 | .str a,.str b =>
  match op with
  | .add=>bif Nat.ble (a.length+b.length) 1048576 then some (.str (a++b)) else none
  | .eql=>some (q8 (eqB a b))
  | .neq=>some (q8 (!eqB a b))
  | .lss=>some (q8 (ltB a b))
  | .leq=>some (q8 (ltB a b||eqB a b))
  | .gtr=>some (q8 (!(ltB a b||eqB a b)))
  | .geq=>some (q8 (!ltB a b))
  | _=>none
 | _,_=>none
def qdr:List AV→Option (List Nat)
 | []=>some []
 | .raw (.int .u8 (.ofNat b))::l=>bif Nat.blt b 256 then (match qdr l with|some r=>some (b::r)|none=>none) else none
 | _=>none
def qjn (s:St) (id off len:Nat):Option (List Nat) :=
 match qY s id with
 | some (cs,_,_) =>
  match ZF off len cs with
  | some l=>qdr l
  | none=>none
 | none=>none
def Jn (s:List Nat):List AV:=s.map fun b=>.raw (.int .u8 (.ofNat b))
def zI (s:St) (size n:Nat):AV→Option (List AV)
 | .slice id off _ _ _ _=>match qY s id with|some (cs,_,_)=>ZF off (n * size) cs|none=>(match qp9 s id with|some cs=>ZF off (n * size) cs|none=>none)
 | .esl ..=>some []
 | .raw (.slice none _ _)=>some []
 | .raw (.slice (some _) 0 _)=>some []
 | .str b=>some (Jn (b.take n))
 | _=>none
def K5:AV→Option Nat
 | .slice _ _ n _ _ _=>some n
 | .esl ..=>some 0
 | .raw (.slice none n _)=>some n
 | .raw (.slice (some _) 0 _)=>some 0
 | .str s=>some s.length
 | _=>none
def ZX:AV→Option Nat
 | .raw (.int _ (.ofNat n))=>some n
 | _=>none
def ZZ (s:St) (elem:TypeId) (el:TI) (b:AV) (n:Nat) (new:List AV):Option (AV × St) :=
 match b with
 | .raw (.slice none 0 0) =>
  bif Nat.beq n 0 then some (b,s)
  else bif Nat.ble (n * el.bytes) 134217728&&Nat.ble n 1048576 then some (.slice s.nx 0 n 0 n false,s.alloc (.cells new elem (2 * el.size))) else none
 | .slice id off len ci cap ex =>
  let need:=len+n
  match qY s id with
  | none=>none
  | some (cs,el0,fz) =>
   bif Nat.ble need cap then
    match zj s id (off+len * el.size) new with
    | some s'=>some (.slice id off need ci cap ex,s')
    | none=>none
   else
    match ZF off (len * el.size) cs with
    | none=>none
    | some old =>
     bif Nat.ble (need * el.bytes) 134217728&&Nat.ble need 1048576 then
      bif ex then some (.slice s.nx 0 need 0 need false,s.alloc (.cells (old++new) elem (2 * el.size)))
      else bif Nat.beq el0 elem&&(Nat.beq (fz / 2) el.size&&Nat.ble off (ci * el.size)) then
       some (.slice s.nx 0 need 0 need false,{ h:=(s.h.del id).set s.nx (.cells (old++new) elem fz),nx:=s.nx+1 })
      else none
     else none
 | _=>none
def q4x (s:St) (elem:TypeId) (el:TI) (b x:AV):Option (AV × St) :=
 match K5 x with
 | none=>none
 | some n =>
  match zI s el.size n x with
  | none=>none
  | some new=>bif Nat.beq new.length (n * el.size)&&new.all AV.one then ZZ s elem el b n new else none
def zO (e:Env) (s:St) (argTypes:List TypeId) (args:List AV):Option (AV × St) :=
 match argTypes,args with
 | [st,xt],[b,x] =>
  match e.info st,e.info xt with
  | some sti,some xti =>
   match sti.desc with
   | .slice elem =>
    match e.info elem,zt e elem with
    | some el,some z =>
     bif Nat.beq z.cells.length el.size&&Nat.blt 0 el.size then
      match xti.desc with
      | .int _ =>
       match ZX x with
       | some n=>bif Nat.ble (n * el.bytes) 1048576&&(Nat.ble n 1048576&&(Nat.blt 0 n&&z.cells.all AV.one)) then ZZ s elem el b n (KA z.cells n) else none
       | none=>none
      | .slice _=>q4x s elem el b x
      | .string=>q4x s elem el b x
      | _=>none
     else none
    | _,_=>none
   | _=>none
  | _,_=>none
 | _,_=>none
def qA (len cap:Nat) (lo hi:Option AV):Option (Nat × Nat) :=
 let h:=match hi with|some v=>ZX v|none=>some len
 let l:=match lo with|some v=>ZX v|none=>some 0
 match l,h with
 | some l,some h=>bif Nat.ble l h&&Nat.ble h cap then some (l,h) else none
 | _,_=>none
def qF (e:Env) (t:TypeId) (x:AV) (lo hi mx:Option AV):Option AV :=
 match mx with
 | some _=>none
 | none =>
 match e.info t with
 | none=>none
 | some ti =>
  match ti.desc,x with
  | .string,.str s =>
   match qA s.length s.length lo hi with
   | some (l,h)=>some (.str ((s.drop l).take (h - l)))
   | none=>none
  | .slice elem,.slice id off len ci cap ex =>
   match e.info elem,qA len cap lo hi with
   | some el,some (l,h) =>
    bif Nat.blt l cap||Nat.beq l 0 then some (.slice id (off+l * el.size) (h - l) (ci+l) (cap - l) ex)
    else bif ex then some (.slice id off 0 ci 0 true)
    else some (.esl id off ci l el.size)
   | _,_=>none
  | .slice elem,.esl id off ci l sz=>match e.info elem,qA 0 0 lo hi with
   | some _,some _=>some (.esl id off ci l sz)
   | _,_=>none
  | .array n elem,.ptr id off =>
   match e.info elem,qA n n lo hi with
   | some el,some (l,h)=>some (bif Nat.beq l n then .slice id off 0 0 0 true else .slice id (off+l * el.size) (h - l) 0 (n - l) true)
   | _,_=>none
  | .slice elem,.raw (.slice none 0 0) =>
   match e.info elem,qA 0 0 lo hi with
   | some _,some _=>some (.raw (.slice none 0 0))
   | _,_=>none
  | _,_=>none
def YO (s:St):AV→Option (List (AV × AV))
 | .map id=>match s.h.get id with|some (.map es)=>some es|_=>none
 | .raw (.map none)=>some []
 | _=>none
def Qt (e:Env) (s:St) (t:TypeId) (x k:AV) (ok:Bool):Option AV :=
 match e.info t with
 | none=>none
 | some ti =>
  match ti.desc with
  | .map key elem =>
   match e.info key,YO s x with
   | some ki,some es =>
    bif Y7 ki.desc then
     match Qr ki.desc k es 0 with
     | some (some (_,v))=>some (bif ok then .tuple [v,q8 true] else v)
     | some none=>match zt e elem with
      | some z=>some (bif ok then .tuple [z,q8 false] else z)
      | none=>none
     | none=>none
    else none
   | _,_=>none
  | _=>none
def za (e:Env) (s:St) (t:TypeId) (x k v:AV):Option St :=
 match e.info t,x with
 | some ti,.map id =>
  match ti.desc,s.h.get id with
  | .map key _,some (.map es) =>
   match e.info key with
   | some ki =>
    bif Y7 ki.desc then
     match Qr ki.desc k es 0 with
     | some (some (i,_))=>some { s with h:=s.h.set id (.map (setL es i (k,v))) }
     | some none=>some { s with h:=s.h.set id (.map (es++[(k,v)])) }
     | none=>none
    else none
   | none=>none
  | _,_=>none
 | _,_=>none
def zB:Nat→Nat→List Nat
 | 0,_=>[]
 | n+1,i=>i::zB n (i+1)
def qbs (i:Nat):List Nat→Bool
 | []=>false
 | j::l=>bif Nat.beq i j then true else qbs i l
def qrx (i:Nat):List (AV × AV)→List Nat→Option (AV × AV)
 | q::es,j::ix=>bif Nat.beq j i then some q else qrx i es ix
 | _,_=>none
def zE (seen:List Nat):List (AV × AV)→List Nat→List (Nat × (AV × AV))
 | q::es,i::ix=>bif qbs i seen then zE seen es ix else (i,q)::zE seen es ix
 | _,_=>[]
def VE (s:St) (x:AV):Option (AV × List Nat) :=
 match x with
 | .ptr id 0=>match s.h.get id with
  | some (.miter m (i::_))=>match s.h.get m with
   | some (.rmap es it ix)=>bif Nat.beq it id then (match qrx i es ix with|some q=>some (.tuple [q.1,q.2],[id,m])|none=>none) else none
   | _=>none
  | _=>none
 | _=>none
def QU (e:Env) (s:St) (argTypes:List TypeId) (args:List AV):Option St :=
 match argTypes,args with
 | t::_,[x,k] =>
  match e.info t,x with
  | some ti,.map id =>
   match ti.desc,s.h.get id with
   | .map key _,some (.map es) =>
    match e.info key with
    | some ki =>
     bif Y7 ki.desc then
      match Qr ki.desc k es 0 with
      | some (some (i,_))=>some { s with h:=s.h.set id (.map (eraseL es i)) }
      | some none=>some s
      | none=>none
     else none
    | none=>none
   | .map key _,some (.rmap es it ix) =>
    match e.info key with
    | some ki =>
     bif Y7 ki.desc then
      match Qr ki.desc k es 0 with
      | some (some (i,_))=>some { s with h:=s.h.set id (.rmap (eraseL es i) it (eraseL ix i)) }
      | some none=>some s
      | none=>none
     else none
    | none=>none
   | _,_=>none
  | _,_=>none
 | _,_=>none
def Q5 (e:Env) (s:St) (argTypes:List TypeId) (args:List AV):Option AV :=
 match argTypes,args with
 | t::_,x::_ =>
  match e.info t with
  | none=>none
  | some ti =>
   match ti.desc,x with
   | .string,.str l=>some (qa l.length)
   | .array n _,_=>some (qa n)
   | .slice _,.slice _ _ n _ _ _=>some (qa n)
   | .slice _,.esl ..=>some (qa 0)
   | .slice _,.raw (.slice _ n _)=>some (qa n)
   | .map _ _,_=>match YO s x with|some es=>some (qa es.length)|none=>none
   | _,_=>none
 | _,_=>none
def qfl (e:Env) (argTypes:List TypeId) (args:List AV):Option AV :=
 match argTypes,args with
 | t::_,x::_ =>
  match e.info t with
  | none=>none
  | some ti =>
   match ti.desc,x with
   | .array n _,_=>some (qa n)
   | .slice _,.slice _ _ _ _ c true=>some (qa c)
   | .slice _,.raw (.slice _ _ c)=>some (qa c)
   | _,_=>none
 | _,_=>none
def qr7 (e:Env) (s:St) (argTypes:List TypeId) (args:List AV):Option (AV × St) :=
 match argTypes,args with
 | t::_,[.slice id off dl _ _ _,x] =>
  match e.info t with
  | some ti =>
   match ti.desc with
   | .slice elem =>
    match e.info elem,K5 x with
    | some el,some xl =>
     let n:=Nat.min xl dl
     match zI s el.size n x with
     | some cs=>match zj s id off cs with
      | some s'=>some (qa n,s')
      | none=>none
     | none=>none
    | _,_=>none
   | _=>none
  | none=>none
 | _,_=>none
def ql2 (e:Env) (s:St) (src dst:TypeId) (x:AV):Option (AV × List Nat) :=
 match e.info src,e.info dst with
 | some si,some di =>
  match si.desc,di.desc,x with
  | .slice el,.string,.slice id off len _ _ _=>match e.info el with
   | some eli=>match eli.desc with
    | .int .u8=>match qjn s id off len with|some b=>some (.str b,[id])|none=>none
    | _=>none
   | none=>none
  | _,_,_=>none
 | _,_=>none
def qns (e:Env) (s:St) (src dst:TypeId) (x:AV):Option (AV × St) :=
 match e.info src,e.info dst,x with
 | some si,some di,.str b=>match si.desc,di.desc with
  | .string,.slice el=>match e.info el with
   | some eli=>match eli.desc with
    | .int .u8=>some (.slice s.nx 0 b.length 0 b.length false,s.alloc (.cells (Jn b) el 3))
    | _=>none
   | none=>none
  | _,_=>none
 | _,_,_=>none
def fieldsOf:TypeDesc→List Field
 | .struct fs=>fs.toList
 | _=>[]
def qru (e:Env) (t:TypeId) (cs:List AV) (off:Nat):Option AV :=
 match e.info t with
 | some ti=>bif Qv ti.desc then (match ZF off ti.size cs with|some l=>some (.agg l)|none=>none) else cs[off]?
 | none=>none
def Kg (s:Option St):Option (AV × St):=match s with|some s=>some (zY,s)|none=>none
def zx (v:Option AV):Option (AV × List Nat):=match v with|some v=>some (v,[])|none=>none
def Ko (ids:List Nat) (v:Option AV):Option (AV × List Nat):=match v with|some v=>some (v,ids)|none=>none
def QG:AV→List Nat
 | .ptr id _=>[id]
 | .map id=>[id]
 | _=>[]
def zh (a:Ac) (x:Operand):Value:=match zu (a.eval x) with|some v=>v|none=>undef
def qt (e:Env) (a:Ac) (o:Oper):Option (AV × List Nat) :=
 bif o.op.operands.toList.all (fun x=>(zu (a.eval x)).isSome) then
  match qX e.P (execOp (zh a) o) with
  | some (.value v)=>some (qom v,[])
  | _=>none
 else none
def XO (e:Env):List Field→Option (List (Nat × Nat))
 | []=>some []
 | f::fs=>match e.info f.type,XO e fs with
  | some fi,some l=>some ((f.offset,fi.size)::l)
  | _,_=>none
def Qb (e:Env) (t:TypeId) (parts:List (Nat × AV)):Option AV :=
 match zt e t,e.info t with
 | some z,some ti =>
  match ti.desc with
  | .struct fs=>match XO e fs.toList with
   | some pl=>match qcq (fun i=>pl[i]?) z.cells parts with
    | some cs=>some (.agg cs)
    | none=>none
   | none=>none
  | .array _ el=>match e.info el with
   | some eli=>match qcq (fun i=>some (i * eli.size,eli.size)) z.cells parts with
    | some cs=>some (.agg cs)
    | none=>none
   | none=>none
  | _=>none
 | _,_=>none
def qk (e:Env) (st:TypeId) (x:AV) (f:Nat):Option AV :=
 match e.info st,x with
 | some ti,.ptr id off=>match (fieldsOf ti.desc)[f]? with
  | some fd=>match e.info fd.type with
   | some fi=>bif Nat.beq fi.size 0 then none else some (.ptr id (off+fd.offset))
   | none=>none
  | none=>none
 | _,_=>none
def qam (e:Env) (t:TypeId) (x:AV) (f:Nat):Option AV :=
 match e.info t,x with
 | some ti,.agg cs=>match (fieldsOf ti.desc)[f]? with
  | some fd=>qru e fd.type cs fd.offset
  | none=>none
 | _,_=>none
def qL (e:Env) (t:TypeId) (x i:AV):Option AV :=
 match e.info t,ZX i with
 | some ti,some i=>match ti.desc,x with
  | .array len el,.ptr id off=>match e.info el with
   | some eli=>bif Nat.blt i len then some (.ptr id (off+i * eli.size)) else none
   | none=>none
  | .slice el,.slice id off len _ _ _=>match e.info el with
   | some eli=>bif Nat.blt i len then some (.ptr id (off+i * eli.size)) else none
   | none=>none
  | _,_=>none
 | _,_=>none
def Xg (e:Env) (t:TypeId) (x i:AV):Option AV :=
 match e.info t,ZX i with
 | some ti,some i=>match ti.desc,x with
  | .array len el,.agg cs=>match e.info el with
   | some eli=>bif Nat.blt i len then qru e el cs (i * eli.size) else none
   | none=>none
  | .string,.str b=>match b[i]? with
   | some c=>some (.raw (.int .u8 (.ofNat c)))
   | none=>none
  | _,_=>none
 | _,_=>none
def Vi (e:Env) (x:AV) (t:TypeId) (ok:Bool):Option AV :=
 match e.info t with
 | some ti=>match ti.desc with
  | .interface _=>none
  | _=>match x with
   | .iface t' v'=>bif Nat.beq t' t then some (bif ok then .tuple [v',q8 true] else v')
     else bif ok then (match zt e t with|some z=>some (.tuple [z,q8 false])|none=>none) else none
   | _=>none
 | none=>none
def Wb:TypeDesc→Bool
 | .interface _=>true
 | _=>false
def zp (e:Env) (a:Ac) (s:St) (o:Oper):Option (AV × List Nat) :=
 match o.op with
 | .move x=>some (a.eval x,[])
 | .assign x=>some (a.eval x,[])
 | .pick c x y=>match a.eval c with
  | .raw (.bool b)=>some (bif b then a.eval x else a.eval y,[])
  | _=>none
 | .build t parts=>zx (Qb e t (parts.toList.map fun q=>(q.1,a.eval q.2)))
 | .load t x=>Ko (QG (a.eval x)) (Q3 e s t (a.eval x))
 | .nilCheck x=>match a.eval x with
  | .ptr id off=>some (.ptr id off,[])
  | .fn f c=>some (.fn f c,[])
  | .yld l=>some (.yld l,[])
  | .iface t v=>some (.iface t v,[])
  | _=>none
 | .binOp op t x y _=>match qE op (a.eval x) (a.eval y) with
  | some v=>some (v,[])
  | none=>match op with
   | .eql=>match e.info t with
    | some ti=>match eqA ti.desc (a.eval x) (a.eval y) with
     | some b=>some (q8 b,[])
     | none=>match eqP e s ti.desc (a.eval x) (a.eval y) with
      | some (b,ids)=>some (q8 b,ids)
      | none=>match eqG e t ti.desc (a.eval x) (a.eval y) with
       | some b=>some (q8 b,[])
       | none=>qt e a o
    | none=>none
   | .neq=>match e.info t with
    | some ti=>match eqA ti.desc (a.eval x) (a.eval y) with
     | some b=>some (q8 !b,[])
     | none=>match eqP e s ti.desc (a.eval x) (a.eval y) with
      | some (b,ids)=>some (q8 !b,ids)
      | none=>match eqG e t ti.desc (a.eval x) (a.eval y) with
       | some b=>some (q8 !b,[])
       | none=>qt e a o
    | none=>none
   | _=>qt e a o
 | .unOp ..=>qt e a o
 | .convert src dst x=>match ql2 e s src dst (a.eval x) with
  | some r=>some r
  | none=>qt e a o
 | .makeInterface t x=>match e.info t with
  | some ti=>bif Wb ti.desc then none else some (.iface t (a.eval x),[])
  | none=>none
 | .makeFunc f first captured=>match f with
  | .func f=>bif first.toList.isEmpty then some (.fn f (captured.toList.map a.eval),[]) else none
  | _=>none
 | .slice t x lo hi mx=>zx (qF e t (a.eval x) (lo.map a.eval) (hi.map a.eval) (mx.map a.eval))
 | .fieldAddr st x f=>zx (qk e st (a.eval x) f)
 | .field t x f=>zx (qam e t (a.eval x) f)
 | .indexAddr t x i=>zx (qL e t (a.eval x) (a.eval i))
 | .index t x i=>zx (Xg e t (a.eval x) (a.eval i))
 | .lookup t x k ok=>Ko (QG (a.eval x)) (Qt e s t (a.eval x) (a.eval k) ok)
 | .typeAssert x _ t ok=>zx (Vi e (a.eval x) t ok)
 | .entry x=>VE s (a.eval x)
 | .extract x i=>match a.eval x with
  | .tuple vs=>zx vs[i]?
  | _=>qt e a o
 | .call c=>match c.callee with
  | .builtin .len=>Ko (match c.args.toList with|x::_=>QG (a.eval x) | []=>[]) (Q5 e s c.argTypes.toList (c.args.toList.map a.eval))
  | .builtin .cap=>zx (qfl e c.argTypes.toList (c.args.toList.map a.eval))
  | .builtin .min=>qt e a o
  | .builtin .max=>qt e a o
  | _=>none
 | _=>none
def Js (e:Env) (s:St) (t:TypeId) (l c:AV):Option (AV × St) :=
 match e.info t,ZX l,ZX c with
 | some ti,some l,some c=>match ti.desc with
  | .slice el=>match e.info el,zt e el with
   | some eli,some z=>bif (Nat.ble l c&&Nat.ble (c * eli.bytes) 1048576&&Nat.ble c 1048576)&&(Nat.beq z.cells.length eli.size&&Nat.blt 0 eli.size) then some (.slice s.nx 0 l 0 c true,s.alloc (.cells (KA z.cells c) el 0)) else none
   | _,_=>none
  | _=>none
 | _,_,_=>none
def zq (e:Env) (s:St) (t:TypeId) (len:Nat) (parts:List (Nat × AV)):Option (AV × St) :=
 match e.info t with
 | some ti=>match ti.desc with
  | .slice el=>match e.info el,zt e el with
   | some eli,some z =>
    bif Nat.ble (len * eli.size) 100000&&(Nat.beq z.cells.length eli.size&&Nat.blt 0 eli.size) then
     match qcq (fun i=>some (i * eli.size,eli.size)) (KA z.cells len) parts with
     | some cs=>some (.slice s.nx 0 len 0 len true,s.alloc (.cells cs el 0))
     | none=>none
    else none
   | _,_=>none
  | _=>none
 | none=>none
def qbq (e:Env) (a:Ac) (s:St) (o:Oper):Option (AV × St) :=
 match o.op with
 | .alloc t=>match zt e t with
  | some z=>some (.ptr s.nx 0,s.alloc (.cells z.cells t 0))
  | none=>none
 | .box t x=>some (.ptr s.nx 0,s.alloc (.cells (a.eval x).cells t 0))
 | .buildSlice t len parts=>zq e s t len (parts.toList.map fun q=>(q.1,a.eval q.2))
 | .store t x v=>Kg (Qu e s t (a.eval x) (a.eval v))
 | .convert src dst x=>qns e s src dst (a.eval x)
 | .makeMap _ r=>match r with
  | none=>some (.map s.nx,s.alloc (.map []))
  | some _=>none
 | .makeSlice t l c=>Js e s t (a.eval l) (a.eval c)
 | .mapUpdate t m k x=>Kg (za e s t (a.eval m) (a.eval k) (a.eval x))
 | .insert t m k x=>Kg (za e s t (a.eval m) (a.eval k) (a.eval x))
 | .range t x=>match e.info t,a.eval x with
  | some ti,.str b=>match ti.desc with
   | .string=>some (.ptr s.nx 0,s.alloc (.siter b 0 b))
   | _=>none
  | some ti,.map m=>match ti.desc,s.h.get m with
   | .map _ _,some (.map es)=>some (.ptr s.nx 0,{ h:=(s.h.set s.nx (.miter m [])).set m (.rmap es s.nx (zB es.length 0)),nx:=s.nx+1 })
   | _,_=>none
  | _,_=>none
 | .next it true=>match a.eval it with
  | .ptr id 0=>match s.h.get id with
   | some (.siter b pos left)=>match left with
    | []=>some (.tuple [q8 false],s)
    | c::l=>bif Nat.blt c 128 then some (.tuple [q8 true,qa pos,.raw (.int .i32 (.ofNat c))],{ s with h:=s.h.set id (.siter b (pos+1) l) }) else none
   | _=>none
  | _=>none
 | .call c=>match c.callee with
  | .builtin .append=>zO e s c.argTypes.toList (c.args.toList.map a.eval)
  | .builtin .copy=>qr7 e s c.argTypes.toList (c.args.toList.map a.eval)
  | .builtin .delete=>Kg (QU e s c.argTypes.toList (c.args.toList.map a.eval))
  | _=>none
 | _=>none
end Go.AX
namespace Go.AX
open Go.RowKit
section
variable {α:Type}
theorem Tr.get_setF:∀ (f:Nat) (t:Tr α) (k:Nat) (x:Option α),k < f→∀ j,(Tr.setF f t k x).get j=if j=k then x else t.get j:=by
 intro f
 induction f with
 | zero=>intro t k x h;omega
 | succ f ih =>
  intro t k x h j
  have hb0:∀ n:Nat,Nat.beq n 0=decide (n=0):=fun n=>by cases n <;> rfl
  have hb1:∀ n:Nat,Nat.beq n 1=decide (n=1):=fun n=>by
   rcases n with _|_|n <;> rfl
  cases t with
  | e =>
   simp only[Tr.setF,hb0,hb1]
   by_cases hk0:k=0
   ·subst hk0
    simp only[decide_true,cond_true,Tr.get,hb0,hb1]
    by_cases hj0:j=0
    ·simp[hj0]
    ·simp[hj0]
   ·simp only[hk0,decide_false,cond_false]
    by_cases hk1:k % 2=1
    ·simp only[hk1,decide_true,cond_true,Tr.get,hb0,hb1]
     by_cases hj0:j=0
     ·simp[hj0];intro h';omega
     ·simp only[hj0,decide_false,cond_false]
      by_cases hj1:j % 2=1
      ·simp only[hj1,decide_true,cond_true]
       rw[ih .e (k / 2) x (by omega) (j / 2)]
       have:(j / 2=k / 2)↔(j=k):=by omega
       simp[this,Tr.get]
      ·simp only[hj1,decide_false,cond_false]
       rw[if_neg (by omega)]
    ·simp only[hk1,decide_false,cond_false,Tr.get,hb0,hb1]
     by_cases hj0:j=0
     ·simp[hj0];intro h';omega
     ·simp only[hj0,decide_false,cond_false]
      by_cases hj1:j % 2=1
      ·simp only[hj1,decide_true,cond_true]
       rw[if_neg (by omega)]
      ·simp only[hj1,decide_false,cond_false]
       rw[ih .e (k / 2 - 1) x (by omega) (j / 2 - 1)]
       have:(j / 2 - 1=k / 2 - 1)↔(j=k):=by omega
       simp[this,Tr.get]
  | n l v r =>
   simp only[Tr.setF,hb0,hb1]
   by_cases hk0:k=0
   ·subst hk0
    simp only[decide_true,cond_true,Tr.get,hb0,hb1]
    by_cases hj0:j=0
    ·simp[hj0]
    ·simp[hj0]
   ·simp only[hk0,decide_false,cond_false]
    by_cases hk1:k % 2=1
    ·simp only[hk1,decide_true,cond_true,Tr.get,hb0,hb1]
     by_cases hj0:j=0
     ·simp[hj0];intro h';omega
     ·simp only[hj0,decide_false,cond_false]
      by_cases hj1:j % 2=1
      ·simp only[hj1,decide_true,cond_true]
       rw[ih l (k / 2) x (by omega) (j / 2)]
       have:(j / 2=k / 2)↔(j=k):=by omega
       simp[this]
      ·simp only[hj1,decide_false,cond_false]
       rw[if_neg (by omega)]
    ·simp only[hk1,decide_false,cond_false,Tr.get,hb0,hb1]
     by_cases hj0:j=0
     ·simp[hj0];intro h';omega
     ·simp only[hj0,decide_false,cond_false]
      by_cases hj1:j % 2=1
      ·simp only[hj1,decide_true,cond_true]
       rw[if_neg (by omega)]
      ·simp only[hj1,decide_false,cond_false]
       rw[ih r (k / 2 - 1) x (by omega) (j / 2 - 1)]
       have:(j / 2 - 1=k / 2 - 1)↔(j=k):=by omega
       simp[this]
theorem Tr.get_set (t:Tr α) (k:Nat) (x:α) (j:Nat):(t.set k x).get j=if j=k then some x else t.get j :=
 Tr.get_setF _ t k _ (by omega) j
theorem Tr.get_del (t:Tr α) (k j:Nat):(t.del k).get j=if j=k then none else t.get j :=
 Tr.get_setF _ t k _ (by omega) j
end
abbrev Em:=Nat→Option (Nat × Nat × Nat)
def Em.le (E E':Em):Prop:=∀ i p,E i=some p→E' i=some p
theorem Em.le_refl (E:Em):E.le E:=fun _ _ h=>h
theorem Em.le_trans {E E' E'':Em} (h:E.le E') (h':E'.le E''):E.le E'':=fun i p hp=>h' i p (h i p hp)
def Yp (s:List Nat):Value:=.string ⟨(s.map UInt8.ofNat).toArray⟩
def qO (s:List Nat):Prop:=∀ c∈s,c < 256
mutual
def VRel (E:Em):AV→Value→Prop
 | .raw v,V=>V=v
 | .str s,V=>qO s∧V=Yp s
 | .ptr id off,V=>∃ p,E id=some p∧V=.pointer (some ⟨p.1,p.2.1+off,none⟩)
 | .slice id off len ci cap ex,V=>∃ p,E id=some p∧V=.slice (some ⟨p.1,p.2.1+off,none⟩) len (if ex then cap else p.2.2 - ci)∧len≤cap∧(ex=false→cap≤p.2.2 - ci)
 | .esl id off ci l size,V=>∃ p,E id=some p∧V=.slice (some (if p.2.2 - ci=l then⟨p.1,p.2.1+off,none⟩ else⟨p.1,p.2.1+off+l * size,none⟩)) 0 (p.2.2 - ci - l)
 | .map id,V=>∃ p,E id=some p∧V=.map (some p.1)
 | .fn f cap,V=>∃ C,VRels E cap C∧V=.func (.func f) #[] C.toArray
 | .yld id,V=>∃ p,E id=some p∧V=.func (.yield p.1) #[] #[]
 | .iface t v,V=>∃ U,VRel E v U∧V=.iface t U
 | .agg vs,V=>∃ C,VRels E vs C∧V=.agg C.toArray
 | .tuple vs,V=>∃ C,VRels E vs C∧V=.tuple C.toArray
def VRels (E:Em):List AV→List Value→Prop
 | [],L=>L=[]
 | v::vs,L=>∃ V Vs,VRel E v V∧VRels E vs Vs∧L=V::Vs
end

mutual
theorem VRel.mono' {E E':Em} (hE:E.le E'):∀ (v:AV) (V:Value),VRel E v V→VRel E' v V
 | .raw v,V,h=>by simpa [VRel] using h
 | .str s,V,h=>by simpa [VRel] using h
 | .ptr id off,V,h=>by simp only[VRel] at h ⊢;obtain⟨p,hp,r⟩:=h;exact⟨p,hE _ _ hp,r⟩
 | .slice id off len ci cap ex,V,h=>by simp only[VRel] at h ⊢;obtain⟨p,hp,r⟩:=h;exact⟨p,hE _ _ hp,r⟩
 | .esl id off ci l size,V,h=>by simp only[VRel] at h ⊢;obtain⟨p,hp,r⟩:=h;exact⟨p,hE _ _ hp,r⟩
 | .map id,V,h=>by simp only[VRel] at h ⊢;obtain⟨p,hp,r⟩:=h;exact⟨p,hE _ _ hp,r⟩
 | .fn f cap,V,h=>by simp only[VRel] at h ⊢;obtain⟨C,hc,r⟩:=h;exact⟨C,VRels.mono' hE cap C hc,r⟩
 | .yld id,V,h=>by simp only[VRel] at h ⊢;obtain⟨p,hp,r⟩:=h;exact⟨p,hE _ _ hp,r⟩
 | .iface t v,V,h=>by simp only[VRel] at h ⊢;obtain⟨U,hu,r⟩:=h;exact⟨U,VRel.mono' hE v U hu,r⟩
 | .agg vs,V,h=>by simp only[VRel] at h ⊢;obtain⟨C,hc,r⟩:=h;exact⟨C,VRels.mono' hE vs C hc,r⟩
 | .tuple vs,V,h=>by simp only[VRel] at h ⊢;obtain⟨C,hc,r⟩:=h;exact⟨C,VRels.mono' hE vs C hc,r⟩
theorem VRels.mono' {E E':Em} (hE:E.le E'):∀ (vs:List AV) (L:List Value),VRels E vs L→VRels E' vs L
 | [],L,h=>by simpa [VRels] using h
 | v::vs,L,h=>by
  simp only[VRels] at h ⊢
  obtain⟨V,Vs,hv,hvs,r⟩:=h
  exact⟨V,Vs,VRel.mono' hE v V hv,VRels.mono' hE vs Vs hvs,r⟩
end

theorem VRel.mono {E E':Em} {v:AV} {V:Value} (h:VRel E v V) (hE:E.le E'):VRel E' v V:=VRel.mono' hE v V h
theorem VRels.mono {E E':Em} {vs:List AV} {L:List Value} (h:VRels E vs L) (hE:E.le E'):VRels E' vs L:=VRels.mono' hE vs L h
mutual
theorem VRel.same {E E':Em} (hE:E.le E'):∀ (v:AV) (V V':Value),VRel E v V→VRel E' v V'→V'=V
 | .raw v,V,V',h,h'=>by simp only[VRel] at h h';rw[h,h']
 | .str s,V,V',h,h'=>by simp only[VRel] at h h';rw[h.2,h'.2]
 | .ptr id off,V,V',h,h'=>by
  simp only[VRel] at h h';obtain⟨p,hp,r⟩:=h;obtain⟨q,hq,r'⟩:=h';rw[hE _ _ hp] at hq;cases hq;rw[r,r']
 | .slice id off len ci cap ex,V,V',h,h'=>by
  simp only[VRel] at h h';obtain⟨p,hp,r,_⟩:=h;obtain⟨q,hq,r',_⟩:=h';rw[hE _ _ hp] at hq;cases hq;rw[r,r']
 | .esl id off ci l size,V,V',h,h'=>by
  simp only[VRel] at h h';obtain⟨p,hp,r⟩:=h;obtain⟨q,hq,r'⟩:=h';rw[hE _ _ hp] at hq;cases hq;rw[r,r']
 | .map id,V,V',h,h'=>by
  simp only[VRel] at h h';obtain⟨p,hp,r⟩:=h;obtain⟨q,hq,r'⟩:=h';rw[hE _ _ hp] at hq;cases hq;rw[r,r']
 | .fn f cap,V,V',h,h'=>by
  simp only[VRel] at h h';obtain⟨C,hc,r⟩:=h;obtain⟨C',hc',r'⟩:=h';rw[r,r',VRels.same hE cap C C' hc hc']
 | .yld id,V,V',h,h'=>by
  simp only[VRel] at h h';obtain⟨p,hp,r⟩:=h;obtain⟨q,hq,r'⟩:=h';rw[hE _ _ hp] at hq;cases hq;rw[r,r']
 | .iface t v,V,V',h,h'=>by
  simp only[VRel] at h h';obtain⟨U,hu,r⟩:=h;obtain⟨U',hu',r'⟩:=h';rw[r,r',VRel.same hE v U U' hu hu']
 | .agg vs,V,V',h,h'=>by
  simp only[VRel] at h h';obtain⟨C,hc,r⟩:=h;obtain⟨C',hc',r'⟩:=h';rw[r,r',VRels.same hE vs C C' hc hc']
 | .tuple vs,V,V',h,h'=>by
  simp only[VRel] at h h';obtain⟨C,hc,r⟩:=h;obtain⟨C',hc',r'⟩:=h';rw[r,r',VRels.same hE vs C C' hc hc']
theorem VRels.same {E E':Em} (hE:E.le E'):∀ (vs:List AV) (L L':List Value),VRels E vs L→VRels E' vs L'→L'=L
 | [],L,L',h,h'=>by simp only[VRels] at h h';rw[h,h']
 | v::vs,L,L',h,h'=>by
  simp only[VRels] at h h'
  obtain⟨V,Vs,hv,hvs,r⟩:=h
  obtain⟨V',Vs',hv',hvs',r'⟩:=h'
  rw[r,r',VRel.same hE v V V' hv hv',VRels.same hE vs Vs Vs' hvs hvs']
end

theorem VRels.length {E:Em}:∀ {vs:List AV} {L:List Value},VRels E vs L→L.length=vs.length
 | [],L,h=>by simp only[VRels] at h;simp[h]
 | v::vs,L,h=>by
  simp only[VRels] at h
  obtain⟨V,Vs,_,hvs,r⟩:=h
  simp[r,VRels.length hvs]
theorem VRels.get {E:Em}:∀ {vs:List AV} {L:List Value},VRels E vs L→∀ {i:Nat} {v:AV},vs[i]?=some v→∃ V,L[i]?=some V∧VRel E v V
 | [],_,_,i,v,hv=>by simp at hv
 | u::vs,L,h,i,v,hv=>by
  simp only[VRels] at h
  obtain⟨V,Vs,hu,hvs,r⟩:=h
  cases i with
  | zero=>simp at hv;subst hv;exact⟨V,by simp[r],hu⟩
  | succ i=>simp at hv;obtain⟨W,hW,hr⟩:=VRels.get hvs hv;exact⟨W,by simp[r,hW],hr⟩
theorem VRels.append {E:Em}:∀ {vs us:List AV} {L M:List Value},VRels E vs L→VRels E us M→VRels E (vs++us) (L++M)
 | [],us,L,M,h,h'=>by simp only[VRels] at h;simpa [h] using h'
 | v::vs,us,L,M,h,h'=>by
  simp only[VRels,List.cons_append] at h ⊢
  obtain⟨V,Vs,hv,hvs,r⟩:=h
  exact⟨V,Vs++M,hv,VRels.append hvs h',by simp[r]⟩
theorem VRels.map {E:Em} {β:Type} {f:β→AV} {g:β→Value} (h:∀ x,VRel E (f x) (g x)):∀ (l:List β),VRels E (l.map f) (l.map g)
 | []=>by simp[VRels]
 | x::l=>by simp only[List.map_cons,VRels];exact⟨_,_,h x,VRels.map h l,rfl⟩
theorem VRels.raws {E:Em}:∀ (L:List Value),VRels E (L.map .raw) L
 | []=>by simp[VRels]
 | V::L=>by simp only[List.map_cons,VRels];exact⟨V,L,by simp[VRel],VRels.raws L,rfl⟩
theorem VRels.cons {E:Em} {v:AV} {V:Value} {vs:List AV} {L:List Value} (h:VRel E v V) (h':VRels E vs L):VRels E (v::vs) (V::L):=by
 simp only[VRels];exact⟨V,L,h,h',rfl⟩
theorem VRels.nil {E:Em}:VRels E [] []:=by simp[VRels]
theorem WQ:∀ {n:Nat} {l r:List AV},ZJ n l=some r→r=l.take n∧n≤l.length
 | 0,l,r,h=>by simp[ZJ] at h;simp[h]
 | n+1,[],r,h=>by simp[ZJ] at h
 | n+1,a::l,r,h=>by
  simp only[ZJ] at h
  cases hr:ZJ n l with
  | none=>simp[hr] at h
  | some q =>
   simp only[hr,Option.some.injEq] at h
   obtain⟨hq,hn⟩:=WQ hr
   subst h
   simp[hq,hn]
theorem qaj:∀ {n:Nat} {l r:List AV},ZB n l=some r→r=l.drop n∧n≤l.length
 | 0,l,r,h=>by simp[ZB] at h;simp[h]
 | n+1,[],r,h=>by simp[ZB] at h
 | n+1,a::l,r,h=>by
  simp only[ZB] at h
  obtain⟨hq,hn⟩:=qaj h
  simp[hq,hn]
theorem qc2 {off n:Nat} {cs r:List AV} (h:ZF off n cs=some r):r=(cs.drop off).take n∧off+n≤cs.length:=by
 unfold ZF at h
 cases hd:ZB off cs with
 | none=>simp[hd] at h
 | some l =>
  simp only[hd] at h
  obtain⟨rfl,h1⟩:=qaj hd
  obtain⟨rfl,h2⟩:=WQ h
  simp at h2
  exact⟨rfl,by omega⟩
theorem qjf {off n:Nat} {cs r:List AV} (h:ZF off n cs=some r):r.length=n∧∀ i,i < n→r[i]?=cs[off+i]?:=by
 obtain⟨rfl,hl⟩:=qc2 h
 refine⟨by simp;omega,fun i hi=>?_⟩
 rw[List.getElem?_take,if_pos hi,List.getElem?_drop]
theorem Xl:∀ {cs:List AV} {n:Nat} {xs r:List AV},JW cs n xs=some r→(xs=[]∨n+xs.length≤cs.length)∧r.length=cs.length∧∀ i,r[i]?=if n≤i∧i < n+xs.length then xs[i - n]? else cs[i]?
 | cs,n,[],r,h=>by
  have hr:cs=r:=by cases cs <;> cases n <;> simpa [JW] using h
  subst hr
  exact⟨.inl rfl,rfl,fun i=>by rw[if_neg (by simp)]⟩
 | [],n,x::xs,r,h=>by cases n <;> simp[JW] at h
 | c::cs,0,x::xs,r,h=>by
  simp only[JW] at h
  cases hp:JW cs 0 xs with
  | none=>simp[hp] at h
  | some q =>
   simp only[hp,Option.some.injEq] at h
   subst h
   obtain⟨h1,h2,h3⟩:=Xl hp
   refine⟨.inr ?_,by simp[h2],fun i=>?_⟩
   ·rcases h1 with rfl|h1
    ·simp
    ·simp at h1 ⊢;omega
   ·cases i with
    | zero=>simp
    | succ i =>
     simp only[List.getElem?_cons_succ,h3 i,List.length_cons,Nat.zero_le,true_and,Nat.zero_add,Nat.sub_zero]
     by_cases hi:i < xs.length
     ·rw[if_pos hi,if_pos (by omega)]
     ·rw[if_neg hi,if_neg (by omega)]
 | c::cs,n+1,x::xs,r,h=>by
  simp only[JW] at h
  cases hp:JW cs n (x::xs) with
  | none=>simp[hp] at h
  | some q =>
   simp only[hp,Option.some.injEq] at h
   subst h
   obtain⟨h1,h2,h3⟩:=Xl hp
   refine⟨.inr ?_,by simp[h2],fun i=>?_⟩
   ·rcases h1 with h1|h1
    ·simp at h1
    ·simp at h1 ⊢;omega
   ·cases i with
    | zero=>simp
    | succ i =>
     simp only[List.getElem?_cons_succ,h3 i]
     by_cases hi:n≤i∧i < n+(x::xs).length
     ·rw[if_pos hi,if_pos (by omega)];congr 1;omega
     ·rw[if_neg hi,if_neg (by omega)]
theorem Z1 {E:Em} {v:AV} {V:Value} (h:VRel E v V):VRels E v.cells V.cells.toList:=by
 cases v with
 | raw u =>
  simp only[VRel] at h;subst h
  cases V <;> simp only[AV.cells,Value.cells] <;> first|exact VRels.raws _|exact VRels.cons (by simp[VRel]) VRels.nil
 | agg vs=>simp only[VRel] at h;obtain⟨C,hc,rfl⟩:=h;simpa [AV.cells,Value.cells] using hc
 | str s=>have:=h;simp only[VRel] at h;rw[h.2];exact VRels.cons (h.2 ▸ this) VRels.nil
 | ptr id off=>have:=h;simp only[VRel] at h;obtain⟨p,hp,r⟩:=h;rw[r];exact VRels.cons (r ▸ this) VRels.nil
 | slice id off len ci cap ex=>have:=h;simp only[VRel] at h;obtain⟨p,hp,r,_⟩:=h;rw[r];exact VRels.cons (r ▸ this) VRels.nil
 | esl id off ci l size=>have:=h;simp only[VRel] at h;obtain⟨p,hp,r⟩:=h;rw[r];exact VRels.cons (r ▸ this) VRels.nil
 | map id=>have:=h;simp only[VRel] at h;obtain⟨p,hp,r⟩:=h;rw[r];exact VRels.cons (r ▸ this) VRels.nil
 | fn f cap=>have:=h;simp only[VRel] at h;obtain⟨C,hc,r⟩:=h;rw[r];exact VRels.cons (r ▸ this) VRels.nil
 | yld id=>have:=h;simp only[VRel] at h;obtain⟨p,hp,r⟩:=h;rw[r];exact VRels.cons (r ▸ this) VRels.nil
 | iface t u=>have:=h;simp only[VRel] at h;obtain⟨U,hu,r⟩:=h;rw[r];exact VRels.cons (r ▸ this) VRels.nil
 | tuple vs=>have:=h;simp only[VRel] at h;obtain⟨C,hc,r⟩:=h;rw[r];exact VRels.cons (r ▸ this) VRels.nil
def qux:Value→Bool
 | .agg _=>false
 | .tuple _=>false
 | _=>true
theorem qwk {E:Em} {v:AV} {V:Value} (h:VRel E v V) (h1:v.one=true):qux V=true:=by
 cases v with
 | raw u=>simp only[VRel] at h;subst h;cases V <;> simp[AV.one,qux] at h1 ⊢
 | agg vs=>simp[AV.one] at h1
 | tuple vs=>simp[AV.one] at h1
 | str s=>simp only[VRel] at h;rw[h.2];rfl
 | ptr id off=>simp only[VRel] at h;obtain⟨p,hp,r⟩:=h;rw[r];rfl
 | slice id off len ci cap ex=>simp only[VRel] at h;obtain⟨p,hp,r,_⟩:=h;rw[r];rfl
 | esl id off ci l size=>simp only[VRel] at h;obtain⟨p,hp,r⟩:=h;rw[r];rfl
 | map id=>simp only[VRel] at h;obtain⟨p,hp,r⟩:=h;rw[r];rfl
 | fn f cap=>simp only[VRel] at h;obtain⟨C,hc,r⟩:=h;rw[r];rfl
 | yld id=>simp only[VRel] at h;obtain⟨p,hp,r⟩:=h;rw[r];rfl
 | iface t u=>simp only[VRel] at h;obtain⟨U,hu,r⟩:=h;rw[r];rfl
theorem VS {E:Em}:∀ {vs:List AV} {L:List Value},VRels E vs L→vs.all AV.one=true→∀ V∈L,qux V=true
 | [],L,h,_,V,hV=>by simp only[VRels] at h;subst h;simp at hV
 | v::vs,L,h,h1,V,hV=>by
  simp only[VRels] at h
  obtain⟨U,Us,hu,hus,rfl⟩:=h
  simp only[List.all_cons,Bool.and_eq_true] at h1
  simp only[List.mem_cons] at hV
  rcases hV with rfl|hV
  ·exact qwk hu h1.1
  ·exact VS hus h1.2 V hV
def MRels (E:Em):List (AV × AV)→List MapEntry→Prop
 | [],L=>L=[]
 | (k,v)::es,L=>∃ e r,VRel E k e.key∧VRel E v e.val∧MRels E es r∧L=e::r
def Born (en:Array MapEntry) (ck:Nat):Prop:=(∀ x∈en.toList,x.born < ck)∧(en.toList.map (·.born)).Nodup
def TRel (E:Em) (t:Tr AV) (n:Nat) (T:Array Value):Prop :=
 T.size=n∧∀ i,match t.get i with
  | some v=>∃ V,T[i]?=some V∧VRel E v V
  | none=>T.getD i undef=undef
def Free (d K n:Nat) (fz:Nat × Nat) (frz:Nat):Prop:=(∀ i,d≤i→i < n→¬ (fz.1≤i∧i < fz.2))∧(frz % 2=0→fz.2≤d)∧(0 < frz→d+K * (frz / 2)≤n)∧(frz=0→d=0)
def qoj:List Nat→Nat
 | []=>0
 | a::l=>2 ^ a * (2 * qoj l+1)
theorem qop (a:Nat) (l:List Nat):0 < qoj (a::l):=Nat.mul_pos (Nat.two_pow_pos a) (Nat.succ_pos _)
theorem qof:∀ {a b x y:Nat},2 ^ a * (2 * x+1)=2 ^ b * (2 * y+1)→a=b∧x=y
 | 0,0,x,y,h=>⟨rfl,by omega⟩
 | 0,b+1,x,y,h=>by rw[Nat.pow_succ,Nat.mul_comm (2 ^ b) 2,Nat.mul_assoc] at h;omega
 | a+1,0,x,y,h=>by rw[Nat.pow_succ,Nat.mul_comm (2 ^ a) 2,Nat.mul_assoc] at h;omega
 | a+1,b+1,x,y,h=>by
  rw[Nat.pow_succ,Nat.pow_succ,Nat.mul_comm (2 ^ a) 2,Nat.mul_comm (2 ^ b) 2,Nat.mul_assoc,Nat.mul_assoc] at h
  obtain⟨h1,h2⟩:=qof (a:=a) (b:=b) (x:=x) (y:=y) (by omega)
  exact⟨by omega,h2⟩
theorem qnn:∀ {l m:List Nat},qoj l=qoj m→l=m
 | [],[],_=>rfl
 | [],b::m,h=>by have:=qop b m;rw[← h] at this;simp[qoj] at this
 | a::l,[],h=>by have:=qop a l;rw[h] at this;simp[qoj] at this
 | a::l,b::m,h=>by
  obtain⟨h1,h2⟩:=qof h
  rw[h1,qnn h2]
open Classical in
noncomputable def q4z (K:Nat):List Nat:=if h:∃ l,qoj l=K then Classical.choose h else[]
theorem qo5 (l:List Nat):q4z (qoj l)=l:=by
 have h:∃ m,qoj m=qoj l:=⟨l,rfl⟩
 unfold q4z
 rw[dif_pos h]
 exact qnn (Classical.choose_spec h)
noncomputable def clN (K:Nat):Nat:=(q4z K).headD 0
noncomputable def stN (K:Nat):List Nat:=(q4z K).tail
noncomputable def bth (K i:Nat):Nat:=(stN K).getD i 0
def ORel (E:Em) (p:Nat × Nat × Nat):AO→Obj→Prop
 | .cells cs el frz,O=>∃ C fz,O=.cells C el fz∧(∀ i v,cs[i]?=some v→∃ V,C[p.2.1+i]?=some V∧VRel E v V)∧Free p.2.1 p.2.2 C.size fz frz
 | .map es,O=>∃ en ck,O=.map en ck∧MRels E es en.toList∧Born en ck
 | .loop st pend _ t n ps as b d,O=>∃ L pd,O=.loop L∧L.state=st∧L.pending=pend∧TRel E t n L.tmps∧L.params.toList=ps∧L.assign=as∧L.body=b∧E d=some pd∧L.defers=pd.1
 | .dfr taken,O=>O=.deferred (if taken then none else some [])
 | .old cs,O=>∃ C el fz,O=.cells C el fz∧(∀ i v,cs[i]?=some v→∃ V,C[p.2.1+i]?=some V∧VRel E v V)
 | .rmap es it ix,O=>∃ en pi,E it=some pi∧O=.map en (clN pi.2.2)∧MRels E es en.toList∧Born en (clN pi.2.2)∧en.toList.map (·.born)=ix.map (bth pi.2.2)∧∀ i∈ix,i < (stN pi.2.2).length
 | .miter m seen,O=>∃ pm,E m=some pm∧O=.mapIter (some pm.1) (clN p.2.2) (seen.map (bth p.2.2)).reverse.toArray (clN p.2.2)∧(stN p.2.2).Nodup∧(∀ i∈seen,i < (stN p.2.2).length)∧p.2.1=0
 | .siter s pos left,O=>qO s∧O=.stringIter ⟨(s.map UInt8.ofNat).toArray⟩ pos∧left=s.drop pos∧p.2.1=0
theorem MRels.mono {E E':Em} (hE:E.le E'):∀ {es:List (AV × AV)} {L:List MapEntry},MRels E es L→MRels E' es L
 | [],L,h=>by simpa [MRels] using h
 | (k,v)::es,L,h=>by
  simp only[MRels] at h ⊢
  obtain⟨e,r,hk,hv,hr,rfl⟩:=h
  exact⟨e,r,hk.mono hE,hv.mono hE,MRels.mono hE hr,rfl⟩
theorem TRel.mono {E E':Em} (hE:E.le E') {t:Tr AV} {n:Nat} {T:Array Value} (h:TRel E t n T):TRel E' t n T:=by
 refine⟨h.1,fun i=>?_⟩
 have:=h.2 i
 cases hg:t.get i with
 | none=>simpa [hg] using this
 | some v=>simp only[hg] at this ⊢;obtain⟨V,h1,h2⟩:=this;exact⟨V,h1,h2.mono hE⟩
theorem ORel.mono {E E':Em} (hE:E.le E') {p:Nat × Nat × Nat} {o:AO} {O:Obj} (h:ORel E p o O):ORel E' p o O:=by
 cases o with
 | cells cs el frz =>
  simp only[ORel] at h ⊢
  obtain⟨C,fz,rfl,hc,hf⟩:=h
  exact⟨C,fz,rfl,fun i v hv=>let ⟨V,h1,h2⟩:=hc i v hv;⟨V,h1,h2.mono hE⟩,hf⟩
 | map es=>simp only[ORel] at h ⊢;obtain⟨en,ck,rfl,hm,hB⟩:=h;exact⟨en,ck,rfl,hm.mono hE,hB⟩
 | loop st pend fn t n ps as b d =>
  simp only[ORel] at h ⊢
  obtain⟨L,pd,h1,h2,h3,h4,h5,h6,h7,h8,h9⟩:=h
  exact⟨L,pd,h1,h2,h3,h4.mono hE,h5,h6,h7,hE _ _ h8,h9⟩
 | dfr taken=>simpa [ORel] using h
 | siter s pos left=>simpa [ORel] using h
 | rmap es it ix=>simp only[ORel] at h ⊢;obtain⟨en,pi,h1,h2,h3,h4⟩:=h;exact⟨en,pi,hE _ _ h1,h2,h3.mono hE,h4⟩
 | miter m seen=>simp only[ORel] at h ⊢;obtain⟨pm,h1,h2⟩:=h;exact⟨pm,hE _ _ h1,h2⟩
 | old cs =>
  simp only[ORel] at h ⊢
  obtain⟨C,el,fz,rfl,hc⟩:=h
  exact⟨C,el,fz,rfl,fun i v hv=>let ⟨V,h1,h2⟩:=hc i v hv;⟨V,h1,h2.mono hE⟩⟩
end Go.AX
namespace Go.AX
open Go.RowKit
structure Sim (w0:World) (E:Em) (s:St) (w:World):Prop where
 obj:∀ id o,s.h.get id=some o→∃ p O,E id=some p∧w.heap[p.1]?=some O∧ORel E p o O∧(w0.heap.size≤p.1∨∃ cs,o=.old cs)
 inj:∀ id id' o o' p p',s.h.get id=some o→s.h.get id'=some o'→E id=some p→E id'=some p'→p.1=p'.1→id=id'∨((∃ cs,o=.old cs)∧∃ cs,o'=.old cs)
 fresh:∀ id p,E id=some p→id < s.nx
 below:Below w0.heap.size w0 w
variable {w0:World} {E:Em} {s:St} {w:World}
theorem Sim.free (h:Sim w0 E s w):E s.nx=none:=by
 cases he:E s.nx with
 | none=>rfl
 | some p=>exact absurd (h.fresh _ _ he) (Nat.lt_irrefl _)
theorem Sim.freeH (h:Sim w0 E s w):s.h.get s.nx=none:=by
 cases hg:s.h.get s.nx with
 | none=>rfl
 | some o=>obtain⟨p,O,hp,_⟩:=h.obj _ _ hg;exact absurd (h.fresh _ _ hp) (Nat.lt_irrefl _)
theorem Sim.drew (h:Sim w0 E s w):Sim w0 E s { w with drawn:=w.drawn+1 } :=
 ⟨h.obj,h.inj,h.fresh,⟨h.below.os,h.below.tape,h.below.output,h.below.size,h.below.block⟩⟩
def Em.put (E:Em) (id:Nat) (p:Nat × Nat × Nat):Em:=fun i=>if i=id then some p else E i
theorem Em.le_put (E:Em) (id:Nat) (p:Nat × Nat × Nat) (h:E id=none):E.le (E.put id p):=fun i q hq=>by
 unfold Em.put
 rw[if_neg (by rintro rfl;rw[h] at hq;cases hq)]
 exact hq
theorem Em.put_same (E:Em) (id:Nat) (p:Nat × Nat × Nat):E.put id p id=some p:=by simp[Em.put]
theorem Sim.alloc (h:Sim w0 E s w) {o:AO} {O:Obj} {K:Nat} (ho:ORel (E.put s.nx (w.heap.size,0,K)) (w.heap.size,0,K) o O) :
  Sim w0 (E.put s.nx (w.heap.size,0,K)) (s.alloc o) (w.alloc O):=by
 have hle:=Em.le_put E s.nx (w.heap.size,0,K) h.free
 have hB:w0.heap.size≤w.heap.size:=h.below.size
 refine⟨fun id o' ho'=>?_,fun id id' o1 o2 p p' h1 h2 e1 e2 hp=>?_,fun id p hp=>?_,h.below.alloc hB O⟩
 ·simp only[St.alloc,Tr.get_set] at ho'
  by_cases hid:id=s.nx
  ·subst hid
   simp only[if_true,Option.some.injEq] at ho'
   subst ho'
   exact⟨_,O,Em.put_same _ _ _,World.alloc_heap_new w O,ho,Or.inl hB⟩
  ·rw[if_neg hid] at ho'
   obtain⟨p,O',hp,hO,hr,hb⟩:=h.obj id o' ho'
   refine⟨p,O',hle _ _ hp,?_,hr.mono hle,hb⟩
   rw[Below.heap_alloc _ _ _ (Array.getElem?_eq_some_iff.1 hO).1];exact hO
 ·simp only[St.alloc,Tr.get_set] at h1 h2
  by_cases hid:id=s.nx <;> by_cases hid':id'=s.nx
  ·exact Or.inl (by rw[hid,hid'])
  ·rw[if_neg hid'] at h2
   subst hid
   rw[Em.put_same] at e1;cases e1
   obtain⟨q,O',hq,hO,_⟩:=h.obj id' o2 h2
   rw[hle _ _ hq] at e2;cases e2
   have:=(Array.getElem?_eq_some_iff.1 hO).1
   simp at hp;omega
  ·rw[if_neg hid] at h1
   subst hid'
   rw[Em.put_same] at e2;cases e2
   obtain⟨q,O',hq,hO,_⟩:=h.obj id o1 h1
   rw[hle _ _ hq] at e1;cases e1
   have:=(Array.getElem?_eq_some_iff.1 hO).1
   simp at hp;omega
  ·rw[if_neg hid] at h1;rw[if_neg hid'] at h2
   have f1:E id=some p:=by unfold Em.put at e1;rwa [if_neg hid] at e1
   have f2:E id'=some p':=by unfold Em.put at e2;rwa [if_neg hid'] at e2
   exact h.inj _ _ _ _ _ _ h1 h2 f1 f2 hp
 ·unfold Em.put at hp
  show id < s.nx+1
  by_cases hid:id=s.nx
  ·omega
  ·rw[if_neg hid] at hp;have:=h.fresh _ _ hp;omega
structure Puts (w w':World) (b:Nat) (O:Obj):Prop where
 same:∀ k,k≠b→w'.heap[k]?=w.heap[k]?
 new:w'.heap[b]?=some O
 size:w'.heap.size=w.heap.size
 os:w'.os=w.os
 tape:w'.tape=w.tape
 output:w'.output=w.output
theorem Sim.puts (h:Sim w0 E s w) {id:Nat} {o o':AO} {p:Nat × Nat × Nat} {w':World} {O':Obj} (hg:s.h.get id=some o) (hp:E id=some p) (hw:Puts w w' p.1 O') (ho:ORel E p o' O') (hno:∀ cs,o≠.old cs:=by intro cs hcs;cases hcs) :
  Sim w0 E { s with h:=s.h.set id o' } w':=by
 obtain⟨q,O,hq,hO,_,hb⟩:=h.obj id o hg
 rw[hp] at hq;cases hq
 have hb:=hb.resolve_right (fun ⟨cs,hcs⟩=>hno cs hcs)
 refine⟨fun i o1 h1=>?_,fun i i' o1 o2 p1 p2 h1 h2 e1 e2 he=>?_,fun i q hq=>h.fresh i q hq,?_⟩
 ·simp only[Tr.get_set] at h1
  by_cases hi:i=id
  ·subst hi
   simp only[if_true,Option.some.injEq] at h1
   subst h1
   exact⟨p,O',hp,hw.new,ho,Or.inl hb⟩
  ·rw[if_neg hi] at h1
   obtain⟨q,O1,hq,hO1,hr,hb1⟩:=h.obj i o1 h1
   refine⟨q,O1,hq,?_,hr,hb1⟩
   rw[hw.same _ (fun e=>hi ((h.inj _ _ _ _ _ _ h1 hg hq hp e).resolve_right (fun ⟨_,cs,hcs⟩=>hno cs hcs)))];exact hO1
 ·simp only[Tr.get_set] at h1 h2
  have g:∀ {j o1},(if j=id then some o' else s.h.get j)=some o1→∃ o3,s.h.get j=some o3∧((∃ cs,o3=.old cs)→∃ cs,o1=.old cs):=fun {j o1} hj=>by
   by_cases hji:j=id
   ·exact⟨o,by rw[hji];exact hg,fun ⟨cs,hcs⟩=>absurd hcs (hno cs)⟩
   ·rw[if_neg hji] at hj;exact⟨_,hj,fun x=>x⟩
  obtain⟨o3,h3,k3⟩:=g h1
  obtain⟨o4,h4,k4⟩:=g h2
  exact (h.inj _ _ _ _ _ _ h3 h4 e1 e2 he).imp_right (fun x=>⟨k3 x.1,k4 x.2⟩)
 ·exact⟨hw.os.trans h.below.os,hw.tape.trans h.below.tape,hw.output.trans h.below.output,by rw[hw.size];exact h.below.size,
   fun k hk=>(hw.same k (by omega)).trans (h.below.block k hk)⟩
theorem Sim.moved (h:Sim w0 E s w) {id:Nat} {o o':AO} {p p':Nat × Nat × Nat} {w':World} {O':Obj} (hg:s.h.get id=some o) (hp:E id=some p) (hpp:p'.1=p.1) (hw:Puts w w' p.1 O')
  (ho:ORel (E.put s.nx p') p' o' O') (hno:∀ cs,o≠.old cs:=by intro cs hcs;cases hcs):Sim w0 (E.put s.nx p') { h:=(s.h.del id).set s.nx o',nx:=s.nx+1 } w':=by
 have hle:=Em.le_put E s.nx p' h.free
 obtain⟨q,O,hq,hO,_,hb⟩:=h.obj id o hg
 rw[hp] at hq;cases hq
 have hb:=hb.resolve_right (fun ⟨cs,hcs⟩=>hno cs hcs)
 have old:∀ {i:Nat} {o1:AO},i≠s.nx→((s.h.del id).set s.nx o').get i=some o1→i≠id∧s.h.get i=some o1:=fun {i o1} hi h1=>by
  rw[Tr.get_set,if_neg hi,Tr.get_del] at h1
  by_cases hid:i=id
  ·rw[if_pos hid] at h1;cases h1
  ·rw[if_neg hid] at h1;exact⟨hid,h1⟩
 have ne:∀ {i:Nat} {o1:AO} {q:Nat × Nat × Nat},i≠id→s.h.get i=some o1→E i=some q→q.1≠p.1:=fun hi h1 hq he=>hi ((h.inj _ _ _ _ _ _ h1 hg hq hp he).resolve_right (fun ⟨_,cs,hcs⟩=>hno cs hcs))
 refine⟨fun i o1 h1=>?_,fun i i' o1 o2 p1 p2 h1 h2 e1 e2 he=>?_,fun i q hq=>?_,?_⟩
 ·by_cases hi:i=s.nx
  ·subst hi
   rw[Tr.get_set,if_pos rfl] at h1
   cases h1
   exact⟨p',O',Em.put_same _ _ _,by rw[hpp];exact hw.new,ho,Or.inl (by rw[hpp];exact hb)⟩
  ·obtain⟨hid,h1⟩:=old hi h1
   obtain⟨q,O1,hq,hO1,hr,hb1⟩:=h.obj i o1 h1
   exact⟨q,O1,hle _ _ hq,by rw[hw.same _ (ne hid h1 hq)];exact hO1,hr.mono hle,hb1⟩
 ·by_cases hi:i=s.nx <;> by_cases hi':i'=s.nx
  ·exact Or.inl (by rw[hi,hi'])
  ·subst hi
   rw[Em.put_same] at e1;cases e1
   obtain⟨hid,h2⟩:=old hi' h2
   have f2:E i'=some p2:=by unfold Em.put at e2;rwa [if_neg hi'] at e2
   exact absurd (he.symm.trans hpp) (ne hid h2 f2)
  ·subst hi'
   rw[Em.put_same] at e2;cases e2
   obtain⟨hid,h1⟩:=old hi h1
   have f1:E i=some p1:=by unfold Em.put at e1;rwa [if_neg hi] at e1
   exact absurd (he.trans hpp) (ne hid h1 f1)
  ·obtain⟨_,h1⟩:=old hi h1
   obtain⟨_,h2⟩:=old hi' h2
   have f1:E i=some p1:=by unfold Em.put at e1;rwa [if_neg hi] at e1
   have f2:E i'=some p2:=by unfold Em.put at e2;rwa [if_neg hi'] at e2
   exact h.inj _ _ _ _ _ _ h1 h2 f1 f2 he
 ·unfold Em.put at hq
  show i < s.nx+1
  by_cases hi:i=s.nx
  ·omega
  ·rw[if_neg hi] at hq;have:=h.fresh _ _ hq;omega
 ·exact⟨hw.os.trans h.below.os,hw.tape.trans h.below.tape,hw.output.trans h.below.output,by rw[hw.size];exact h.below.size,
   fun k hk=>(hw.same k (by omega)).trans (h.below.block k hk)⟩
theorem Sim.del (h:Sim w0 E s w) (id:Nat):Sim w0 E { s with h:=s.h.del id } w:=by
 have old:∀ {i:Nat} {o1:AO},(s.h.del id).get i=some o1→s.h.get i=some o1:=fun {i o1} h1=>by
  rw[Tr.get_del] at h1
  by_cases hid:i=id
  ·rw[if_pos hid] at h1;cases h1
  ·rwa [if_neg hid] at h1
 exact⟨fun i o1 h1=>h.obj i o1 (old h1),fun i i' o1 o2 p1 p2 h1 h2=>h.inj i i' o1 o2 p1 p2 (old h1) (old h2),h.fresh,h.below⟩
theorem Sim.weak {s':St} (h:Sim w0 E s w) (hn:s'.nx=s.nx) (ho:∀ i o',s'.h.get i=some o'→∃ o,s.h.get i=some o∧(∀ p O,ORel E p o O→ORel E p o' O)∧∀ cs,o=.old cs→o'=.old cs):Sim w0 E s' w:=by
 refine⟨fun i o' h'=>?_,fun i j o1 o2 p1 p2 h1 h2=>?_,fun i p hp=>by rw[hn];exact h.fresh i p hp,h.below⟩
 ·obtain⟨o,hg,hw,hold⟩:=ho i o' h'
  obtain⟨p,O,hp,hO,hr,hb⟩:=h.obj i o hg
  exact⟨p,O,hp,hO,hw p O hr,hb.imp_right (fun ⟨cs,hcs⟩=>⟨cs,hold cs hcs⟩)⟩
 ·obtain⟨o3,h3,_,k3⟩:=ho i o1 h1
  obtain⟨o4,h4,_,k4⟩:=ho j o2 h2
  exact fun e1 e2 he=>(h.inj i j o3 o4 p1 p2 h3 h4 e1 e2 he).imp_right (fun x=>⟨x.1.imp fun cs e=>k3 cs e,x.2.imp fun cs e=>k4 cs e⟩)
theorem qev {id:Nat} {cs:List AV} (h:qp9 s id=some cs):s.h.get id=some (.old cs):=by
 unfold qp9 at h
 split at h
 ·rename_i cs' hg
  cases h
  exact hg
 ·cases h
theorem zl {id:Nat} {cs:List AV} {el:TypeId} {fz:Nat} (h:qY s id=some (cs,el,fz)):s.h.get id=some (.cells cs el fz):=by
 unfold qY at h
 split at h
 ·rename_i heq;simp only[Option.some.injEq,Prod.mk.injEq] at h;obtain⟨rfl,rfl,rfl⟩:=h;exact heq
 ·cases h
theorem Addr.add_none (b o n:Nat):(⟨b,o,none⟩:Addr).add n=⟨b,o+n,none⟩:=by
 unfold Addr.add
 split
 ·rename_i h;simp[h]
 ·rfl
variable {P:Program}
theorem X1 {b:Nat} {C:Array Value} {el:TypeId} {fz:Nat × Nat} (hb:w.heap[b]?=some (.cells C el fz)) (o:Nat):w.cell? ⟨b,o,none⟩=C[o]?:=by
 simp[World.cell?,hb]
theorem Yj {b:Nat} {C:Array Value} {el:TypeId} {fz:Nat × Nat} (hb:w.heap[b]?=some (.cells C el fz)) {o:Nat} (h:¬ (fz.1≤o∧o < fz.2)):w.frozen? ⟨b,o,none⟩=false:=by
 simp[World.frozen?,hb];omega
theorem zF {b o:Nat}:∀ (L:List Value) (i:Nat) (acc:Array Value),(∀ j V,L[j]?=some V→w.cell? ⟨b,o+i+j,none⟩=some V) →
  (loadCellsFrom ⟨b,o,none⟩ i L.length acc).run P w=.ok (acc++L.toArray) w
 | [],i,acc,_=>by simp[loadCellsFrom,pure]
 | V::L,i,acc,h=>by
  have h0:=h 0 V rfl
  have ih:=zF (b:=b) (o:=o) L (i+1) (acc.push V) (fun j U hU=>by
   have:=h (j+1) U (by simpa using hU)
   rw[show o+(i+1)+j=o+i+(j+1) from by omega];exact this)
  simp only[List.length_cons,loadCellsFrom,bind,Sem.bind,Addr.add_none,load,Sem.run]
  simp only[Nat.add_zero] at h0
  simp only[h0]
  rw[ih]
  simp
end Go.AX
namespace Go.AX
open Go.RowKit
structure EnvOk (e:Env) (P:Program):Prop where
 prog:e.P=P
 ty:∀ t ti,e.info t=some ti→∃ i,P.info? t=some i∧P.underlying t=some ti.desc∧i.size=ti.size∧i.bytes=ti.bytes∧i.zero=ti.zero
 fn:∀ f g,e.fn.get f=some g→P.funcs[f]?=some g
structure ARel (E:Em) (a:Ac) (A:Act):Prop where
 tmps:TRel E a.t a.n A.tmps
variable {e:Env} {P:Program} {w0:World} {E:Em} {s:St} {w:World} {a:Ac} {A:Act}
theorem Vj (v:Value):VRel E (qas v) v:=by
 cases v with
 | string b =>
  simp only[qas,VRel,qO,Yp]
  refine⟨fun c hc=>?_,?_⟩
  ·obtain⟨x,_,rfl⟩:=List.mem_map.1 hc;exact x.toNat_lt
  ·congr 1
   rcases b with⟨d⟩
   congr 1
   have:(UInt8.ofNat∘UInt8.toNat)=id:=funext fun x=>by simp
   simp[this]
 | _=>simp[qas,VRel]
theorem qd8 (v:Value):VRel E (qom v) v:=by
 cases v with
 | string b=>exact Vj (.string b)
 | agg cs =>
  simp only[qom,VRel]
  exact⟨cs.toList,by simpa using VRels.map (f:=qas) (g:=fun v=>v) (fun x=>Vj x) cs.toList,by simp⟩
 | _=>simp[qom,VRel]
theorem XL {v:AV} {V U:Value} (h:VRel E v V) (ht:qap v=some U):V=U:=by
 cases v <;> simp[qap] at ht
 ·subst ht;simpa [VRel] using h
 ·subst ht;simp only[VRel] at h;exact h.2
theorem KB:∀ {vs:List AV} {L M:List Value},VRels E vs L→X4 vs=some M→L=M
 | [],L,M,h,ht=>by simp[X4] at ht;subst ht;simpa [VRels] using h
 | v::vs,L,M,h,ht=>by
  simp only[VRels] at h
  obtain⟨V,Vs,hv,hvs,rfl⟩:=h
  simp only[X4] at ht
  cases h1:qap v with
  | none=>simp[h1] at ht
  | some x =>
   cases h2:X4 vs with
   | none=>simp[h1,h2] at ht
   | some l =>
    simp only[h1,h2,Option.some.injEq] at ht
    subst ht
    rw[XL hv h1,KB hvs h2]
theorem qly {v:AV} {V U:Value} (h:VRel E v V) (ht:zu v=some U):V=U:=by
 cases v with
 | agg vs =>
  simp only[zu] at ht
  cases h2:X4 vs with
  | none=>simp[h2] at ht
  | some l =>
   simp only[h2,Option.some.injEq] at ht
   subst ht
   simp only[VRel] at h
   obtain⟨C,hc,rfl⟩:=h
   rw[KB hc h2]
 | raw v=>exact XL h (by simpa [zu,qap] using ht)
 | str b=>exact XL h (by simpa [zu,qap] using ht)
 | _=>simp[zu] at ht
theorem Wi {α:Type} {p:Program}:∀ {x:Sem α} {r:α},qX p x=some r→∀ w,x.run p w=.ok r w
 | .pure a,r,h,w=>by simp[qX] at h;simp[Sem.run,h]
 | .program k,r,h,w=>by simp only[qX] at h;simp only[Sem.run];exact Wi h w
 | .load ..,_,h,_=>by simp[qX] at h
 | .store ..,_,h,_=>by simp[qX] at h
 | .new ..,_,h,_=>by simp[qX] at h
 | .shape ..,_,h,_=>by simp[qX] at h
 | .freeze ..,_,h,_=>by simp[qX] at h
 | .frozen ..,_,h,_=>by simp[qX] at h
 | .getObj ..,_,h,_=>by simp[qX] at h
 | .setObj ..,_,h,_=>by simp[qX] at h
 | .choose ..,_,h,_=>by simp[qX] at h
 | .sys ..,_,h,_=>by simp[qX] at h
 | .mark ..,_,h,_=>by simp[qX] at h
 | .halt ..,_,h,_=>by simp[qX] at h
theorem JL {v:Value}:VRel E (.raw v) v:=by simp[VRel]
theorem zW {b:Bool}:VRel E (q8 b) (.bool b):=by simp[q8,VRel]
theorem QK {n:Int}:VRel E (qa n) (.int .i64 n):=by simp[qa,VRel]
theorem Z4:VRel E zY undef:=by simp[zY,undef,VRel]
theorem qw (h:ARel E a A) (x:Operand):VRel E (a.eval x) (A.eval x):=by
 cases x with
 | tmp t =>
  simp only[Ac.eval,Act.eval]
  have:=h.tmps.2 t
  cases hg:a.t.get t with
  | none=>simp only[hg] at this;rw[this];exact Z4
  | some v=>simp only[hg] at this;obtain⟨V,h1,h2⟩:=this;simpa [h1] using h2
 | const v=>exact Vj v
 | global g=>simp[Ac.eval,Act.eval,VRel]
 | func f=>simp only[Ac.eval,Act.eval,VRel];exact⟨[],VRels.nil,rfl⟩
theorem QI (h:ARel E a A) (l:List Operand):VRels E (l.map a.eval) (l.map A.eval):=VRels.map (qw h) l
def Has (E:Em) (s:St) (w:World) (id:Nat):Prop:=∃ p o O,s.h.get id=some o∧E id=some p∧w.heap[p.1]?=some O∧ORel E p o O
theorem Sim.has (h:Sim w0 E s w) {id:Nat} {o:AO} (hg:s.h.get id=some o):Has E s w id:=by
 obtain⟨p,O,hp,hO,hr,_⟩:=h.obj id o hg
 exact⟨p,o,O,hg,hp,hO,hr⟩
theorem Zk {t:TypeId} {d:TypeDesc} (h:P.underlying t=some d) (w:World):(isAgg t).run P w=.ok (Qv d) w:=by
 simp only[isAgg,Sem.run_bind,run_underlying h,Result.andThen]
 cases d <;> rfl
theorem zv {t:TypeId} {i:TypeInfo} (h:P.info? t=some i) (w:World):(sizeOf t).run P w=.ok i.size w:=by
 simp[sizeOf,typeInfo,h]
theorem Xe {t:TypeId} {i:TypeInfo} {z:Value} (h:P.info? t=some i) (hz:i.zero=some z) (w:World):(zeroValue t).run P w=.ok z w:=by
 simp[zeroValue,typeInfo,h,hz]
theorem qfk {b o:Nat} {V:Value} (h:w.cell? ⟨b,o,none⟩=some V):(load ⟨b,o,none⟩).run P w=.ok V w:=by
 simp[load,Sem.run,h]
theorem qia {p:Nat × Nat × Nat} {cs:List AV} {C:Array Value} {el:TypeId} {fz:Nat × Nat} (hO:w.heap[p.1]?=some (.cells C el fz)) (hc:∀ i v,cs[i]?=some v→∃ V,C[p.2.1+i]?=some V∧VRel E v V) {off n:Nat} {l:List AV} (h:ZF off n cs=some l) :
  ∃ L:List Value,VRels E l L∧L.length=n∧∀ j V,L[j]?=some V→w.cell? ⟨p.1,p.2.1+off+j,none⟩=some V:=by
 obtain⟨hlen,hget⟩:=qjf h
 have key:∀ (m:Nat) (l:List AV) (q:Nat),(∀ i,i < l.length→l[i]?=cs[q+i]?)→l.length=m →
   ∃ L:List Value,VRels E l L∧L.length=m∧∀ j V,L[j]?=some V→w.cell? ⟨p.1,p.2.1+q+j,none⟩=some V:=by
  intro m
  induction m with
  | zero =>
   intro l q _ hl
   have:l=[]:=by simpa using hl
   subst this
   exact⟨[],VRels.nil,rfl,fun j V hj=>by simp at hj⟩
  | succ m ih =>
   intro l q hq hl
   match l,hl with
   | v::l,hl =>
    obtain⟨L,h1,h2,h3⟩:=ih l (q+1) (fun i hi=>by have:=hq (i+1) (by simpa using hi);simp at this;rw[this];congr 1;omega) (by simpa using hl)
    have h0:=hq 0 (by simp)
    simp at h0
    obtain⟨V,hV,hv⟩:=hc q v h0.symm
    refine⟨V::L,VRels.cons hv h1,by simp[h2],fun j U hj=>?_⟩
    cases j with
    | zero=>simp at hj;subst hj;rw[X1 hO];simpa using hV
    | succ j=>simp at hj;have:=h3 j U hj;rw[show p.2.1+q+(j+1)=p.2.1+(q+1)+j from by omega];exact this
 exact key n l off (fun i hi=>hget i (by omega)) hlen
theorem Kj {p:Nat × Nat × Nat} {cs:List AV} {el:TypeId} {fz:Nat} {O:Obj} (hO:w.heap[p.1]?=some O) (hr:ORel E p (.cells cs el fz) O) {off n:Nat} {l:List AV} (h:ZF off n cs=some l) :
  ∃ L:List Value,VRels E l L∧L.length=n∧∀ j V,L[j]?=some V→w.cell? ⟨p.1,p.2.1+off+j,none⟩=some V:=by
 simp only[ORel] at hr
 obtain⟨C,fz',rfl,hc,_⟩:=hr
 exact qia hO hc h
theorem qmo {p:Nat × Nat × Nat} {cs:List AV} {O:Obj} (hO:w.heap[p.1]?=some O) (hr:ORel E p (.old cs) O) {off n:Nat} {l:List AV} (h:ZF off n cs=some l) :
  ∃ L:List Value,VRels E l L∧L.length=n∧∀ j V,L[j]?=some V→w.cell? ⟨p.1,p.2.1+off+j,none⟩=some V:=by
 simp only[ORel] at hr
 obtain⟨C,el',fz',rfl,hc⟩:=hr
 exact qia hO hc h
theorem qar (he:EnvOk e P) {t:TypeId} {x v:AV} {X:Value} (hx:VRel E x X) (h:Q3 e s t x=some v) (hr:∀ id∈QG x,Has E s w id) :
  ∃ V,VRel E v V∧(Instr.loadAt t X).run P w=.ok V w:=by
 unfold Q3 at h
 split at h
 ·rename_i id off
  simp only[VRel] at hx
  obtain⟨p,hp,rfl⟩:=hx
  obtain⟨p',o,O,hg,hp',hO,hrel⟩:=hr id (by simp[QG])
  rw[hp] at hp';cases hp'
  split at h
  ·rename_i cs el fz ti hcs hti
   have hg':=zl hcs
   rw[hg] at hg';cases hg'
   obtain⟨i,hi,hu,hsz,_,_⟩:=he.ty _ _ hti
   simp only[Instr.loadAt,Instr.sureAddr,loadVar,Sem.run_bind,Sem.run_pure,Result.andThen,Zk hu]
   cases hag:Qv ti.desc with
   | true =>
    simp only[hag,cond_true] at h
    split at h
    ·rename_i l hl
     cases h
     obtain⟨L,h1,h2,h3⟩:=Kj hO hrel hl
     refine⟨.agg L.toArray,by simp only[VRel];exact⟨L,h1,rfl⟩,?_⟩
     have hrun:=zF (P:=P) (w:=w) (b:=p.1) (o:=p.2.1+off) L 0 #[] (fun j V hj=>by simpa using h3 j V hj)
     simp only[if_true,Sem.run_bind,zv hi,Result.andThen,loadCells,hsz,← h2]
     rw[hrun]
     simp
    ·cases h
   | false =>
    simp only[hag,cond_false] at h
    simp only[ORel] at hrel
    obtain⟨C,fz',rfl,hc,_⟩:=hrel
    obtain⟨V,hV,hv⟩:=hc off v h
    refine⟨V,hv,?_⟩
    simp only[Bool.false_eq_true,if_false]
    exact qfk (by rw[X1 hO];exact hV)
  ·rename_i ti _ hti
   split at h
   ·rename_i cs hcs
    have hg':=qev hcs
    rw[hg] at hg';cases hg'
    obtain⟨i,hi,hu,hsz,_,_⟩:=he.ty _ _ hti
    simp only[Instr.loadAt,Instr.sureAddr,loadVar,Sem.run_bind,Sem.run_pure,Result.andThen,Zk hu]
    cases hag:Qv ti.desc with
    | true =>
     simp only[hag,cond_true] at h
     split at h
     ·rename_i l hl
      cases h
      obtain⟨L,h1,h2,h3⟩:=qmo hO hrel hl
      refine⟨.agg L.toArray,by simp only[VRel];exact⟨L,h1,rfl⟩,?_⟩
      have hrun:=zF (P:=P) (w:=w) (b:=p.1) (o:=p.2.1+off) L 0 #[] (fun j V hj=>by simpa using h3 j V hj)
      simp only[if_true,Sem.run_bind,zv hi,Result.andThen,loadCells,hsz,← h2]
      rw[hrun]
      simp
     ·cases h
    | false =>
     simp only[hag,cond_false] at h
     simp only[ORel] at hrel
     obtain⟨C,el',fz',rfl,hc⟩:=hrel
     obtain⟨V,hV,hv⟩:=hc off v h
     refine⟨V,hv,?_⟩
     simp only[Bool.false_eq_true,if_false]
     exact qfk (by rw[X1 hO];exact hV)
   ·cases h
  ·cases h
 ·cases h
end Go.AX
namespace Go.AX
open Go.RowKit
variable {e:Env} {P:Program} {w0:World} {E:Em} {s:St} {w:World} {a:Ac} {A:Act}
theorem zT (a b:Nat):Nat.beq a b=decide (a=b):=by
 rw[Bool.eq_iff_iff];simp[Nat.beq_eq]
theorem qG:∀ (x y:List Nat),eqB x y=decide (x=y)
 | [],[]=>by simp[eqB]
 | [],_::_=>by simp[eqB]
 | _::_,[]=>by simp[eqB]
 | a::x,b::y=>by
  simp only[eqB,zT,qG x y]
  by_cases h:a=b <;> simp[h]
theorem Kn {a b:Nat} (ha:a < 256) (hb:b < 256):UInt8.ofNat a=UInt8.ofNat b↔a=b:=by
 constructor
 ·intro h
  have:=congrArg UInt8.toNat h
  simp[Nat.mod_eq_of_lt ha,Nat.mod_eq_of_lt hb] at this
  exact this
 ·rintro rfl;rfl
theorem qbm:∀ {x y:List Nat},qO x→qO y→(x.map UInt8.ofNat=y.map UInt8.ofNat↔x=y)
 | [],[],_,_=>by simp
 | [],_::_,_,_=>by simp
 | _::_,[],_,_=>by simp
 | a::x,b::y,hx,hy=>by
  have ha:=hx a (by simp)
  have hb:=hy b (by simp)
  have ih:=qbm (x:=x) (y:=y) (fun c hc=>hx c (by simp[hc])) (fun c hc=>hy c (by simp[hc]))
  simp[Kn ha hb,ih]
theorem qjd:∀ {x y:List Nat},qO x→qO y→Op.bytesLess (x.map UInt8.ofNat) (y.map UInt8.ofNat)=ltB x y
 | [],[],_,_=>by simp[Op.bytesLess,ltB]
 | [],_::_,_,_=>by simp[Op.bytesLess,ltB]
 | _::_,[],_,_=>by simp[Op.bytesLess,ltB]
 | a::x,b::y,hx,hy=>by
  have ha:=hx a (by simp)
  have hb:=hy b (by simp)
  have ih:=qjd (x:=x) (y:=y) (fun c hc=>hx c (by simp[hc])) (fun c hc=>hy c (by simp[hc]))
  simp only[List.map_cons,Op.bytesLess,ltB,ih,zT]
  have h1:(UInt8.ofNat a < UInt8.ofNat b)↔a < b:=by
   rw[UInt8.lt_iff_toNat_lt];simp[Nat.mod_eq_of_lt ha,Nat.mod_eq_of_lt hb]
  have h2:(UInt8.ofNat a==UInt8.ofNat b)=decide (a=b):=by
   rw[Bool.eq_iff_iff];simp[Kn ha hb]
  rw[h2]
  have h3:Nat.blt a b=decide (a < b):=by
   rw[Bool.eq_iff_iff];simp[Nat.blt];omega
  rw[h3]
  by_cases hl:a < b
  ·simp[h1,hl]
  ·by_cases he:a=b <;> simp[h1,hl,he]
theorem Wo {x y:List Nat} (hx:qO x) (hy:qO y):qO (x++y):=fun c hc=>by
 simp at hc;rcases hc with h|h
 ·exact hx c h
 ·exact hy c h
theorem Yn (l:List UInt8):(⟨l.toArray⟩:ByteArray).toList=l:=by
 rw[ByteArray.toList_eq]
theorem YE (l:List UInt8):(⟨l.toArray⟩:ByteArray).size=l.length:=rfl
theorem qoh (x y:List Nat):(⟨(x.map UInt8.ofNat).toArray⟩:ByteArray)++⟨(y.map UInt8.ofNat).toArray⟩=⟨((x++y).map UInt8.ofNat).toArray⟩:=by
 ext1
 apply Array.ext'
 simp
theorem qf6 {x:List Nat} (h:qO x):VRel E (.str x) (Yp x):=by simp only[VRel];exact⟨h,trivial⟩
theorem Qg {op:BinOp} {t:TypeId} {x y:Operand} {X Y:Value} (h:¬ (X=.nilIface∧Y=.nilIface)) (h':∀ c d,¬ (X=.agg c∧Y=.agg d)) (w:World) :
  (eqGuard op t x y X Y).run P w=.ok () w:=by
 unfold eqGuard
 cases X with
 | nilIface=>cases Y <;> first|exact absurd ⟨rfl,rfl⟩ h|(split <;> simp)
 | agg c=>cases Y <;> first|exact absurd ⟨rfl,rfl⟩ (h' _ _)|(split <;> simp)
 | _=>split <;> simp
theorem qa8 {op:BinOp} {t:TypeId} {x y:AV} {v:AV} {X Y:Value} (hx:VRel E x X) (hy:VRel E y Y) (h:qE op x y=some v) (w:World) (ox oy:Operand) :
  ∃ V,VRel E v V∧(do eqGuard op t ox oy X Y;binOp op t X Y:Sem Value).run P w=.ok V w:=by
 unfold qE at h
 split at h
 ·rename_i k a k' b
  simp only[VRel] at hx hy
  subst hx hy
  have hq:=Qg (P:=P) (op:=op) (t:=t) (x:=ox) (y:=oy) (X:=.int k a) (Y:=.int k' b) (by simp) (by simp) w
  split at h
  ·rename_i hk
   subst hk
   cases op <;> simp only[Option.some.injEq,reduceCtorEq] at h <;> subst h <;>
    exact⟨_,JL,by simp only[Sem.run_bind,hq,Result.andThen];simp[binOp,Op.intArith,Op.intCmp]⟩
  ·cases h
 ·rename_i b c
  simp only[VRel] at hx hy
  obtain⟨hb,rfl⟩:=hx
  obtain⟨hc,rfl⟩:=hy
  have hq:=Qg (P:=P) (op:=op) (t:=t) (x:=ox) (y:=oy) (X:=Yp b) (Y:=Yp c) (by simp[Yp]) (by simp[Yp]) w
  have he:((⟨(b.map UInt8.ofNat).toArray⟩:ByteArray).toList==(⟨(c.map UInt8.ofNat).toArray⟩:ByteArray).toList)=eqB b c:=by
   rw[Yn,Yn,qG,Bool.eq_iff_iff];simp[qbm hb hc]
  have hl:Op.bytesLess (⟨(b.map UInt8.ofNat).toArray⟩:ByteArray).toList (⟨(c.map UInt8.ofNat).toArray⟩:ByteArray).toList=ltB b c:=by
   rw[Yn,Yn,qjd hb hc]
  cases op <;> simp only[Option.some.injEq,reduceCtorEq] at h
  case add =>
   cases hn:Nat.ble (b.length+c.length) 1048576 with
   | false=>simp[hn] at h
   | true =>
    simp only[hn,cond_true,Option.some.injEq] at h
    subst h
    have hle:=Nat.le_of_ble_eq_true hn
    refine⟨Yp (b++c),qf6 (Wo hb hc),?_⟩
    simp only[Sem.run_bind,hq,Result.andThen]
    have hsum:¬ ((((⟨(b.map UInt8.ofNat).toArray⟩:ByteArray).size+(⟨(c.map UInt8.ofNat).toArray⟩:ByteArray).size:Nat):Int) > IntKind.i64.max):=by
     simp only[YE,List.length_map]
     have:(IntKind.i64.max:Int)=9223372036854775807:=by decide
     rw[this];omega
    simp only[binOp,Yp,Op.stringOp,hsum,if_false,qoh,Sem.run_pure]
  all_goals
   subst h
   refine⟨_,JL,?_⟩
   simp only[Sem.run_bind,hq,Result.andThen]
   simp only[binOp,Yp,Op.stringOp,he,hl,Sem.run_pure]
 ·cases h
theorem ZU {t:TypeId} {X Y:Value} {b:Bool} {w':World} (h:∀ n,(Op.equalIn (n+1) t X Y).run P w=.ok b w'):(Op.equal t X Y).run P w=.ok b w':=h 9999
theorem qc4 {d:TypeDesc} {t:TypeId} (hd:P.underlying t=some d) {x y:AV} {X Y:Value} (hx:VRel E x X) (hy:VRel E y Y) {b:Bool} (h:eqA d x y=some b) (w:World) :
  (Op.equal t X Y).run P w=.ok b w∧(¬ (X=.nilIface∧Y=.nilIface))∧(∀ c d,¬ (X=.agg c∧Y=.agg d))∧(∀ op,op=.eql→binOp op t X Y=do pure (.bool (← Op.equal t X Y)))∧(∀ op,op=.neq→binOp op t X Y=do pure (.bool (!(← Op.equal t X Y)))):=by
 unfold eqA at h
 split at h <;> simp only[Option.some.injEq,reduceCtorEq] at h <;> subst h <;> simp only[VRel] at hx hy
 ·obtain⟨p,_,rfl⟩:=hx;subst hy
  exact⟨ZU fun n=>by simp[Op.equalIn,run_underlying hd],by simp,by simp,by rintro _ rfl;rfl,by rintro _ rfl;rfl⟩
 ·obtain⟨p,_,rfl⟩:=hy;subst hx
  exact⟨ZU fun n=>by simp[Op.equalIn,run_underlying hd],by simp,by simp,by rintro _ rfl;rfl,by rintro _ rfl;rfl⟩
 ·obtain⟨p,_,rfl,_⟩:=hx;subst hy
  exact⟨ZU fun n=>by simp[Op.equalIn,run_underlying hd],by simp,by simp,by rintro _ rfl;rfl,by rintro _ rfl;rfl⟩
 ·obtain⟨p,_,rfl⟩:=hx;subst hy
  exact⟨ZU fun n=>by simp[Op.equalIn,run_underlying hd],by simp,by simp,by rintro _ rfl;rfl,by rintro _ rfl;rfl⟩
 ·obtain⟨p,_,rfl⟩:=hx;subst hy
  exact⟨ZU fun n=>by simp[Op.equalIn,run_underlying hd],by simp,by simp,by rintro _ rfl;rfl,by rintro _ rfl;rfl⟩
 ·obtain⟨C,_,rfl⟩:=hx;subst hy
  exact⟨ZU fun n=>by simp[Op.equalIn,run_underlying hd],by simp,by simp,by rintro _ rfl;rfl,by rintro _ rfl;rfl⟩
 ·obtain⟨U,_,rfl⟩:=hx;subst hy
  exact⟨ZU fun n=>by simp[Op.equalIn,run_underlying hd],by simp,by simp,by rintro _ rfl;rfl,by rintro _ rfl;rfl⟩
theorem Vk (he:EnvOk e P) {cs ds:List AV} {C D:List Value} (hc:VRels E cs C) (hd:VRels E ds D) (n:Nat):∀ {fs:List Field} {b:Bool},qy4 e cs ds fs=some b→∀ w:World,(Op.eqFields (n+1) C.toArray D.toArray fs).run P w=.ok b w
 | [],b,h,w=>by
  simp only[qy4,Option.some.injEq] at h
  subst h
  simp[Op.eqFields]
 | f::fs,b,h,w=>by
  unfold qy4 at h
  cases hn:f.name== "_" with
  | true=>rw[hn] at h;cases h
  | false =>
  have hn':f.name≠ "_":=by simpa using hn
  rw[hn,cond_false] at h
  split at h
  ·rename_i fi hfi
   obtain⟨i,_,hu,_⟩:=he.ty _ _ hfi
   split at h
   ·rename_i a c hdesc ha hb
    rw[hdesc] at hu
    obtain⟨V,hV,hv⟩:=hc.get ha
    obtain⟨U,hU,hu'⟩:=hd.get hb
    simp only[VRel] at hv hu'
    obtain⟨ba,rfl⟩:=hv
    obtain⟨bc,rfl⟩:=hu'
    have he':((⟨(a.map UInt8.ofNat).toArray⟩:ByteArray).toList==(⟨(c.map UInt8.ofNat).toArray⟩:ByteArray).toList)=eqB a c:=by
     rw[Yn,Yn,qG,Bool.eq_iff_iff];simp[qbm ba bc]
    split at h
    ·rename_i r hr
     simp only[Option.some.injEq] at h
     subst h
     have ih:=Vk he hc hd n hr w
     have p1:(part f.type C.toArray f.offset).run P w=.ok (Yp a) w:=by simp[part,Zk hu,Qv,hV]
     have p2:(part f.type D.toArray f.offset).run P w=.ok (Yp c) w:=by simp[part,Zk hu,Qv,hU]
     have p3:=run_equalIn_string w n f.type (⟨(a.map UInt8.ofNat).toArray⟩:ByteArray) (⟨(c.map UInt8.ofNat).toArray⟩:ByteArray) hu
     rw[he'] at p3
     unfold Yp at p1 p2
     simp only[Op.eqFields,if_pos hn',Sem.run_bind,p1,p2,p3,Result.andThen]
     cases hq:eqB a c <;> simp[ih]
    ·cases h
   ·rename_i kk k a k' c hdesc ha hb
    rw[hdesc] at hu
    obtain⟨V,hV,hv⟩:=hc.get ha
    obtain⟨U,hU,hu'⟩:=hd.get hb
    simp only[VRel] at hv hu'
    subst hv hu'
    split at h
    ·rename_i hk
     subst hk
     split at h
     ·rename_i r hr
      simp only[Option.some.injEq] at h
      subst h
      have ih:=Vk he hc hd n hr w
      have p1:(part f.type C.toArray f.offset).run P w=.ok (.int k a) w:=by simp[part,Zk hu,Qv,hV]
      have p2:(part f.type D.toArray f.offset).run P w=.ok (.int k c) w:=by simp[part,Zk hu,Qv,hU]
      have p3:=run_equalIn_int w n f.type k kk a c hu
      simp only[Op.eqFields,if_pos hn',Sem.run_bind,p1,p2,p3,Result.andThen]
      cases hq:a==c <;> simp[ih]
     ·cases h
    ·cases h
   ·cases h
  ·cases h
theorem qff (he:EnvOk e P) {d:TypeDesc} {t:TypeId} (hd:P.underlying t=some d) {x y:AV} {X Y:Value} (hx:VRel E x X) (hy:VRel E y Y) {b:Bool} (h:eqG e t d x y=some b) (w:World) (ox oy:Operand) :
  (do eqGuard .eql t ox oy X Y;binOp .eql t X Y:Sem Value).run P w=.ok (.bool b) w∧(do eqGuard .neq t ox oy X Y;binOp .neq t X Y:Sem Value).run P w=.ok (.bool !b) w:=by
 unfold eqG at h
 split at h
 ·rename_i fs cs ds
  rw[he.prog] at h
  simp only[VRel] at hx hy
  obtain⟨C,hC,rfl⟩:=hx
  obtain⟨D,hD,rfl⟩:=hy
  cases hz:P.eqGuardType P.depth t with
  | true=>rw[hz] at h;cases h
  | false =>
  cases hs:P.stoodInHeld t with
  | true=>rw[hz,hs] at h;cases h
  | false =>
  rw[hz,hs] at h
  simp only[Bool.or_self,cond_false] at h
  have hf:P.fieldsOf t=fs:=by simp[Program.fieldsOf,hd]
  have h1:(Op.equalIn 10000 t (.agg C.toArray) (.agg D.toArray)).run P w=.ok b w:=by
   rw[show (10000:Nat)=9998+1+1 from rfl,run_equalIn_struct w (9998+1) t _ _ (by rw[hf];exact hd) hs,hf]
   exact Vk he hC hD 9998 h w
  have g1:=run_eqGuard_agg (P:=P) w .eql t ox oy C.toArray D.toArray hz
  have g2:=run_eqGuard_agg (P:=P) w .neq t ox oy C.toArray D.toArray hz
  simp only[Sem.run_bind,g1,g2,Result.andThen,run_eql_struct,run_neq_struct,h1,and_self]
 ·cases h
theorem qjc {b:Nat} {C:Array Value} {el:TypeId} {fz:Nat × Nat} (hb:w.heap[b]?=some (.cells C el fz)):w.shape? b=some (el,C.size):=by
 simp[World.shape?,hb]
theorem qeu (he:EnvOk e P) (h0:∃ w0 w1,Sim w0 E s w1) {d:TypeDesc} {t:TypeId} (hd:P.underlying t=some d) {x y:AV} {X Y:Value} (hx:VRel E x X) (hy:VRel E y Y) {b:Bool} {ids:List Nat} (h:eqP e s d x y=some (b,ids))
  (hr:∀ id∈ids,Has E s w id) :
  (Op.equal t X Y).run P w=.ok b w∧(¬ (X=.nilIface∧Y=.nilIface))∧(∀ c d,¬ (X=.agg c∧Y=.agg d))∧(∀ op,op=.eql→binOp op t X Y=do pure (.bool (← Op.equal t X Y)))∧(∀ op,op=.neq→binOp op t X Y=do pure (.bool (!(← Op.equal t X Y)))):=by
 unfold eqP at h
 split at h
 ·rename_i el i o j q
  split at h
  ·rename_i ei hei
   cases hz:Nat.beq ei.size 0 with
   | true=>simp[hz] at h
   | false =>
    simp only[hz,cond_false] at h
    split at h
    ·rename_i v1 ci _ v2 cj _ hci hcj
     simp only[Option.some.injEq,Prod.mk.injEq] at h
     obtain⟨hb,rfl⟩:=h
     simp only[VRel] at hx hy
     obtain⟨p,hp,rfl⟩:=hx
     obtain⟨p',hp',rfl⟩:=hy
     refine⟨?_,by simp,by simp,by rintro _ rfl;rfl,by rintro _ rfl;rfl⟩
     obtain⟨inf,hinf,_,hsz,_,_⟩:=he.ty _ _ hei
     have hsz':inf.size≠0:=by rw[hsz];intro h0;rw[h0] at hz;simp at hz
     obtain⟨pi,oi,Oi,gi,ei',Hi,Ri⟩:=hr i (by simp)
     obtain⟨pj,oj,Oj,gj,ej',Hj,Rj⟩:=hr j (by simp)
     rw[hp] at ei';cases ei'
     rw[hp'] at ej';cases ej'
     rw[zl hci] at gi;cases gi
     rw[zl hcj] at gj;cases gj
     refine ZU fun n=>?_
     simp only[Op.equalIn,Sem.run_bind,run_underlying hd,Result.andThen,zv hinf,hsz',ne_eq,not_false_eq_true,if_true]
     by_cases hij:i=j
     ·subst hij
      rw[hp] at hp';cases hp'
      simp only[zT,decide_true,cond_true] at hb
      subst hb
      simp only[sameAddr,beq_self_eq_true,if_true,Sem.run_pure]
      congr 1
      rw[Bool.eq_iff_iff];simp
     ·obtain⟨_,_,h0⟩:=h0
      have hne:p.1≠p'.1:=fun hh=>hij ((h0.inj _ _ _ _ _ _ (zl hci) (zl hcj) hp hp' hh).resolve_right (fun x=>by obtain⟨⟨_,e⟩,_⟩:=x;cases e))
      simp only[zT,hij,decide_false,cond_false] at hb
      subst hb
      simp only[ORel] at Ri Rj
      obtain⟨Ci,fi,rfl,hCi,hfi⟩:=Ri
      obtain⟨Cj,fj,rfl,hCj,hfj⟩:=Rj
      have hfi:=hfi.2.1 rfl
      have hfj:=hfj.2.1 rfl
      obtain⟨_,hCi,_⟩:=hCi 0 v1 rfl
      obtain⟨_,hCj,_⟩:=hCj 0 v2 rfl
      have hCi:=(Array.getElem?_eq_some_iff.1 hCi).1
      have hCj:=(Array.getElem?_eq_some_iff.1 hCj).1
      have si:=qjc Hi
      have sj:=qjc Hj
      have f1:w.frozen? ⟨p.1,p.2.1+o,none⟩=false:=Yj Hi (by omega)
      have f2:w.frozen? ⟨p'.1,p'.2.1+q,none⟩=false:=Yj Hj (by omega)
      have f3:w.frozen? ⟨p.1,Ci.size,none⟩=false:=Yj Hi (by omega)
      have f4:w.frozen? ⟨p'.1,Cj.size,none⟩=false:=Yj Hj (by omega)
      have hbne:(p.1==p'.1)=false:=by simpa using hne
      simp[sameAddr,hbne,f1,f2,f3,f4,noView,viewAt,mayBeOne,stringish,si,sj]
    ·cases h
  ·cases h
 ·cases h
end Go.AX
namespace Go.AX
open Go.RowKit
variable {e:Env} {P:Program} {w0:World} {E:Em} {s:St} {w:World} {a:Ac} {A:Act}
theorem VRels.drop {E:Em}:∀ {n:Nat} {vs:List AV} {L:List Value},VRels E vs L→VRels E (vs.drop n) (L.drop n)
 | 0,vs,L,h=>by simpa using h
 | n+1,[],L,h=>by simp only[VRels] at h;subst h;simpa using VRels.nil
 | n+1,v::vs,L,h=>by
  simp only[VRels] at h
  obtain⟨V,Vs,_,hvs,rfl⟩:=h
  simpa using VRels.drop (n:=n) hvs
theorem VRels.take {E:Em}:∀ {n:Nat} {vs:List AV} {L:List Value},VRels E vs L→VRels E (vs.take n) (L.take n)
 | 0,vs,L,_=>by simpa using VRels.nil
 | n+1,[],L,h=>by simp only[VRels] at h;subst h;simpa using VRels.nil
 | n+1,v::vs,L,h=>by
  simp only[VRels] at h
  obtain⟨V,Vs,hv,hvs,rfl⟩:=h
  simpa using VRels.cons hv (VRels.take (n:=n) hvs)
theorem WR (he:EnvOk e P) {t:TypeId} {cs:List AV} {C:List Value} (hc:VRels E cs C) {off:Nat} {v:AV} (h:qru e t cs off=some v) (w:World) :
  ∃ V,VRel E v V∧(part t C.toArray off).run P w=.ok V w:=by
 unfold qru at h
 split at h
 ·rename_i ti hti
  obtain⟨i,hi,hu,hsz,_,_⟩:=he.ty _ _ hti
  simp only[part,Sem.run_bind,Zk hu,Result.andThen]
  cases hag:Qv ti.desc with
  | true =>
   simp only[hag,cond_true] at h
   split at h
   ·rename_i l hl
    cases h
    obtain⟨rfl,hle⟩:=qc2 hl
    refine⟨.agg ((C.drop off).take ti.size).toArray,by simp only[VRel];exact⟨_,hc.drop.take,rfl⟩,?_⟩
    simp only[if_true,Sem.run_bind,zv hi,Result.andThen,Sem.run_pure,hsz]
    congr 2
    simp[List.extract_eq_take_drop]
   ·cases h
  | false =>
   simp only[hag,cond_false] at h
   obtain⟨V,hV,hv⟩:=hc.get h
   refine⟨V,hv,?_⟩
   simp[hV]
 ·cases h
theorem WT {d:TypeDesc} {f:Nat} {fd:Field} (h:(fieldsOf d)[f]?=some fd):∃ fs:Array Field,d=.struct fs∧fs[f]?=some fd:=by
 cases d <;> simp[fieldsOf] at h
 exact⟨_,rfl,h⟩
theorem Wg (he:EnvOk e P) {t:TypeId} {x v:AV} {X:Value} (hx:VRel E x X) {f:Nat} (h:qk e t x f=some v) (w:World) :
  ∃ V,VRel E v V∧(Instr.fieldAt t X f).run P w=.ok V w:=by
 unfold qk at h
 split at h
 ·rename_i ti id off hti
  split at h
  ·rename_i fd hfd
   split at h
   ·rename_i fi hfi
    cases hz:Nat.beq fi.size 0 with
    | true=>simp[hz] at h
    | false =>
     simp only[hz,cond_false,Option.some.injEq] at h
     subst h
     obtain⟨i,hi,hu,hsz,_,_⟩:=he.ty _ _ hti
     obtain⟨j,hj,_,hsz',_,_⟩:=he.ty _ _ hfi
     obtain⟨fs,hd,hf⟩:=WT hfd
     rw[hd] at hu
     simp only[VRel] at hx
     obtain⟨p,hp,rfl⟩:=hx
     have hne:j.size≠0:=by rw[hsz'];intro h0;rw[h0] at hz;simp at hz
     refine⟨.pointer (some ⟨p.1,p.2.1+(off+fd.offset),none⟩),by simp only[VRel];exact⟨p,hp,rfl⟩,?_⟩
     simp[Instr.fieldAt,run_underlying hu,hf,Instr.sureAddr,fieldPlace,zv hj,hne,Addr.add_none,Nat.add_assoc]
   ·cases h
  ·cases h
 ·cases h
theorem qgo (he:EnvOk e P) {t:TypeId} {x v:AV} {X:Value} (hx:VRel E x X) {f:Nat} (h:qam e t x f=some v) (w:World) :
  ∃ V,VRel E v V∧(Instr.field t X f).run P w=.ok V w:=by
 unfold qam at h
 split at h
 ·rename_i ti cs hti
  split at h
  ·rename_i fd hfd
   obtain⟨i,hi,hu,_,_,_⟩:=he.ty _ _ hti
   obtain⟨fs,hd,hf⟩:=WT hfd
   rw[hd] at hu
   simp only[VRel] at hx
   obtain⟨C,hc,rfl⟩:=hx
   obtain⟨V,hv,hr⟩:=WR he hc h w
   exact⟨V,hv,by simp[Instr.field,run_underlying hu,hf,asAgg,hr]⟩
  ·cases h
 ·cases h
theorem Ja {x:AV} {n:Nat} {X:Value} (hx:VRel E x X) (h:ZX x=some n):∃ k,X=.int k n:=by
 unfold ZX at h
 split at h
 ·rename_i k m
  simp at h;subst h
  simp only[VRel] at hx
  exact⟨k,hx⟩
 ·cases h
theorem blt_iff {a b:Nat}:Nat.blt a b=true↔a < b:=by simp[Nat.blt];omega
theorem Kv (he:EnvOk e P) {t:TypeId} {x i v:AV} {X I:Value} (hx:VRel E x X) (hi:VRel E i I) (h:qL e t x i=some v) (w:World) :
  ∃ V,VRel E v V∧(Instr.indexAt t X I).run P w=.ok V w:=by
 unfold qL at h
 split at h
 ·rename_i ti n hti hn
  obtain⟨k,rfl⟩:=Ja hi hn
  obtain⟨inf,hinf,hu,_,_,_⟩:=he.ty _ _ hti
  split at h
  ·rename_i len el id off hd
   split at h
   ·rename_i eli heli
    cases hb:Nat.blt n len with
    | false=>simp[hb] at h
    | true =>
     simp only[hb,cond_true,Option.some.injEq] at h
     subst h
     have hlt:=blt_iff.1 hb
     obtain⟨j,hj,_,hsz,_,_⟩:=he.ty _ _ heli
     rw[hd] at hu
     simp only[VRel] at hx
     obtain⟨p,hp,rfl⟩:=hx
     refine⟨.pointer (some ⟨p.1,p.2.1+(off+n * eli.size),none⟩),by simp only[VRel];exact⟨p,hp,rfl⟩,?_⟩
     have hle:(0:Int)≤n∧(n:Int) < len:=by omega
     simp[Instr.indexAt,asIntOf,run_underlying hu,Instr.sureAddr,hlt,zv hj,Addr.add_none,hsz,Nat.add_assoc]
   ·cases h
  ·rename_i el id off len ci cap ex hd
   split at h
   ·rename_i eli heli
    cases hb:Nat.blt n len with
    | false=>simp[hb] at h
    | true =>
     simp only[hb,cond_true,Option.some.injEq] at h
     subst h
     have hlt:=blt_iff.1 hb
     obtain⟨j,hj,_,hsz,_,_⟩:=he.ty _ _ heli
     rw[hd] at hu
     simp only[VRel] at hx
     obtain⟨p,hp,rfl,_⟩:=hx
     refine⟨.pointer (some ⟨p.1,p.2.1+(off+n * eli.size),none⟩),by simp only[VRel];exact⟨p,hp,rfl⟩,?_⟩
     simp[Instr.indexAt,asIntOf,run_underlying hu,hlt,zv hj,Addr.add_none,hsz,Nat.add_assoc]
   ·cases h
  ·cases h
 ·cases h
theorem qhq (he:EnvOk e P) {t:TypeId} {x i v:AV} {X I:Value} (hx:VRel E x X) (hi:VRel E i I) (h:Xg e t x i=some v) (w:World) :
  ∃ V,VRel E v V∧(Instr.index t X I).run P w=.ok V w:=by
 unfold Xg at h
 split at h
 ·rename_i ti n hti hn
  obtain⟨k,rfl⟩:=Ja hi hn
  obtain⟨inf,hinf,hu,_,_,_⟩:=he.ty _ _ hti
  split at h
  ·rename_i len el cs hd
   split at h
   ·rename_i eli heli
    cases hb:Nat.blt n len with
    | false=>simp[hb] at h
    | true =>
     simp only[hb,cond_true] at h
     have hlt:=blt_iff.1 hb
     obtain⟨j,hj,_,hsz,_,_⟩:=he.ty _ _ heli
     rw[hd] at hu
     simp only[VRel] at hx
     obtain⟨C,hc,rfl⟩:=hx
     obtain⟨V,hv,hr⟩:=WR he hc h w
     refine⟨V,hv,?_⟩
     simp[Instr.index,asIntOf,run_underlying hu,hlt,zv hj,hsz,hr]
   ·cases h
  ·rename_i b hd
   split at h
   ·rename_i c hc
    simp only[Option.some.injEq] at h
    subst h
    rw[hd] at hu
    simp only[VRel] at hx
    obtain⟨hb,rfl⟩:=hx
    refine⟨.int .u8 c,JL,?_⟩
    have hcb:c < 256:=hb c (List.mem_of_getElem? hc)
    have hg:(⟨(b.map UInt8.ofNat).toArray⟩:ByteArray)[n]?=some (UInt8.ofNat c):=by
     have hlt:n < b.length:=(List.getElem?_eq_some_iff.1 hc).1
     have hlt':n < (⟨(b.map UInt8.ofNat).toArray⟩:ByteArray).size:=by simpa [YE] using hlt
     rw[getElem?_pos (⟨(b.map UInt8.ofNat).toArray⟩:ByteArray) n hlt']
     have hcc:b[n]=c:=(List.getElem?_eq_some_iff.1 hc).2
     simp only[Option.some.injEq]
     show (b.map UInt8.ofNat).toArray[n]'_=_
     simp[hcc]
    simp[Instr.index,asIntOf,run_underlying hu,Yp,hg,Nat.mod_eq_of_lt hcb]
   ·cases h
  ·cases h
 ·cases h
theorem Yx {x:AV} {X:Value} (hx:VRel E x X) {n y:Nat} (hn:ZX x=some n) (hle:n≤y) (code:BoundsCode) (w:World):(Instr.sliceBound X y code).run P w=.ok n w:=by
 obtain⟨k,rfl⟩:=Ja hx hn
 have:(0:Int)≤n∧(n:Int)≤y:=by omega
 simp[Instr.sliceBound,asIntOf,hle]
def OptRel (E:Em):Option AV→Option Value→Prop
 | none,none=>True
 | some v,some V=>VRel E v V
 | _,_=>False
theorem QZ {lo hi:Option AV} {LO HI:Option Value} (hl:OptRel E lo LO) (hh:OptRel E hi HI) {len cap cap' l h:Nat} (hb:qA len cap lo hi=some (l,h)) (hcap:cap≤cap') (isS:Bool) (w:World) :
  (Instr.sliceBounds isS len cap' LO HI none).run P w=.ok (l,h,cap') w∧l≤h∧h≤cap:=by
 unfold qA at hb
 have key:∀ {l0 h0:Nat},(bif Nat.ble l0 h0&&Nat.ble h0 cap then some (l0,h0) else none)=some (l,h)→(l0≤h0∧h0≤cap)∧l0=l∧h0=h:=fun {l0 h0} hq=>by
  cases hc:Nat.ble l0 h0&&Nat.ble h0 cap with
  | false=>rw[hc] at hq;simp at hq
  | true =>
   rw[hc] at hq
   simp only[cond_true,Option.some.injEq,Prod.mk.injEq] at hq
   simp only[Bool.and_eq_true] at hc
   exact⟨⟨Nat.le_of_ble_eq_true hc.1,Nat.le_of_ble_eq_true hc.2⟩,hq⟩
 cases hi with
 | none =>
  cases HI with
  | some _=>exact hh.elim
  | none =>
   cases lo with
   | none =>
    cases LO with
    | some _=>exact hl.elim
    | none =>
     obtain⟨⟨h1,h2⟩,rfl,rfl⟩:=key hb
     exact⟨by simp[Instr.sliceBounds],by omega,by omega⟩
   | some v =>
    cases LO with
    | none=>exact hl.elim
    | some V =>
     cases hn:ZX v with
     | none=>simp[hn] at hb
     | some n =>
      simp only[hn] at hb
      obtain⟨⟨h1,h2⟩,rfl,rfl⟩:=key hb
      exact⟨by simp[Instr.sliceBounds,Yx hl hn h1],h1,h2⟩
 | some u =>
  cases HI with
  | none=>exact hh.elim
  | some U =>
   cases hm:ZX u with
   | none=>cases lo <;> simp[hm] at hb
   | some m =>
    cases lo with
    | none =>
     cases LO with
     | some _=>exact hl.elim
     | none =>
      simp only[hm] at hb
      obtain⟨⟨_,h1⟩,rfl,rfl⟩:=key hb
      exact⟨by simp[Instr.sliceBounds,Yx hh hm (Nat.le_trans h1 hcap)],by omega,h1⟩
    | some v =>
     cases LO with
     | none=>exact hl.elim
     | some V =>
      cases hn:ZX v with
      | none=>simp[hn] at hb
      | some n =>
       simp only[hm,hn] at hb
       obtain⟨⟨h1,h2⟩,rfl,rfl⟩:=key hb
       exact⟨by simp[Instr.sliceBounds,Yx hh hm (Nat.le_trans h2 hcap),Yx hl hn h1],h1,h2⟩
theorem OptRel.map (h:ARel E a A) (x:Option Operand):OptRel E (x.map a.eval) (x.map A.eval):=by
 cases x with
 | none=>exact trivial
 | some x=>exact qw h x
theorem qg3 {b:List Nat} (hb:qO b) (l n:Nat):qO ((b.drop l).take n):=fun c hc=>hb c (List.mem_of_mem_drop (List.mem_of_mem_take hc))
theorem qaq (b:List Nat) (l h:Nat):(⟨(b.map UInt8.ofNat).toArray⟩:ByteArray).extract l h=⟨(((b.drop l).take (h - l)).map UInt8.ofNat).toArray⟩:=by
 ext1
 apply Array.ext'
 simp[ByteArray.data_extract,List.extract_eq_take_drop]
theorem qha (he:EnvOk e P) {t:TypeId} {x v:AV} {X:Value} {lo hi mx:Option AV} {LO HI MX:Option Value} (hx:VRel E x X) (hl:OptRel E lo LO) (hh:OptRel E hi HI) (hm:OptRel E mx MX)
  (h:qF e t x lo hi mx=some v) (w:World):∃ V,VRel E v V∧(Instr.sliceAt t X LO HI MX).run P w=.ok V w:=by
 unfold qF at h
 cases mx with
 | some _=>simp at h
 | none =>
  cases MX with
  | some _=>exact hm.elim
  | none =>
   split at h
   ·rename_i hnone;cases hnone
   split at h
   ·cases h
   ·rename_i ti hti
    obtain⟨inf,hinf,hu,_,_,_⟩:=he.ty _ _ hti
    split at h
    ·-- a text
     rename_i b hd
     rw[hd] at hu
     split at h
     ·rename_i l m hb
      cases h
      simp only[VRel] at hx
      obtain⟨hby,rfl⟩:=hx
      obtain⟨hr,hlm,hmb⟩:=QZ (P:=P) hl hh hb (Nat.le_refl _) false w
      refine⟨Yp ((b.drop l).take (m - l)),qf6 (qg3 hby _ _),?_⟩
      simp[Instr.sliceAt,Instr.slice,run_underlying hu,Yp,YE,hr,qaq]
     ·cases h
    ·-- a slice
     rename_i elem id off len ci cap ex hd
     rw[hd] at hu
     split at h
     ·rename_i el l m hel hb
      obtain⟨j,hj,_,hsz,_,_⟩:=he.ty _ _ hel
      simp only[VRel] at hx
      obtain⟨p,hp,rfl,hlc,hcap⟩:=hx
      have hc':cap≤(if ex=true then cap else p.2.2 - ci):=by
       cases ex with
       | true=>simp
       | false=>simpa using hcap rfl
      obtain⟨hr,hlm,hmb⟩:=QZ (P:=P) hl hh hb hc' true w
      cases hlt:Nat.blt l cap||Nat.beq l 0 with
      | true =>
       simp only[hlt,cond_true,Option.some.injEq] at h
       subst h
       have hlt':l < cap∨l=0:=by simpa [blt_iff,zT] using hlt
       have hnx:∀ C,cap≤C→(if C=l then (some ⟨p.1,p.2.1+off,none⟩:Option Addr) else (some ⟨p.1,p.2.1+off,none⟩:Option Addr).map (·.add (l * el.size)))=some ⟨p.1,p.2.1+(off+l * el.size),none⟩:=fun C hC=>by
        simp only[Option.map_some,Addr.add_none]
        by_cases hCl:C=l
        ·have:l=0:=by omega
         rw[if_pos hCl,this];simp
        ·rw[if_neg hCl,Nat.add_assoc]
       refine⟨.slice (some ⟨p.1,p.2.1+(off+l * el.size),none⟩) (m - l) (if ex=true then cap - l else p.2.2 - (ci+l)),?_,?_⟩
       ·simp only[VRel]
        exact⟨p,hp,rfl,by omega,fun hx=>by have:=hcap hx;omega⟩
       ·simp only[Instr.sliceAt,Instr.slice,Sem.run_bind,run_underlying hu,Result.andThen,hr,zv hj,Sem.run_pure,hsz]
        rw[hnx _ hc']
        congr 2
        cases ex with
        | true=>simp
        | false=>simp;omega
      | false =>
       simp only[hlt,cond_false] at h
       have hlt':¬ l < cap∧l≠0:=by
        simp only[Bool.or_eq_false_iff] at hlt
        refine⟨fun h'=>?_,fun h'=>?_⟩
        ·have:=blt_iff.2 h';rw[hlt.1] at this;cases this
        ·subst h';simp at hlt
       have hlcap:l=cap:=by omega
       have hml:m=l:=by omega
       cases ex with
       | true =>
        simp only[cond_true,Option.some.injEq] at h
        subst h
        refine⟨.slice (some ⟨p.1,p.2.1+off,none⟩) 0 0,?_,?_⟩
        ·simp only[VRel];exact⟨p,hp,by simp,Nat.le_refl _,fun h=>by cases h⟩
        ·simp only[if_true] at hr
         simp only[Instr.sliceAt,Instr.slice,Sem.run_bind,run_underlying hu,Result.andThen,if_true,hr,zv hj,Sem.run_pure]
         simp[hlcap,hml]
       | false =>
        simp only[cond_false,Option.some.injEq] at h
        subst h
        refine⟨_,by simp only[VRel];exact⟨p,hp,rfl⟩,?_⟩
        simp only[Bool.false_eq_true,if_false] at hr
        simp only[Instr.sliceAt,Instr.slice,Sem.run_bind,run_underlying hu,Result.andThen,Bool.false_eq_true,if_false,hr,zv hj,Sem.run_pure,Option.map_some,Addr.add_none,hsz]
        congr 2
        ·split <;> rfl
        ·omega
     ·cases h
    ·-- an empty slice at an end
     rename_i elem id off ci l0 sz hd
     rw[hd] at hu
     split at h
     ·rename_i el q hel hb
      obtain⟨j,hj,_,hsz,_,_⟩:=he.ty _ _ hel
      obtain⟨l,m⟩:=q
      cases h
      simp only[VRel] at hx
      obtain⟨p,hp,rfl⟩:=hx
      obtain⟨hr,hlm,hmb⟩:=QZ (P:=P) (cap':=p.2.2 - ci - l0) hl hh hb (Nat.zero_le _) true w
      obtain rfl:m=0:=by omega
      obtain rfl:l=0:=by omega
      refine⟨_,by simp only[VRel];exact⟨p,hp,rfl⟩,?_⟩
      simp only[Instr.sliceAt,Instr.slice,Sem.run_bind,run_underlying hu,Result.andThen,hr,zv hj,Sem.run_pure]
      simp[Addr.add]
     ·cases h
    ·-- an array's address
     rename_i n elem id off hd
     rw[hd] at hu
     split at h
     ·rename_i el l m hel hb
      obtain⟨j,hj,_,hsz,_,_⟩:=he.ty _ _ hel
      simp only[VRel] at hx
      obtain⟨p,hp,rfl⟩:=hx
      obtain⟨hr,hlm,hmb⟩:=QZ (P:=P) hl hh hb (Nat.le_refl _) false w
      cases hln:Nat.beq l n with
      | true =>
       simp only[hln,cond_true,Option.some.injEq] at h
       subst h
       have hln':l=n:=by simpa [zT] using hln
       refine⟨.slice (some ⟨p.1,p.2.1+off,none⟩) 0 0,?_,?_⟩
       ·simp only[VRel];exact⟨p,hp,by simp,Nat.le_refl _,fun h=>by cases h⟩
       ·simp only[Instr.sliceAt,Sem.run_bind,run_underlying hu,Result.andThen,Instr.sureAddr,hr,zv hj,Sem.run_pure]
        have:m=n:=by omega
        simp[hln',this]
      | false =>
       simp only[hln,cond_false,Option.some.injEq] at h
       subst h
       have hln':l≠n:=by simpa [zT] using hln
       refine⟨.slice (some ⟨p.1,p.2.1+(off+l * el.size),none⟩) (m - l) (n - l),?_,?_⟩
       ·simp only[VRel];exact⟨p,hp,by simp,by omega,fun h=>by cases h⟩
       ·simp only[Instr.sliceAt,Sem.run_bind,run_underlying hu,Result.andThen,Instr.sureAddr,hr,zv hj,Sem.run_pure,hsz,Addr.add_none]
        have:¬ n=l:=fun h=>hln' h.symm
        simp[this,Nat.add_assoc]
     ·cases h
    ·-- the nil slice
     rename_i elem hd
     rw[hd] at hu
     split at h
     ·rename_i el q hel hb
      obtain⟨j,hj,_,hsz,_,_⟩:=he.ty _ _ hel
      obtain⟨l,m⟩:=q
      cases h
      simp only[VRel] at hx
      subst hx
      obtain⟨hr,hlm,hmb⟩:=QZ (P:=P) (cap':=0) hl hh hb (Nat.zero_le _) true w
      obtain rfl:m=0:=by omega
      obtain rfl:l=0:=by omega
      refine⟨_,JL,?_⟩
      simp only[Instr.sliceAt,Instr.slice,Sem.run_bind,run_underlying hu,Result.andThen,hr,zv hj,Sem.run_pure]
      simp
     ·cases h
    ·cases h
theorem qhb {d:TypeDesc} {x y:AV} {X Y:Value} (hx:VRel E x X) (hy:VRel E y Y) {b:Bool} (h:qb7 d x y=some b):Instr.sameNow d X Y=some b:=by
 unfold qb7 at h
 split at h
 ·simp only[Option.some.injEq] at h
  subst h
  simp only[VRel] at hx hy
  obtain⟨h1,rfl⟩:=hx
  obtain⟨h2,rfl⟩:=hy
  rename_i x y
  simp only[Instr.sameNow,Yp,Option.some.injEq,qG]
  rw[Bool.eq_iff_iff,MapKept.bytes_beq]
  constructor
  ·intro hh
   have:=congrArg (fun q:ByteArray=>q.data.toList) hh
   simpa [qbm h1 h2] using this
  ·intro hh
   have:x=y:=by simpa using hh
   rw[this]
 ·simp only[VRel] at hx hy
  subst hx hy
  rename_i k a k' b'
  by_cases hk:k=k'
  ·simp only[hk,if_true,Option.some.injEq] at h
   simp[Instr.sameNow,hk,h]
  ·simp[hk] at h
 ·simp only[VRel] at hx hy
  subst hx hy
  simp only[Option.some.injEq] at h
  simp[Instr.sameNow,h]
 ·cases h
theorem Zn {d:TypeDesc} {k:AV} {K:Value} (hk:VRel E k K):∀ {es:List (AV × AV)} {L:List MapEntry},MRels E es L→∀ {i:Nat} {r:Option (Nat × AV)},Qr d k es i=some r →
  (r=none∧Instr.findNow d K L i=some none)∨(∃ j v V,r=some (j,v)∧VRel E v V∧Instr.findNow d K L i=some (some (j,V))∧i≤j∧∃ k' K',es[j - i]?=some (k',v)∧L[j - i]?=some K'∧K'.val=V∧qb7 d k k'=some true)
 | [],L,h,i,r,hf=>by
  simp only[MRels] at h;subst h
  simp only[Qr,Option.some.injEq] at hf
  exact .inl ⟨hf.symm,rfl⟩
 | (k',v)::es,L,h,i,r,hf=>by
  simp only[MRels] at h
  obtain⟨en,rest,h1,h2,h3,rfl⟩:=h
  simp only[Qr] at hf
  cases hsk:qb7 d k k' with
  | none=>simp[hsk] at hf
  | some b =>
   have hs:=qhb hk h1 hsk
   cases b with
   | true =>
    simp only[hsk,Option.some.injEq] at hf
    exact .inr ⟨i,v,en.val,hf.symm,h2,by simp[Instr.findNow,hs],Nat.le_refl _,k',en,by simp,by simp,rfl,hsk⟩
   | false =>
    simp only[hsk] at hf
    rcases Zn hk h3 hf with⟨hr,hn⟩|⟨j,u,U,hr,hu,hn,hle,k2,K2,g1,g2,g3,g4⟩
    ·exact .inl ⟨hr,by simp[Instr.findNow,hs,hn]⟩
    ·refine .inr ⟨j,u,U,hr,hu,by simp[Instr.findNow,hs,hn],by omega,k2,K2,?_,?_,g3,g4⟩
     ·rw[show j - i=(j - (i+1))+1 from by omega];simpa using g1
     ·rw[show j - i=(j - (i+1))+1 from by omega];simpa using g2
theorem YC {d:TypeDesc} {t:TypeId} (hd:P.underlying t=some d) (hk:Y7 d=true) (b:Bool) (n:Nat) (K:Value) (w:World):(Instr.checkKey b (n+1) t K).run P w=.ok () w:=by
 unfold Instr.checkKey
 cases d <;> simp[Y7] at hk <;> simp[run_underlying hd]
theorem QT (he:EnvOk e P) {t:TypeId} {z:AV} (h:zt e t=some z) (w:World):∃ Z,VRel E z Z∧(zeroValue t).run P w=.ok Z w:=by
 unfold zt at h
 split at h
 ·rename_i ti hti
  obtain⟨i,hi,_,_,_,hz⟩:=he.ty _ _ hti
  split at h
  ·rename_i v hv
   simp only[Option.some.injEq] at h
   subst h
   exact⟨v,qd8 v,Xe hi (hz.trans hv) w⟩
  ·cases h
 ·cases h
theorem qcy (he:EnvOk e P) {t:TypeId} {x k v:AV} {X K:Value} (hx:VRel E x X) (hk:VRel E k K) {ok:Bool} (h:Qt e s t x k ok=some v) (hr:∀ id∈QG x,Has E s w id) :
  ∃ V,VRel E v V∧(Instr.lookup t X K ok).run P w=.ok V w:=by
 unfold Qt at h
 split at h
 ·cases h
 ·rename_i ti hti
  obtain⟨inf,hinf,hu,_,_,_⟩:=he.ty _ _ hti
  split at h
  ·rename_i key elem hd
   rw[hd] at hu
   split at h
   ·rename_i ki es hki hes
    obtain⟨kin,hkin,hku,_,_,_⟩:=he.ty _ _ hki
    cases hok:Y7 ki.desc with
    | false=>simp[hok] at h
    | true =>
     simp only[hok,cond_true] at h
     -- the qlu
     obtain⟨en,hen,hX⟩:∃ en:Array MapEntry,MRels E es en.toList∧((X=.map none∧en=#[])∨∃ b ck,X=.map (some b)∧w.heap[b]?=some (.map en ck)):=by
      unfold YO at hes
      split at hes
      ·rename_i id
       simp only[VRel] at hx
       obtain⟨p,hp,rfl⟩:=hx
       obtain⟨p',o,O,hg,hp',hO,hrel⟩:=hr id (by simp[QG])
       rw[hp] at hp';cases hp'
       split at hes
       ·rename_i es' hg'
        rw[hg] at hg';cases hg'
        simp only[Option.some.injEq] at hes
        subst hes
        simp only[ORel] at hrel
        obtain⟨en,ck,rfl,hm,_⟩:=hrel
        exact⟨en,hm,.inr ⟨p.1,ck,rfl,hO⟩⟩
       ·cases hes
      ·simp only[Option.some.injEq] at hes
       subst hes
       simp only[VRel] at hx
       subst hx
       exact⟨#[],by simp[MRels],.inl ⟨rfl,rfl⟩⟩
      ·cases hes
     have hck:∀ b,(Instr.checkKey b 10000 key K).run P w=.ok () w:=fun b=>YC hku hok b 9999 K w
     cases hf:Qr ki.desc k es 0 with
     | none=>simp[hf] at h
     | some r =>
      rcases Zn hk hen hf with⟨rfl,hn⟩|⟨j,u,U,rfl,hv,hn,_⟩
      ·simp only[hf] at h
       cases hz:zt e elem with
       | none=>simp[hz] at h
       | some z =>
        simp only[hz,Option.some.injEq] at h
        obtain⟨Z,hZ,hzr⟩:=QT (E:=E) he hz w
        have hfk:=MapKept.run_findKey (w:=w) hku hn
        refine⟨if ok then .tuple #[Z,.bool false] else Z,?_,?_⟩
        ·subst h;cases ok
         ·simpa using hZ
         ·simp only[cond_true,if_true,VRel];exact⟨[Z,.bool false],VRels.cons hZ (VRels.cons zW VRels.nil),rfl⟩
        ·rcases hX with⟨rfl,rfl⟩|⟨b,ck,rfl,hO⟩
         ·simp[Instr.lookup,run_underlying hu,hck,hfk,hzr]
         ·simp[Instr.lookup,run_underlying hu,getObj,Sem.run,hO,hck,hfk,hzr]
      ·simp only[hf,Option.some.injEq] at h
       have hfk:=MapKept.run_findKey (w:=w) hku hn
       refine⟨if ok then .tuple #[U,.bool true] else U,?_,?_⟩
       ·subst h;cases ok
        ·simpa using hv
        ·simp only[cond_true,if_true,VRel];exact⟨[U,.bool true],VRels.cons hv (VRels.cons zW VRels.nil),rfl⟩
       ·rcases hX with⟨rfl,rfl⟩|⟨b,ck,rfl,hO⟩
        ·simp[Instr.lookup,run_underlying hu,hck,hfk]
        ·simp[Instr.lookup,run_underlying hu,getObj,Sem.run,hO,hck,hfk]
   ·cases h
  ·cases h
end Go.AX
namespace Go.AX
open Go.RowKit
variable {e:Env} {P:Program} {w0:World} {E:Em} {s:St} {w:World} {a:Ac} {A:Act}
theorem qc3 (he:EnvOk e P) {xt t:TypeId} {x v:AV} {X:Value} (hx:VRel E x X) {ok:Bool} (h:Vi e x t ok=some v) (w:World) :
  ∃ V,VRel E v V∧(Instr.typeAssert X xt t ok).run P w=.ok V w:=by
 unfold Vi at h
 split at h
 ·rename_i ti hti
  obtain⟨inf,hinf,hu,_,_,_⟩:=he.ty _ _ hti
  split at h
  ·cases h
  ·rename_i hni
   split at h
   ·rename_i t' v'
    simp only[VRel] at hx
    obtain⟨U,hu',rfl⟩:=hx
    cases hb:Nat.beq t' t with
    | true =>
     simp only[hb,cond_true,Option.some.injEq] at h
     have htt:t'=t:=by simpa [zT] using hb
     subst htt
     refine⟨if ok then .tuple #[U,.bool true] else U,?_,?_⟩
     ·subst h;cases ok
      ·simpa using hu'
      ·simp only[cond_true,if_true,VRel];exact⟨[U,.bool true],VRels.cons hu' (VRels.cons zW VRels.nil),rfl⟩
     ·unfold Instr.typeAssert
      simp only[Sem.run_bind,run_underlying hu,Result.andThen]
      cases hd:ti.desc <;> first|exact absurd hd (hni _)|simp
    | false =>
     simp only[hb,cond_false] at h
     have htt:¬ t'=t:=by simpa [zT] using hb
     cases ok with
     | false=>simp at h
     | true =>
      simp only[cond_true] at h
      cases hz:zt e t with
      | none=>simp[hz] at h
      | some z =>
       simp only[hz,Option.some.injEq] at h
       subst h
       obtain⟨Z,hZ,hzr⟩:=QT (E:=E) he hz w
       refine⟨.tuple #[Z,.bool false],?_,?_⟩
       ·simp only[VRel];exact⟨[Z,.bool false],VRels.cons hZ (VRels.cons zW VRels.nil),rfl⟩
       ·unfold Instr.typeAssert
        simp only[Sem.run_bind,run_underlying hu,Result.andThen]
        cases hd:ti.desc <;> first|exact absurd hd (hni _)|simp[htt,hzr]
   ·cases h
 ·cases h
theorem qmq (he:EnvOk e P) {tys:List TypeId} {args:List AV} {L:List Value} (hx:VRels E args L) {v:AV} (h:Q5 e s tys args=some v) {ty:TypeId}
  (hr:∀ id∈(match args with|x::_=>QG x | []=>[]),Has E s w id):∃ V,VRel E v V∧(Builtin.len_ tys.toArray ty L.toArray).run P w=.ok V w:=by
 unfold Q5 at h
 split at h
 ·rename_i t tys x args
  split at h
  ·cases h
  ·rename_i ti hti
   obtain⟨inf,hinf,hu,_,_,_⟩:=he.ty _ _ hti
   simp only[VRels] at hx
   obtain⟨X,Xs,hx,_,rfl⟩:=hx
   split at h
   ·rename_i l hd
    cases h
    rw[hd] at hu
    simp only[VRel] at hx
    obtain⟨_,rfl⟩:=hx
    exact⟨_,QK,by simp[Builtin.len_,run_underlying hu,Yp,YE,goInt]⟩
   ·rename_i n el hd
    cases h
    rw[hd] at hu
    exact⟨_,QK,by simp[Builtin.len_,run_underlying hu,goInt]⟩
   ·rename_i el id off n ci cap ex hd
    cases h
    rw[hd] at hu
    simp only[VRel] at hx
    obtain⟨p,_,rfl,_⟩:=hx
    exact⟨_,QK,by simp[Builtin.len_,run_underlying hu,goInt]⟩
   ·rename_i el id off ci l sz hd
    cases h
    rw[hd] at hu
    simp only[VRel] at hx
    obtain⟨p,_,rfl⟩:=hx
    exact⟨_,QK,by simp[Builtin.len_,run_underlying hu,goInt]⟩
   ·rename_i el q n c hd
    cases h
    rw[hd] at hu
    simp only[VRel] at hx
    subst hx
    exact⟨_,QK,by simp[Builtin.len_,run_underlying hu,goInt]⟩
   ·rename_i k el hd
    rw[hd] at hu
    split at h
    ·rename_i es hm
     simp only[Option.some.injEq] at h
     subst h
     unfold YO at hm
     split at hm
     ·rename_i id
      simp only[VRel] at hx
      obtain⟨p,hp,rfl⟩:=hx
      obtain⟨p',o,O,hg,hp',hO,hrel⟩:=hr id (by simp[QG])
      rw[hp] at hp';cases hp'
      split at hm
      ·rename_i es' hg'
       rw[hg] at hg';cases hg'
       simp only[Option.some.injEq] at hm
       subst hm
       simp only[ORel] at hrel
       obtain⟨en,ck,rfl,hmr,_⟩:=hrel
       have hlen:∀ {es:List (AV × AV)} {L:List MapEntry},MRels E es L→L.length=es.length:=fun {es}=>by
        induction es with
        | nil=>intro L h;simp only[MRels] at h;simp[h]
        | cons q es ih=>intro L h;obtain⟨k,v⟩:=q;simp only[MRels] at h;obtain⟨e,r,_,_,hr,rfl⟩:=h;simp[ih hr]
       refine⟨_,QK,?_⟩
       have:=hlen hmr
       simp at this
       simp[Builtin.len_,run_underlying hu,getObj,Sem.run,hO,goInt,this]
      ·cases hm
     ·simp only[Option.some.injEq] at hm
      subst hm
      simp only[VRel] at hx
      subst hx
      exact⟨_,QK,by simp[Builtin.len_,run_underlying hu,goInt]⟩
     ·cases hm
    ·cases h
   ·cases h
 ·cases h
theorem qm1 (he:EnvOk e P) {tys:List TypeId} {args:List AV} {L:List Value} (hx:VRels E args L) {v:AV} (h:qfl e tys args=some v) {ty:TypeId} (w:World) :
  ∃ V,VRel E v V∧(Builtin.cap_ tys.toArray ty L.toArray).run P w=.ok V w:=by
 unfold qfl at h
 split at h
 ·rename_i t tys x args
  split at h
  ·cases h
  ·rename_i ti hti
   obtain⟨inf,hinf,hu,_,_,_⟩:=he.ty _ _ hti
   simp only[VRels] at hx
   obtain⟨X,Xs,hx,_,rfl⟩:=hx
   split at h
   ·rename_i n el hd
    cases h
    rw[hd] at hu
    exact⟨_,QK,by simp[Builtin.cap_,run_underlying hu,goInt]⟩
   ·rename_i el id off n ci c hd
    cases h
    rw[hd] at hu
    simp only[VRel] at hx
    obtain⟨p,_,rfl,_⟩:=hx
    exact⟨_,QK,by simp[Builtin.cap_,run_underlying hu,goInt]⟩
   ·rename_i el q n c hd
    cases h
    rw[hd] at hu
    simp only[VRel] at hx
    subst hx
    exact⟨_,QK,by simp[Builtin.cap_,run_underlying hu,goInt]⟩
   ·cases h
 ·cases h
theorem Vq (he:EnvOk e P):∀ {fs:List Field} {pl:List (Nat × Nat)},XO e fs=some pl→fs.mapM (fun f=>(P.info? f.type).map fun i=>(f.offset,i.size))=some pl
 | [],pl,h=>by simp[XO] at h;simp[h]
 | f::fs,pl,h=>by
  simp only[XO] at h
  cases hf:e.info f.type with
  | none=>simp[hf] at h
  | some fi =>
   cases hr:XO e fs with
   | none=>simp[hf,hr] at h
   | some l =>
    simp only[hf,hr,Option.some.injEq] at h
    obtain⟨i,hi,_,hsz,_,_⟩:=he.ty _ _ hf
    subst h
    simp[List.mapM_cons,hi,hsz,Vq he hr]
theorem qlz (cs:List Value):∀ (k:Nat) (off:Nat) (C:Array Value) (i:Nat),off+k+cs.length≤C.size →
  ((cs.zipIdx k).foldl (fun C (x:Value × Nat)=>C.setIfInBounds (off+x.2) x.1) C).size=C.size ∧
  ((cs.zipIdx k).foldl (fun C (x:Value × Nat)=>C.setIfInBounds (off+x.2) x.1) C)[i]?=if off+k≤i∧i < off+k+cs.length then cs[i - (off+k)]? else C[i]?:=by
 induction cs with
 | nil=>intro k off C i _;simp;intro h1 h2;omega
 | cons c cs ih =>
  intro k off C i h
  simp only[List.length_cons] at h
  obtain⟨h1,h2⟩:=ih (k+1) off (C.setIfInBounds (off+k) c) i (by simp;omega)
  simp only[List.zipIdx_cons,List.foldl_cons]
  refine⟨by rw[h1];simp,?_⟩
  rw[h2]
  simp only[List.length_cons]
  by_cases hi:i=off+k
  ·subst hi
   rw[if_neg (by omega),if_pos (by omega),Array.getElem?_setIfInBounds_self_of_lt (by omega)]
   simp
  ·by_cases hj:off+(k+1)≤i∧i < off+(k+1)+cs.length
   ·rw[if_pos hj,if_pos (by omega)]
    rw[show i - (off+k)=(i - (off+(k+1)))+1 from by omega]
    simp
   ·rw[if_neg hj,if_neg (by omega)]
    rw[Array.getElem?_setIfInBounds_ne (by omega)]
theorem VRels.ofGet {E:Em}:∀ {vs:List AV} {L:List Value},L.length=vs.length→(∀ (i:Nat) (v:AV),vs[i]?=some v→∃ V,L[i]?=some V∧VRel E v V)→VRels E vs L
 | [],[],_,_=>VRels.nil
 | [],_::_,h,_=>by simp at h
 | _::_,[],h,_=>by simp at h
 | v::vs,V::L,h,hg=>by
  obtain⟨U,hU,hv⟩:=hg 0 v rfl
  simp at hU;subst hU
  exact VRels.cons hv (VRels.ofGet (by simpa using h) fun i u hu=>by simpa using hg (i+1) u (by simpa using hu))
theorem Jv {place:Nat→Option (Nat × Nat)}:∀ {parts:List (Nat × AV)} {PARTS:List (Nat × Value)} {cs r:List AV} {C:List Value},VRels E cs C →
  PARTS.map (·.1)=parts.map (·.1)→VRels E (parts.map (·.2)) (PARTS.map (·.2))→qcq place cs parts=some r→∃ R:List Value,VRels E r R∧Instr.fill place C.toArray PARTS=some R.toArray
 | [],[],cs,r,C,hc,_,_,h=>by simp[qcq] at h;subst h;exact⟨C,hc,by simp[Instr.fill]⟩
 | [],_::_,_,_,_,_,h,_,_=>by simp at h
 | _::_,[],_,_,_,_,h,_,_=>by simp at h
 | (i,v)::parts,(j,V)::PARTS,cs,r,C,hc,hi,hv,h=>by
  simp only[List.map_cons,List.cons.injEq] at hi
  obtain⟨rfl,hi⟩:=hi
  simp only[List.map_cons,VRels,List.cons.injEq] at hv
  obtain⟨V',Vs,hv1,hv2,hV',hVs⟩:=hv
  subst hV' hVs
  simp only[qcq] at h
  cases hp:place j with
  | none=>simp[hp] at h
  | some q =>
   obtain⟨off,size⟩:=q
   simp only[hp] at h
   cases hb:Nat.beq v.cells.length size&&Nat.blt 0 size with
   | false=>simp[hb] at h
   | true =>
    simp only[hb,cond_true] at h
    simp only[Bool.and_eq_true] at hb
    have hsz:v.cells.length=size:=by simpa [zT] using hb.1
    have hpos:0 < size:=blt_iff.1 hb.2
    cases hpu:JW cs off v.cells with
    | none=>simp[hpu] at h
    | some cs' =>
     simp only[hpu] at h
     obtain⟨h1,h2,h3⟩:=Xl hpu
     have hcells:=Z1 hv1
     have hl1:=hcells.length
     have hl2:=hc.length
     have hfit':off+V.cells.size≤C.length:=by
      have:V.cells.size=v.cells.length:=by simpa using hl1
      rcases h1 with h1|h1
      ·rw[h1] at hsz;simp at hsz;omega
      ·omega
     ·have hset:=qlz V.cells.toList 0 off C.toArray
      have hnew:∃ C':List Value,C'.toArray=V.cells.zipIdx.foldl (fun cs (x:Value × Nat)=>cs.setIfInBounds (off+x.2) x.1) C.toArray∧VRels E cs' C':=by
       refine⟨(V.cells.zipIdx.foldl (fun cs (x:Value × Nat)=>cs.setIfInBounds (off+x.2) x.1) C.toArray).toList,by simp,?_⟩
       have hfold:V.cells.zipIdx.foldl (fun cs (x:Value × Nat)=>cs.setIfInBounds (off+x.2) x.1) C.toArray=(V.cells.toList.zipIdx 0).foldl (fun cs (x:Value × Nat)=>cs.setIfInBounds (off+x.2) x.1) C.toArray:=by
        rw[← Array.foldl_toList,Array.toList_zipIdx]
       rw[hfold]
       have hsz':off+0+V.cells.toList.length≤C.toArray.size:=by simp;omega
       refine VRels.ofGet ?_ fun i u hu=>?_
       ·have:=(hset 0 hsz').1
        simp at this ⊢
        omega
       ·rw[Array.getElem?_toList,(hset i hsz').2]
        rw[h3 i] at hu
        have hlen:V.cells.toList.length=v.cells.length:=hl1
        by_cases hin:off≤i∧i < off+v.cells.length
        ·rw[if_pos hin] at hu
         rw[if_pos (by omega)]
         simpa using hcells.get hu
        ·rw[if_neg hin] at hu
         rw[if_neg (by omega)]
         simpa using hc.get hu
      obtain⟨C',hC',hrel⟩:=hnew
      obtain⟨R,hR,hfill⟩:=Jv hrel hi hv2 h
      refine⟨R,hR,?_⟩
      simp only[Instr.fill,hp]
      have hne:¬ (V.cells.size≠size∨off+V.cells.size > C.toArray.size):=by
       have:V.cells.size=v.cells.length:=by simpa using hl1
       simp;omega
      simp only[Bool.or_eq_true,decide_eq_true_eq,hne,if_false]
      rw[← hC']
      exact hfill
theorem qhh (he:EnvOk e P) {t:TypeId} {parts:List (Nat × AV)} {PARTS:List (Nat × Value)} (hi:PARTS.map (·.1)=parts.map (·.1)) (hv:VRels E (parts.map (·.2)) (PARTS.map (·.2))) {v:AV}
  (h:Qb e t parts=some v) (w:World):∃ V,VRel E v V∧(Instr.build t PARTS.toArray).run P w=.ok V w:=by
 unfold Qb at h
 split at h
 ·rename_i z ti hz hti
  obtain⟨inf,hinf,hu,_,_,hzz⟩:=he.ty _ _ hti
  obtain⟨Z,hZ,hzr⟩:=QT (E:=E) he hz w
  have hZ':inf.zero=some Z:=by
   unfold zt at hz
   simp only[hti] at hz
   split at hz
   ·rename_i u hu'
    have:=Xe (w:=w) hinf (hzz.trans hu')
    rw[this] at hzr
    cases hzr
    exact hzz.trans hu'
   ·cases hz
  have hcells:=Z1 hZ
  split at h
  ·rename_i fs hd
   rw[hd] at hu
   split at h
   ·rename_i pl hpl
    split at h
    ·rename_i cs hcs
     simp only[Option.some.injEq] at h
     subst h
     obtain⟨R,hR,hf⟩:=Jv hcells hi hv hcs
     refine⟨.agg R.toArray,by simp only[VRel];exact⟨R,hR,rfl⟩,run_build w t _ _ ?_⟩
     unfold Program.built
     simp only[hinf,hu,hZ',Vq he hpl]
     simpa using hf
    ·cases h
   ·cases h
  ·rename_i n el hd
   rw[hd] at hu
   split at h
   ·rename_i eli heli
    obtain⟨j,hj,_,hsz,_,_⟩:=he.ty _ _ heli
    split at h
    ·rename_i cs hcs
     simp only[Option.some.injEq] at h
     subst h
     obtain⟨R,hR,hf⟩:=Jv hcells hi hv hcs
     refine⟨.agg R.toArray,by simp only[VRel];exact⟨R,hR,rfl⟩,run_build w t _ _ ?_⟩
     unfold Program.built
     simp only[hinf,hu,hZ',hj,hsz]
     simpa using hf
    ·cases h
   ·cases h
  ·cases h
 ·cases h
theorem Vp:∀ {l:List AV} {b:List Nat} {L:List Value},VRels E l L→qdr l=some b→qO b∧L=(b.map Int.ofNat).map (Value.int .u8)
 | [],b,L,h,hb=>by
  simp only[qdr,Option.some.injEq] at hb
  simp only[VRels] at h
  subst hb h
  exact⟨fun c hc=>by simp at hc,rfl⟩
 | v::l,b,L,h,hb=>by
  simp only[VRels] at h
  obtain⟨V,Vs,hv,hvs,rfl⟩:=h
  unfold qdr at hb
  split at hb
  ·rename_i h0;cases h0
  ·rename_i c l' heq
   simp only[List.cons.injEq] at heq
   obtain⟨rfl,rfl⟩:=heq
   cases hc:Nat.blt c 256 with
   | false=>simp[hc] at hb
   | true =>
    simp only[hc,cond_true] at hb
    split at hb
    ·rename_i r hr
     simp only[Option.some.injEq] at hb
     subst hb
     obtain⟨h1,h2⟩:=Vp hvs hr
     simp only[VRel] at hv
     subst hv h2
     refine⟨fun x hx=>?_,by simp⟩
     simp at hx
     rcases hx with rfl|hx
     ·exact blt_iff.1 hc
     ·exact h1 x hx
    ·cases hb
  ·cases hb
theorem qj5 (l:List Nat):∀ r:ByteArray,(l.map Int.ofNat).foldl (fun r n=>r.push (UInt8.ofNat n.toNat)) r=⟨r.data++(l.map UInt8.ofNat).toArray⟩:=by
 induction l with
 | nil=>intro r;simp
 | cons c l ih =>
  intro r
  simp only[List.map_cons,List.foldl_cons]
  rw[ih]
  congr 1
  apply Array.ext'
  simp[ByteArray.push]
theorem qkz (he:EnvOk e P) {src dst:TypeId} {x v:AV} {X:Value} (hx:VRel E x X) {ids:List Nat} (h:ql2 e s src dst x=some (v,ids)) (hr:∀ id∈ids,Has E s w id) :
  ∃ V,VRel E v V∧(convert src dst X).run P w=.ok V w:=by
 unfold ql2 at h
 split at h
 ·rename_i si di hsi hdi
  obtain⟨i1,_,hu1,_⟩:=he.ty _ _ hsi
  obtain⟨i2,_,hu2,_⟩:=he.ty _ _ hdi
  split at h
  ·rename_i el id off len ci cap ex hd1 hd2
   rw[hd1] at hu1
   rw[hd2] at hu2
   split at h
   ·rename_i eli heli
    obtain⟨i3,_,hu3,_⟩:=he.ty _ _ heli
    split at h
    ·rename_i hd3
     rw[hd3] at hu3
     split at h
     ·rename_i b hb
      simp only[Option.some.injEq,Prod.mk.injEq] at h
      obtain⟨rfl,rfl⟩:=h
      unfold qjn at hb
      split at hb
      ·rename_i cs _ _ hcs
       split at hb
       ·rename_i l hl
        simp only[VRel] at hx
        obtain⟨p,hp,rfl,_⟩:=hx
        obtain⟨p',o,O,hg,hp',hO,hrel⟩:=hr id (by simp)
        rw[hp] at hp';cases hp'
        rw[zl hcs] at hg;cases hg
        obtain⟨L,h1,h2,h3⟩:=Kj hO hrel hl
        obtain⟨hby,rfl⟩:=Vp h1 hb
        refine⟨Yp b,qf6 hby,?_⟩
        have hrun:=zF (P:=P) (w:=w) (b:=p.1) (o:=p.2.1+off) ((b.map Int.ofNat).map (Value.int .u8)) 0 #[] (fun j V hj=>by simpa using h3 j V hj)
        rw[h2] at hrun
        have hs:=run_bytesToString (P:=P) w ⟨p.1,p.2.1+off,none⟩ len (if ex=true then cap else p.2.2 - ci) (b.map Int.ofNat) (by simpa [loadCells] using hrun)
        rw[qj5] at hs
        simp only[convert,Sem.run_bind,run_underlying hu1,run_underlying hu2,run_underlying hu3,Result.andThen]
        have hem:(⟨ByteArray.empty.data++(b.map UInt8.ofNat).toArray⟩:ByteArray)=⟨(b.map UInt8.ofNat).toArray⟩:=by
         congr 1;apply Array.ext';simp
        rw[hem] at hs
        exact hs
       ·cases hb
      ·cases hb
     ·cases h
    ·cases h
   ·cases h
  ·cases h
 ·cases h
end Go.AX
namespace Go.AX
open Go.RowKit
variable {e:Env} {P:Program} {w0:World} {E:Em} {s:St} {w:World} {a:Ac} {A:Act}
theorem Wk (he:EnvOk e P) (ha:ARel E a A) {o:Oper} (hsel:∀ cs b,o.op≠.select cs b) {v:AV} {ids:List Nat} (h:qt e a o=some (v,ids)) :
  ∃ V,VRel E v V∧∀ w,(execOp A.eval o).run P w=.ok (.value V) w:=by
 unfold qt at h
 cases hall:o.op.operands.toList.all (fun x=>(zu (a.eval x)).isSome) with
 | false=>simp[hall] at h
 | true =>
  simp only[hall,cond_true] at h
  split at h
  ·rename_i V hp
   simp only[Option.some.injEq,Prod.mk.injEq] at h
   obtain⟨rfl,_⟩:=h
   refine⟨V,qd8 V,fun w=>?_⟩
   rw[← he.prog]
   rw[execOp_congr o hsel (ρ:=A.eval) (ρ':=zh a) (fun x hx=>?_)]
   ·exact Wi hp w
   ·have hx':(zu (a.eval x)).isSome=true:=by
     rw[List.all_eq_true] at hall
     exact hall x (by simpa using hx)
    obtain⟨U,hU⟩:=Option.isSome_iff_exists.1 hx'
    unfold zh
    rw[hU]
    exact qly (qw ha x) hU
  ·cases h
theorem zV {v:Option AV} {u:AV} {ids:List Nat} (h:zx v=some (u,ids)):v=some u∧ids=[]:=by
 cases v <;> simp[zx] at h;exact⟨by rw[h.1],by simp[h.2]⟩
theorem XW {l:List Nat} {v:Option AV} {u:AV} {ids:List Nat} (h:Ko l v=some (u,ids)):v=some u∧ids=l:=by
 cases v <;> simp[Ko] at h;exact⟨by rw[h.1],h.2.symm⟩
theorem zb {x:Sem Value} {V:Value} (h:x.run P w=.ok V w):(do pure (Next.value (← x)):Sem Next).run P w=.ok (.value V) w:=by simp[h]
theorem qde (l:List (Nat × Operand)) (f:Operand→AV) (g:Operand→Value):(l.map fun q=>(q.1,g q.2)).map (·.1)=(l.map fun q=>(q.1,f q.2)).map (·.1):=by simp
theorem qfv (ha:ARel E a A) (l:List (Nat × Operand)):VRels E ((l.map fun q=>(q.1,a.eval q.2)).map (·.2)) ((l.map fun q=>(q.1,A.eval q.2)).map (·.2)):=by
 simp only[List.map_map]
 exact VRels.map (fun q=>qw ha q.2) l
set_option maxHeartbeats 1000000 in
theorem qpf {f:MapEntry→Nat}:∀ {L:List MapEntry} {j:Nat} {x:MapEntry},(L.map f).Nodup→L[j]?=some x→L.find? (fun e=>f e==f x)=some x
 | [],_,_,_,h=>by simp at h
 | y::L,0,x,hn,h=>by
  simp at h
  subst h
  simp
 | y::L,j+1,x,hn,h=>by
  simp only[List.map_cons,List.nodup_cons] at hn
  simp only[List.getElem?_cons_succ] at h
  have hne:(f y==f x)=false:=by
   rw[beq_eq_false_iff_ne]
   intro e
   exact hn.1 (e ▸ List.mem_map_of_mem (List.mem_of_getElem? h))
  rw[List.find?_cons,hne]
  exact qpf hn.2 h
theorem qnw {i:Nat}:∀ {es:List (AV × AV)} {ix:List Nat} {q:AV × AV},qrx i es ix=some q→∃ j:Nat,es[j]?=some q∧ix[j]?=some i
 | [],_,_,h=>by simp[qrx] at h
 | _::_,[],_,h=>by simp[qrx] at h
 | r::es,k::ix,q,h=>by
  simp only[qrx] at h
  cases hb:Nat.beq k i with
  | true =>
   rw[hb] at h
   simp only[cond_true,Option.some.injEq] at h
   subst h
   exact⟨0,rfl,by simp[Nat.eq_of_beq_eq_true hb]⟩
  | false =>
   rw[hb] at h
   obtain⟨j,h1,h2⟩:=qnw h
   exact⟨j+1,by simpa using h1,by simpa using h2⟩
theorem MRels.get':∀ {es:List (AV × AV)} {L:List MapEntry},MRels E es L→∀ {i:Nat} {q:AV × AV},es[i]?=some q→∃ m,L[i]?=some m∧VRel E q.1 m.key∧VRel E q.2 m.val
 | [],_,_,i,q,hq=>by simp at hq
 | (k,v)::es,L,h,i,q,hq=>by
  simp only[MRels] at h
  obtain⟨en,r,hk,hv,hr,rfl⟩:=h
  cases i with
  | zero=>simp at hq;subst hq;exact⟨en,by simp,hk,hv⟩
  | succ i=>simp at hq;obtain⟨m,hm,h1⟩:=MRels.get' hr hq;exact⟨m,by simpa using hm,h1⟩
theorem qhr {x v:AV} {X:Value} (hx:VRel E x X) {ids:List Nat} (h:VE s x=some (v,ids)) (hr:∀ id∈ids,Has E s w id) :
  ∃ V,VRel E v V∧(Instr.entry X).run P w=.ok V w:=by
 unfold VE at h
 split at h
 ·rename_i id
  split at h
  ·rename_i m i seen hg
   split at h
   ·rename_i es it ix hgm
    cases hb:Nat.beq it id with
    | false=>rw[hb] at h;cases h
    | true =>
     rw[hb] at h
     simp only[cond_true] at h
     have hb:=Nat.eq_of_beq_eq_true hb
     subst hb
     split at h
     ·rename_i q hq
      simp only[Option.some.injEq,Prod.mk.injEq] at h
      obtain⟨rfl,rfl⟩:=h
      obtain⟨p,o,O,g1,hp,hO,hrel⟩:=hr it (by simp)
      rw[hg] at g1;cases g1
      obtain⟨pm,o2,O2,g2,hpm,hO2,hrel2⟩:=hr m (by simp)
      rw[hgm] at g2;cases g2
      simp only[ORel] at hrel hrel2
      obtain⟨pm',e1,rfl,hnd,hlt,h0⟩:=hrel
      rw[hpm] at e1;cases e1
      obtain⟨en,pi,e2,rfl,hM,hB,hst,hix⟩:=hrel2
      rw[hp] at e2;cases e2
      simp only[VRel] at hx
      obtain⟨p',hp',rfl⟩:=hx
      rw[hp] at hp';cases hp'
      obtain⟨j,j1,j2⟩:=qnw hq
      obtain⟨mm,m1,m2,m3⟩:=hM.get' j1
      have hborn:mm.born=bth p.2.2 i:=by
       have:=congrArg (fun l=>l[j]?) hst
       simp only[List.getElem?_map,m1,j2,Option.map_some,Option.some.injEq] at this
       exact this
      have hf:en.find? (fun e=>e.born==bth p.2.2 i)=some mm:=by
       rw[← Array.find?_toList,← hborn]
       exact qpf hB.2 m1
      refine⟨.tuple #[mm.key,mm.val],by simp only[VRel];exact⟨[mm.key,mm.val],VRels.cons m2 (VRels.cons m3 VRels.nil),rfl⟩,?_⟩
      have hbk:(((i::seen).map (bth p.2.2)).reverse.toArray).back?=some (bth p.2.2 i):=by simp
      have hX:p.2.1+0=0:=by rw[h0]
      simp only[Instr.entry,hX,getObj,Sem.run_bind,Sem.run,hO,hO2,Result.andThen,hbk,bne_self_eq_false,Bool.false_eq_true,if_false,hf]
      rfl
     ·cases h
   ·cases h
  ·cases h
 ·cases h
theorem YH (he:EnvOk e P) (h0:∃ w0 w1,Sim w0 E s w1) (ha:ARel E a A) {o:Oper} {v:AV} {ids:List Nat} (h:zp e a s o=some (v,ids)) (hr:∀ id∈ids,Has E s w id) :
  ∃ V,VRel E v V∧(execOp A.eval o).run P w=.ok (.value V) w:=by
 obtain⟨dst,op,type,pos,after,guard⟩:=o
 have pureS:∀ {op':Op},(∀ cs b,op'≠.select cs b)→qt e a ⟨dst,op',type,pos,after,guard⟩=some (v,ids)→∃ V,VRel E v V∧(execOp A.eval ⟨dst,op',type,pos,after,guard⟩).run P w=.ok (.value V) w :=
  fun hs hp=>let ⟨V,hV,hrun⟩:=Wk he ha hs hp;⟨V,hV,hrun w⟩
 cases op <;> simp only[zp] at h
 case move x =>
  simp only[Option.some.injEq,Prod.mk.injEq] at h;obtain⟨rfl,_⟩:=h
  exact⟨_,qw ha x,by simp[execOp]⟩
 case assign x =>
  simp only[Option.some.injEq,Prod.mk.injEq] at h;obtain⟨rfl,_⟩:=h
  exact⟨_,qw ha x,by simp[execOp]⟩
 case pick c x y =>
  split at h
  ·rename_i b hc
   simp only[Option.some.injEq,Prod.mk.injEq] at h;obtain⟨rfl,_⟩:=h
   have hc':=qw ha c
   rw[hc] at hc'
   simp only[VRel] at hc'
   cases b
   ·exact⟨_,qw ha y,by simp[execOp,hc',asBool]⟩
   ·exact⟨_,qw ha x,by simp[execOp,hc',asBool]⟩
  ·cases h
 case build t parts =>
  obtain⟨h,_⟩:=zV h
  obtain⟨V,hV,hrun⟩:=qhh he (qde parts.toList a.eval A.eval) (qfv ha parts.toList) h w
  refine⟨V,hV,?_⟩
  simp only[execOp]
  refine zb ?_
  have:(parts.map fun (q:Nat × Operand)=>(q.1,A.eval q.2))=(parts.toList.map fun q=>(q.1,A.eval q.2)).toArray:=by
   apply Array.ext';simp
  rw[this];exact hrun
 case load t x =>
  obtain⟨hh,rfl⟩:=XW h
  obtain⟨V,hV,hrun⟩:=qar he (qw ha x) hh hr
  exact⟨V,hV,by simp only[execOp];exact zb hrun⟩
 case nilCheck x =>
  have hx:=qw ha x
  split at h
  ·rename_i id off heq
   rw[heq] at hx
   have hx':=hx
   simp only[VRel] at hx'
   obtain⟨p,hp,hX⟩:=hx'
   simp only[Option.some.injEq,Prod.mk.injEq] at h;obtain⟨rfl,_⟩:=h
   exact⟨A.eval x,hx,by simp[execOp,hX]⟩
  ·rename_i f c heq
   rw[heq] at hx
   have hx':=hx
   simp only[VRel] at hx'
   obtain⟨p,hp,hX⟩:=hx'
   simp only[Option.some.injEq,Prod.mk.injEq] at h;obtain⟨rfl,_⟩:=h
   exact⟨A.eval x,hx,by simp[execOp,hX]⟩
  ·rename_i l heq
   rw[heq] at hx
   have hx':=hx
   simp only[VRel] at hx'
   obtain⟨p,hp,hX⟩:=hx'
   simp only[Option.some.injEq,Prod.mk.injEq] at h;obtain⟨rfl,_⟩:=h
   exact⟨A.eval x,hx,by simp[execOp,hX]⟩
  ·rename_i t u heq
   rw[heq] at hx
   have hx':=hx
   simp only[VRel] at hx'
   obtain⟨p,hp,hX⟩:=hx'
   simp only[Option.some.injEq,Prod.mk.injEq] at h;obtain⟨rfl,_⟩:=h
   exact⟨A.eval x,hx,by simp[execOp,hX]⟩
  ·cases h
 case binOp op t x y yt =>
  have hx:=qw ha x
  have hy:=qw ha y
  split at h
  ·rename_i u hb
   simp only[Option.some.injEq,Prod.mk.injEq] at h;obtain⟨rfl,_⟩:=h
   obtain⟨V,hV,hrun⟩:=qa8 (P:=P) (t:=t) hx hy hb w x y
   exact⟨V,hV,by simp only[execOp];exact zb hrun⟩
  ·split at h
   ·split at h
    ·rename_i ti hti
     obtain⟨inf,_,hu,_⟩:=he.ty _ _ hti
     split at h
     ·rename_i b hb
      simp only[Option.some.injEq,Prod.mk.injEq] at h;obtain⟨rfl,_⟩:=h
      obtain⟨h1,h2,h3,h4,_⟩:=qc4 hu hx hy hb w
      refine⟨_,zW,?_⟩
      simp only[execOp]
      refine zb ?_
      simp[Qg h2 h3 w,h4 _ rfl,h1]
     ·split at h
      ·rename_i b ids' hb
       simp only[Option.some.injEq,Prod.mk.injEq] at h;obtain⟨rfl,rfl⟩:=h
       obtain⟨h1,h2,h3,h4,_⟩:=qeu he h0 hu hx hy hb hr
       refine⟨_,zW,?_⟩
       simp only[execOp]
       refine zb ?_
       simp[Qg h2 h3 w,h4 _ rfl,h1]
      ·split at h
       ·rename_i b hb
        simp only[Option.some.injEq,Prod.mk.injEq] at h;obtain⟨rfl,_⟩:=h
        exact⟨_,zW,by simp only[execOp];exact zb (qff he hu hx hy hb w x y).1⟩
       ·exact pureS (by simp) h
    ·cases h
   ·split at h
    ·rename_i ti hti
     obtain⟨inf,_,hu,_⟩:=he.ty _ _ hti
     split at h
     ·rename_i b hb
      simp only[Option.some.injEq,Prod.mk.injEq] at h;obtain⟨rfl,_⟩:=h
      obtain⟨h1,h2,h3,_,h4⟩:=qc4 hu hx hy hb w
      refine⟨_,zW,?_⟩
      simp only[execOp]
      refine zb ?_
      simp[Qg h2 h3 w,h4 _ rfl,h1]
     ·split at h
      ·rename_i b ids' hb
       simp only[Option.some.injEq,Prod.mk.injEq] at h;obtain⟨rfl,rfl⟩:=h
       obtain⟨h1,h2,h3,_,h4⟩:=qeu he h0 hu hx hy hb hr
       refine⟨_,zW,?_⟩
       simp only[execOp]
       refine zb ?_
       simp[Qg h2 h3 w,h4 _ rfl,h1]
      ·split at h
       ·rename_i b hb
        simp only[Option.some.injEq,Prod.mk.injEq] at h;obtain⟨rfl,_⟩:=h
        exact⟨_,zW,by simp only[execOp];exact zb (qff he hu hx hy hb w x y).2⟩
       ·exact pureS (by simp) h
    ·cases h
   ·exact pureS (by simp) h
 case unOp=>exact pureS (by simp) h
 case convert src dst x =>
  split at h
  ·rename_i r hb
   simp only[Option.some.injEq] at h
   subst h
   obtain⟨V,hV,hrun⟩:=qkz he (qw ha x) hb hr
   exact⟨V,hV,by simp only[execOp];exact zb hrun⟩
  ·exact pureS (by simp) h
 case makeInterface t x =>
  split at h
  ·rename_i ti hti
   obtain⟨inf,_,hu,_⟩:=he.ty _ _ hti
   cases hi:Wb ti.desc with
   | true=>simp[hi] at h
   | false =>
    simp only[hi,cond_false,Option.some.injEq,Prod.mk.injEq] at h;obtain⟨rfl,_⟩:=h
    refine⟨.iface t (A.eval x),by simp only[VRel];exact⟨_,qw ha x,rfl⟩,?_⟩
    simp only[execOp]
    refine zb ?_
    unfold Instr.makeInterface
    cases hd:ti.desc <;> rw[hd] at hi hu <;> simp[Wb] at hi <;> simp[run_underlying hu]
  ·cases h
 case makeFunc f first captured =>
  split at h
  ·rename_i g
   cases hf:first.toList.isEmpty with
   | false=>simp[hf] at h
   | true =>
    simp only[hf,cond_true,Option.some.injEq,Prod.mk.injEq] at h;obtain⟨rfl,_⟩:=h
    have hfirst:first=#[]:=by simpa using hf
    refine⟨.func (.func g) #[] (captured.toList.map A.eval).toArray,by simp only[VRel];exact⟨_,QI ha _,rfl⟩,?_⟩
    simp only[execOp]
    refine zb ?_
    have hc:captured.map A.eval=(captured.toList.map A.eval).toArray:=by apply Array.ext';simp
    simp[Instr.makeFunc,hfirst,hc]
  ·cases h
 case slice t x lo hi mx =>
  obtain⟨h,_⟩:=zV h
  obtain⟨V,hV,hrun⟩:=qha he (qw ha x) (OptRel.map ha lo) (OptRel.map ha hi) (OptRel.map ha mx) h w
  exact⟨V,hV,by simp only[execOp];exact zb hrun⟩
 case fieldAddr t x f =>
  obtain⟨h,_⟩:=zV h
  obtain⟨V,hV,hrun⟩:=Wg he (qw ha x) h w
  exact⟨V,hV,by simp only[execOp];exact zb hrun⟩
 case field t x f =>
  obtain⟨h,_⟩:=zV h
  obtain⟨V,hV,hrun⟩:=qgo he (qw ha x) h w
  exact⟨V,hV,by simp only[execOp];exact zb hrun⟩
 case indexAddr t x i =>
  obtain⟨h,_⟩:=zV h
  obtain⟨V,hV,hrun⟩:=Kv he (qw ha x) (qw ha i) h w
  exact⟨V,hV,by simp only[execOp];exact zb hrun⟩
 case index t x i =>
  obtain⟨h,_⟩:=zV h
  obtain⟨V,hV,hrun⟩:=qhq he (qw ha x) (qw ha i) h w
  exact⟨V,hV,by simp only[execOp];exact zb hrun⟩
 case lookup t x k ok =>
  obtain⟨hh,rfl⟩:=XW h
  obtain⟨V,hV,hrun⟩:=qcy he (qw ha x) (qw ha k) hh hr
  exact⟨V,hV,by simp only[execOp];exact zb hrun⟩
 case typeAssert x xt t ok =>
  obtain⟨h,_⟩:=zV h
  obtain⟨V,hV,hrun⟩:=qc3 (xt:=xt) he (qw ha x) h w
  exact⟨V,hV,by simp only[execOp];exact zb hrun⟩
 case entry x =>
  obtain⟨V,hV,hrun⟩:=qhr (P:=P) (qw ha x) h hr
  exact⟨V,hV,by simp only[execOp];exact zb hrun⟩
 case extract x i =>
  split at h
  ·rename_i vs hx
   obtain⟨h,_⟩:=zV h
   have hx':=qw ha x
   rw[hx] at hx'
   simp only[VRel] at hx'
   obtain⟨C,hC,hX⟩:=hx'
   obtain⟨V,hV,hv⟩:=hC.get h
   exact⟨V,hv,by simp only[execOp];exact zb (by simp[Instr.extract,hX,hV])⟩
  ·exact pureS (by simp) h
 case call c =>
  obtain⟨callee,args,argTypes⟩:=c
  have hargs:args.map A.eval=(args.toList.map A.eval).toArray:=by apply Array.ext';simp
  split at h
  ·rename_i hcal
   simp only at hcal
   subst hcal
   obtain⟨hh,rfl⟩:=XW h
   have hr':∀ id∈(match args.toList.map a.eval with|x::_=>QG x | []=>[]),Has E s w id:=by
    intro id hid
    refine hr id ?_
    cases hl:args.toList with
    | nil=>simp[hl] at hid
    | cons y l=>simpa [hl] using hid
   obtain⟨V,hV,hrun⟩:=qmq (ty:=type) he (QI ha args.toList) hh hr'
   refine⟨V,hV,?_⟩
   simp only[execOp,resolve,invoke,builtin,hargs]
   simp at hrun
   simp[hrun]
  ·rename_i hcal
   simp only at hcal
   subst hcal
   obtain⟨h,_⟩:=zV h
   obtain⟨V,hV,hrun⟩:=qm1 (ty:=type) he (QI ha args.toList) h w
   refine⟨V,hV,?_⟩
   simp only[execOp,resolve,invoke,builtin,hargs]
   simp at hrun
   simp[hrun]
  ·exact pureS (by simp) h
  ·exact pureS (by simp) h
  ·cases h
 all_goals cases h
end Go.AX
namespace Go.AX
open Go.RowKit
variable {e:Env} {P:Program} {w0:World} {E:Em} {s:St} {w:World} {a:Ac} {A:Act}
def Acts (P:Program) (w0:World) (E:Em) (w:World) (x:Sem Value) (v:AV) (s':St):Prop :=
 ∃ V w' E',x.run P w=.ok V w'∧E.le E'∧VRel E' v V∧Sim w0 E' s' w'
theorem Jb (hs:Sim w0 E s w) {cs:List AV} {C:List Value} (hc:VRels E cs C) (el:TypeId) (K:Nat) (X:List Value) {frz:Nat} (hK:0 < frz→K * (frz / 2)≤(C++X).length) :
  E.le (E.put s.nx (w.heap.size,0,K))∧Sim w0 (E.put s.nx (w.heap.size,0,K)) (s.alloc (.cells cs el frz)) (w.alloc (.cells (C++X).toArray el)):=by
 have hle:=Em.le_put E s.nx (w.heap.size,0,K) hs.free
 refine⟨hle,hs.alloc ?_⟩
 simp only[ORel]
 refine⟨_,_,rfl,fun i v hv=>?_,⟨fun _ _ _=>by simp,fun _=>by simp,fun h=>by simpa using hK h,fun _=>rfl⟩⟩
 obtain⟨V,hV,hr⟩:=hc.get hv
 refine⟨V,?_,hr.mono hle⟩
 simp only[Nat.zero_add,List.getElem?_toArray]
 rw[List.getElem?_append_left (List.getElem?_eq_some_iff.1 hV).1]
 exact hV
theorem Yu (hs:Sim w0 E s w) {cs:List AV} {C:List Value} (hc:VRels E cs C) (el:TypeId) (K:Nat) (X:List Value) :
  E.le (E.put s.nx (w.heap.size,0,K))∧Sim w0 (E.put s.nx (w.heap.size,0,K)) (s.alloc (.cells cs el 0)) (w.alloc (.cells (C++X).toArray el)):=Jb hs hc el K X (fun h=>absurd h (Nat.lt_irrefl _))
theorem qb8 {id b K:Nat}:VRel (E.put id (b,0,K)) (.ptr id 0) (.pointer (some ⟨b,0,none⟩)):=by
 simp only[VRel];exact⟨_,Em.put_same _ _ _,rfl⟩
theorem qqu (hs:Sim w0 E s w) {x:AV} {X:Value} (hx:VRel E x X) (t:TypeId):Acts P w0 E w (Instr.box t X) (.ptr s.nx 0) (s.alloc (.cells x.cells t 0)):=by
 obtain⟨h1,h2⟩:=Yu hs (Z1 hx) t 0 []
 refine⟨_,_,_,?_,h1,qb8,h2⟩
 simp[Instr.box,newVar,newRow]
theorem qj6 (he:EnvOk e P) (hs:Sim w0 E s w) {t:TypeId} {z:AV} (hz:zt e t=some z):Acts P w0 E w (Instr.alloc t true (.tuple #[])) (.ptr s.nx 0) (s.alloc (.cells z.cells t 0)):=by
 obtain⟨Z,hZ,hzr⟩:=QT (E:=E) he hz w
 obtain⟨h1,h2⟩:=Yu hs (Z1 hZ) t 0 []
 refine⟨_,_,_,?_,h1,qb8,h2⟩
 simp[Instr.alloc,hzr,newVar,newRow]
theorem qep (hs:Sim w0 E s w) (t:TypeId):Acts P w0 E w (Instr.makeMap t none) (.map s.nx) (s.alloc (.map [])):=by
 have hle:=Em.le_put E s.nx (w.heap.size,0,0) hs.free
 refine⟨.map (some w.heap.size),w.alloc (.map #[] 0),E.put s.nx (w.heap.size,0,0),?_,hle,?_,hs.alloc ?_⟩
 ·simp[Instr.makeMap]
 ·simp only[VRel];exact⟨_,Em.put_same _ _ _,rfl⟩
 ·simp only[ORel];exact⟨_,_,rfl,by simp[MRels],by simp[Born]⟩
theorem qki {b o:Nat} {V u:Value} (h1:qux V=true) (hc:w.cell? ⟨b,o,none⟩=some u) (hf:w.frozen? ⟨b,o,none⟩=false):(store ⟨b,o,none⟩ V).run P w=.ok () (w.setCell ⟨b,o,none⟩ V):=by
 cases V <;> simp[qux] at h1 <;> simp[store,Sem.run,hc,hf]
theorem qdi {b o:Nat} {C:Array Value} {el:TypeId} {fz:Nat × Nat} (hb:w.heap[b]?=some (.cells C el fz)) (V:Value):Puts w (w.setCell ⟨b,o,none⟩ V) b (.cells (C.setIfInBounds o V) el fz):=by
 refine⟨fun k hk=>?_,?_,?_,rfl,rfl,rfl⟩
 ·simp only[World.setCell,Array.getElem?_modify]
  rw[if_neg (fun h=>hk h.symm)]
 ·simp only[World.setCell,Array.getElem?_modify,if_true,hb]
  simp
 ·simp[World.setCell]
theorem Puts.trans {w1 w2:World} {b:Nat} {O1 O2:Obj} (h:Puts w w1 b O1) (h':Puts w1 w2 b O2):Puts w w2 b O2 :=
 ⟨fun k hk=>(h'.same k hk).trans (h.same k hk),h'.new,h'.size.trans h.size,h'.os.trans h.os,h'.tape.trans h.tape,h'.output.trans h.output⟩
theorem Puts.refl' {b:Nat} {O:Obj} (h:w.heap[b]?=some O):Puts w w b O:=⟨fun _ _=>rfl,h,rfl,rfl,rfl,rfl⟩
theorem Zw {b o:Nat}:∀ (L:List Value) (i:Nat) (w:World) (C:Array Value) (el:TypeId) (fz:Nat × Nat),w.heap[b]?=some (.cells C el fz)→o+i+L.length≤C.size→(∀ j,o+i≤j→j < C.size→¬ (fz.1≤j∧j < fz.2))→(∀ V∈L,qux V=true) →
  ∃ w' C',(storeCells ⟨b,o,none⟩ L i).run P w=.ok () w'∧Puts w w' b (.cells C' el fz)∧C'.size=C.size∧∀ j,C'[j]?=if o+i≤j∧j < o+i+L.length then L[j - (o+i)]? else C[j]?
 | [],i,w,C,el,fz,hb,_,_,_=>⟨w,C,by simp[storeCells],Puts.refl' hb,rfl,fun j=>by rw[if_neg (by simp)]⟩
 | V::L,i,w,C,el,fz,hb,hl,hf,h1=>by
  simp only[List.length_cons] at hl
  have hc:w.cell? ⟨b,o+i,none⟩=some C[o+i]:=by rw[X1 hb];exact Array.getElem?_eq_getElem (by omega)
  have hp:=qdi (o:=o+i) hb V
  obtain⟨w',C',hr,hp',hsz,hg⟩:=Zw (o:=o) L (i+1) (w.setCell ⟨b,o+i,none⟩ V) (C.setIfInBounds (o+i) V) el fz hp.new (by simp;omega) (fun j h1 h2=>hf j (by omega) (by simpa using h2)) (fun U hU=>h1 U (by simp[hU]))
  refine⟨w',C',?_,hp.trans hp',by rw[hsz];simp,fun j=>?_⟩
  ·simp only[storeCells,Sem.run_bind,Addr.add_none,qki (h1 V (by simp)) hc (Yj hb (hf _ (by omega) (by omega))),Result.andThen]
   exact hr
  ·rw[hg j]
   simp only[List.length_cons]
   by_cases hj:j=o+i
   ·subst hj
    rw[if_neg (by omega),if_pos (by omega),Array.getElem?_setIfInBounds_self_of_lt (by omega)]
    simp
   ·by_cases hj2:o+(i+1)≤j∧j < o+(i+1)+L.length
    ·rw[if_pos hj2,if_pos (by omega),show j - (o+i)=(j - (o+(i+1)))+1 from by omega]
     simp
    ·rw[if_neg hj2,if_neg (by omega),Array.getElem?_setIfInBounds_ne (by omega)]
theorem Zu (hs:Sim w0 E s w) {id off:Nat} {vs:List AV} {L:List Value} {p:Nat × Nat × Nat} (hp:E id=some p) (hv:VRels E vs L) {s':St} (h:zj s id off vs=some s') :
  ∃ w',(storeCells ⟨p.1,p.2.1+off,none⟩ L).run P w=.ok () w'∧Sim w0 E s' w':=by
 unfold zj at h
 split at h
 ·rename_i cs el fz hcs
  ·cases hone:vs.all AV.one with
   | false=>simp[hone] at h
   | true =>
    simp only[hone,cond_true] at h
    cases hpu:JW cs off vs with
    | none=>simp[hpu] at h
    | some cs' =>
     simp only[hpu,Option.some.injEq] at h
     subst h
     obtain⟨h1,h2,h3⟩:=Xl hpu
     have hg:=zl hcs
     obtain⟨q,O,hq,hO,hrel,_⟩:=hs.obj id _ hg
     rw[hp] at hq;cases hq
     simp only[ORel] at hrel
     obtain⟨C,f,rfl,hc,hf⟩:=hrel
     have hlen:=hv.length
     by_cases hnil:vs=[]
     ·subst hnil
      simp only[VRels] at hv
      subst hv
      have hcs':cs'=cs:=by
       refine List.ext_getElem? fun i=>?_
       rw[h3 i,if_neg (by simp)]
      subst hcs'
      refine⟨w,by simp[storeCells],?_⟩
      refine hs.puts hg hp (Puts.refl' hO) ?_
      simp only[ORel]
      exact⟨C,f,rfl,hc,hf⟩
     ·have hfit:off+vs.length≤cs.length:=h1.resolve_left hnil
      have hCs:p.2.1+off+L.length≤C.size:=by
       have hlast:(off+vs.length - 1) < cs.length:=by
        have:0 < vs.length:=List.length_pos_iff.2 hnil
        omega
       obtain⟨V,hV,_⟩:=hc (off+vs.length - 1) _ (List.getElem?_eq_getElem hlast)
       have:=(Array.getElem?_eq_some_iff.1 hV).1
       have:0 < vs.length:=List.length_pos_iff.2 hnil
       omega
      obtain⟨w',C',hr,hpu',hsz,hget⟩:=Zw (P:=P) (b:=p.1) (o:=p.2.1+off) L 0 w C el f hO (by omega) (fun j h1 h2=>hf.1 j (by omega) h2) (VS hv hone)
      refine⟨w',hr,hs.puts hg hp hpu' ?_⟩
      simp only[ORel]
      refine⟨C',f,rfl,fun i v hv'=>?_,by rw[hsz];exact hf⟩
      rw[h3 i] at hv'
      by_cases hin:off≤i∧i < off+vs.length
      ·rw[if_pos hin] at hv'
       obtain⟨V,hV,hvr⟩:=hv.get hv'
       refine⟨V,?_,hvr⟩
       rw[hget,if_pos (by omega),show p.2.1+i - (p.2.1+off+0)=i - off from by omega]
       exact hV
      ·rw[if_neg hin] at hv'
       obtain⟨V,hV,hvr⟩:=hc i v hv'
       refine⟨V,?_,hvr⟩
       rw[hget,if_neg (by omega)]
       exact hV
 ·cases h
theorem qj0 (he:EnvOk e P) (hs:Sim w0 E s w) {t:TypeId} {x v:AV} {X V:Value} (hx:VRel E x X) (hv:VRel E v V) {s':St} (h:Qu e s t x v=some s') :
  ∃ w',(Instr.storeAt t X V).run P w=.ok () w'∧Sim w0 E s' w':=by
 unfold Qu at h
 split at h
 ·rename_i id off ti hti
  obtain⟨inf,hinf,_,hsz,_,_⟩:=he.ty _ _ hti
  cases hb:Nat.beq v.cells.length ti.size with
  | false=>simp[hb] at h
  | true =>
   simp only[hb,cond_true] at h
   have hlen:v.cells.length=ti.size:=by simpa [zT] using hb
   simp only[VRel] at hx
   obtain⟨p,hp,rfl⟩:=hx
   have hcells:=Z1 hv
   obtain⟨w',hr,hsim⟩:=Zu (P:=P) hs hp hcells h
   refine⟨w',?_,hsim⟩
   have hl:=hcells.length
   simp at hl
   have hne:V.cells.size=inf.size:=by omega
   simp[Instr.storeAt,Instr.sureAddr,storeVar,zv hinf,hne,hr]
 ·cases h
end Go.AX
namespace Go.AX
open Go.RowKit
variable {e:Env} {P:Program} {w0:World} {E:Em} {s:St} {w:World} {a:Ac} {A:Act}
theorem ZT {b:Nat} {O O':Obj} (hb:w.heap[b]?=some O):Puts w { w with heap:=w.heap.setIfInBounds b O' } b O':=by
 have hlt:=(Array.getElem?_eq_some_iff.1 hb).1
 refine⟨fun k hk=>?_,?_,by simp,rfl,rfl,rfl⟩
 ·exact Array.getElem?_setIfInBounds_ne (fun h=>hk h.symm)
 ·exact Array.getElem?_setIfInBounds_self_of_lt hlt
theorem Born.push {en:Array MapEntry} {ck:Nat} (h:Born en ck) (K V:Value):Born (en.push { key:=K,val:=V,born:=ck }) (ck+1):=by
 refine⟨fun x hx=>?_,?_⟩
 ·simp only[Array.toList_push,List.mem_append,List.mem_singleton] at hx
  rcases hx with hx|rfl
  ·exact Nat.lt_succ_of_lt (h.1 x hx)
  ·exact Nat.lt_succ_self ck
 ·simp only[Array.toList_push,List.map_append,List.map_cons,List.map_nil]
  refine List.nodup_append.2 ⟨h.2,by simp,fun a ha b hb=>?_⟩
  simp only[List.mem_singleton] at hb
  subst hb
  obtain⟨x,hx,rfl⟩:=List.mem_map.1 ha
  exact Nat.ne_of_lt (h.1 x hx)
theorem Born.same {en en':Array MapEntry} {ck:Nat} (h:Born en ck) (he:en'.toList.map (·.born)=en.toList.map (·.born)):Born en' ck:=by
 refine⟨fun x hx=>?_,by rw[he];exact h.2⟩
 have:x.born∈en'.toList.map (·.born):=List.mem_map_of_mem hx
 rw[he] at this
 obtain⟨y,hy,hxy⟩:=List.mem_map.1 this
 rw[← hxy];exact h.1 y hy
theorem Born.modify {en:Array MapEntry} {ck:Nat} (h:Born en ck) (j:Nat) {f:MapEntry→MapEntry} (hf:∀ m,(f m).born=m.born):Born (en.modify j f) ck:=by
 refine h.same ?_
 refine List.ext_getElem? fun i=>?_
 simp only[List.getElem?_map,Array.getElem?_toList,Array.getElem?_modify]
 split
 ·cases en[i]? <;> simp[hf]
 ·rfl
theorem Born.erase {en:Array MapEntry} {ck:Nat} (h:Born en ck) (j:Nat):Born (en.eraseIdxIfInBounds j) ck:=by
 have hs:(en.eraseIdxIfInBounds j).toList.Sublist en.toList:=by simpa using List.eraseIdx_sublist en.toList j
 exact⟨fun x hx=>h.1 x (hs.subset hx),(hs.map (·.born)).nodup h.2⟩
theorem Ze {b:Nat} {en:Array MapEntry} {ck:Nat} (hb:w.heap[b]?=some (.map en ck)):(getObj b).run P w=.ok (.map en ck) w:=by
 simp[getObj,Sem.run,hb]
theorem Zh {b:Nat} {en:Array MapEntry} {ck:Nat} (hb:w.heap[b]?=some (.map en ck)) (O':Obj):(setObj b O').run P w=.ok () { w with heap:=w.heap.setIfInBounds b O' }:=by
 simp[setObj,Sem.run,hb]
theorem qko {d:TypeDesc} {x y:AV} {X Y:Value} (hx:VRel E x X) (hy:VRel E y Y) (h:qb7 d x y=some true) (n:Nat):Instr.sameBits (n+1) Y X=true:=by
 unfold qb7 at h
 split at h
 ·simp only[Option.some.injEq,qG,decide_eq_true_eq] at h
  subst h
  simp only[VRel] at hx hy
  rw[hx.2,hy.2]
  simp[Instr.sameBits,Yp,MapKept.bytes_beq]
 ·simp only[VRel] at hx hy
  subst hx hy
  rename_i k a k' b
  by_cases hk:k=k'
  ·simp only[hk,if_true,Option.some.injEq,beq_iff_eq] at h
   simp[Instr.sameBits,hk,h]
  ·simp[hk] at h
 ·simp only[VRel] at hx hy
  subst hx hy
  simp only[Option.some.injEq,beq_iff_eq] at h
  simp[Instr.sameBits,h]
 ·cases h
theorem MRels.get:∀ {es:List (AV × AV)} {L:List MapEntry},MRels E es L→∀ {i:Nat} {q:AV × AV},es[i]?=some q→∃ m,L[i]?=some m∧VRel E q.1 m.key∧VRel E q.2 m.val
 | [],_,_,i,q,hq=>by simp at hq
 | (k,v)::es,L,h,i,q,hq=>by
  simp only[MRels] at h
  obtain⟨en,r,hk,hv,hr,rfl⟩:=h
  cases i with
  | zero=>simp at hq;subst hq;exact⟨en,by simp,hk,hv⟩
  | succ i=>simp at hq;obtain⟨m,hm,h1⟩:=MRels.get hr hq;exact⟨m,by simpa using hm,h1⟩
theorem MRels.setL:∀ {es:List (AV × AV)} {L:List MapEntry},MRels E es L→∀ {i:Nat} {k v:AV} {f:MapEntry→MapEntry},(∀ m,VRel E k (f m).key∧VRel E v (f m).val)→MRels E (setL es i (k,v)) (L.modify i f)
 | [],L,h,i,k,v,f,hf=>by simp only[MRels] at h;subst h;simp[AX.setL,MRels]
 | (k',v')::es,L,h,i,k,v,f,hf=>by
  simp only[MRels] at h
  obtain⟨en,r,hk,hv,hr,rfl⟩:=h
  cases i with
  | zero=>simp only[AX.setL,MRels];exact⟨f en,r,(hf en).1,(hf en).2,hr,by simp⟩
  | succ i=>simp only[AX.setL,MRels];exact⟨en,r.modify i f,hk,hv,MRels.setL hr hf,by simp⟩
theorem MRels.snoc:∀ {es:List (AV × AV)} {L:List MapEntry},MRels E es L→∀ {k v:AV} {m:MapEntry},VRel E k m.key→VRel E v m.val→MRels E (es++[(k,v)]) (L++[m])
 | [],L,h,k,v,m,hk,hv=>by simp only[MRels] at h;subst h;simp only[List.nil_append,MRels];exact⟨m,[],hk,hv,rfl,rfl⟩
 | (k',v')::es,L,h,k,v,m,hk,hv=>by
  simp only[MRels] at h
  obtain⟨en,r,hk',hv',hr,rfl⟩:=h
  simp only[List.cons_append,MRels]
  exact⟨en,r++[m],hk',hv',MRels.snoc hr hk hv,by simp⟩
theorem MRels.eraseL:∀ {es:List (AV × AV)} {L:List MapEntry},MRels E es L→∀ {i:Nat},MRels E (eraseL es i) (L.eraseIdx i)
 | [],L,h,i=>by simp only[MRels] at h;subst h;simp[AX.eraseL,MRels]
 | (k',v')::es,L,h,i=>by
  simp only[MRels] at h
  obtain⟨en,r,hk',hv',hr,rfl⟩:=h
  cases i with
  | zero=>simpa [AX.eraseL] using hr
  | succ i=>simp only[AX.eraseL,MRels];exact⟨en,r.eraseIdx i,hk',hv',MRels.eraseL hr,by simp⟩
theorem JC (he:EnvOk e P) (hs:Sim w0 E s w) {t:TypeId} {x k v:AV} {X K V:Value} (hx:VRel E x X) (hk:VRel E k K) (hv:VRel E v V) {s':St} (h:za e s t x k v=some s') :
  ∃ w',(Instr.mapUpdate t X K V).run P w=.ok () w'∧Sim w0 E s' w':=by
 unfold za at h
 split at h
 ·rename_i ti id hti
  obtain⟨inf,hinf,hu,_,_,_⟩:=he.ty _ _ hti
  split at h
  ·rename_i key el es hd hg
   rw[hd] at hu
   split at h
   ·rename_i ki hki
    obtain⟨kin,hkin,hku,_,_,_⟩:=he.ty _ _ hki
    cases hok:Y7 ki.desc with
    | false=>simp[hok] at h
    | true =>
     simp only[hok,cond_true] at h
     simp only[VRel] at hx
     obtain⟨p,hp,rfl⟩:=hx
     obtain⟨q,O,hq,hO,hrel,_⟩:=hs.obj id _ hg
     rw[hp] at hq;cases hq
     simp only[ORel] at hrel
     obtain⟨en,ck,rfl,hm,hB⟩:=hrel
     have hck:∀ b,(Instr.checkKey b 10000 key K).run P w=.ok () w:=fun b=>YC hku hok b 9999 K w
     cases hf:Qr ki.desc k es 0 with
     | none=>simp[hf] at h
     | some r =>
      rcases Zn hk hm hf with⟨rfl,hn⟩|⟨j,u,U,rfl,_,hn,_,k',K',g1,g2,g3,g4⟩
      ·simp only[hf,Option.some.injEq] at h
       subst h
       have hfk:=MapKept.run_findKey (w:=w) hku hn
       refine⟨_,?_,hs.puts hg hp (ZT (O':=.map (en.push { key:=K,val:=V,born:=ck }) (ck+1)) hO) ?_⟩
       ·simp[Instr.mapUpdate,run_underlying hu,Ze hO,hck,hfk,Zh hO]
       ·simp only[ORel]
        exact⟨_,_,rfl,by simpa using hm.snoc (m:={ key:=K,val:=V,born:=ck }) hk hv,hB.push _ _⟩
      ·simp only[hf,Option.some.injEq] at h
       subst h
       have hfk:=MapKept.run_findKey (w:=w) hku hn
       obtain⟨m,hmg,hmk,hmv⟩:=hm.get g1
       simp only[Nat.sub_zero] at hmg g1
       have hmj:en[j]?=some m:=by simpa using hmg
       have hbits:Instr.sameBits 10000 m.key K=true:=qko hk hmk g4 9999
       refine⟨_,?_,hs.puts hg hp (ZT (O':=.map (en.modify j fun m=>{ m with key:=K,val:=V }) ck) hO) ?_⟩
       ·simp[Instr.mapUpdate,run_underlying hu,Ze hO,hck,hfk,Zh hO,Instr.keyThatStays,hmj,hbits]
       ·simp only[ORel]
        exact⟨_,_,rfl,by simpa using hm.setL (i:=j) (f:=fun m=>{ m with key:=K,val:=V }) (fun m=>⟨hk,hv⟩),hB.modify j (fun _=>rfl)⟩
   ·cases h
  ·cases h
 ·cases h
theorem XI {α:Type}:∀ {l:List α} {i:Nat},eraseL l i=l.eraseIdx i
 | [],_=>by simp[eraseL]
 | _::_,0=>by simp[eraseL]
 | _::l,i+1=>by simp[eraseL,XI (l:=l)]
theorem qot {α β:Type} {f:α→β}:∀ {l:List α} {i:Nat},(l.eraseIdx i).map f=(l.map f).eraseIdx i
 | [],_=>by simp
 | _::_,0=>by simp
 | _::l,i+1=>by simp[qot (l:=l)]
theorem qjr {α:Type} {l:List α} {i:Nat} {x:α} (h:x∈eraseL l i):x∈l:=by
 rw[XI] at h
 exact (List.eraseIdx_sublist l i).subset h
theorem qf8 (he:EnvOk e P) (hs:Sim w0 E s w) {tys:List TypeId} {args:List AV} {L:List Value} (hx:VRels E args L) {s':St} {ty:TypeId} (h:QU e s tys args=some s') :
  ∃ w',(Builtin.delete_ tys.toArray ty L.toArray).run P w=.ok undef w'∧Sim w0 E s' w':=by
 unfold QU at h
 split at h
 ·rename_i t tys x k
  simp only[VRels] at hx
  obtain⟨X,Xs,hx,⟨K,Ks,hk,hnil,rfl⟩,rfl⟩:=hx
  subst hnil
  split at h
  ·rename_i ti id hti
   obtain⟨inf,hinf,hu,_,_,_⟩:=he.ty _ _ hti
   split at h
   ·rename_i key el es hd hg
    rw[hd] at hu
    split at h
    ·rename_i ki hki
     obtain⟨kin,hkin,hku,_,_,_⟩:=he.ty _ _ hki
     cases hok:Y7 ki.desc with
     | false=>simp[hok] at h
     | true =>
      simp only[hok,cond_true] at h
      simp only[VRel] at hx
      obtain⟨p,hp,rfl⟩:=hx
      obtain⟨q,O,hq,hO,hrel,_⟩:=hs.obj id _ hg
      rw[hp] at hq;cases hq
      simp only[ORel] at hrel
      obtain⟨en,ck,rfl,hm,hB⟩:=hrel
      have hck:∀ b,(Instr.checkKey b 10000 key K).run P w=.ok () w:=fun b=>YC hku hok b 9999 K w
      cases hf:Qr ki.desc k es 0 with
      | none=>simp[hf] at h
      | some r =>
       rcases Zn hk hm hf with⟨rfl,hn⟩|⟨j,u,U,rfl,_,hn,_,k',K',g1,g2,g3,g4⟩
       ·simp only[hf,Option.some.injEq] at h
        subst h
        have hfk:=MapKept.run_findKey (w:=w) hku hn
        have hs':=hs.puts hg hp (ZT (O':=.map en ck) hO) (o':=.map es) (by simp only[ORel];exact⟨_,_,rfl,hm,hB⟩)
        refine⟨{ w with heap:=w.heap.setIfInBounds p.1 (.map en ck) },?_,?_⟩
        ·simp[Builtin.delete_,run_underlying hu,Ze hO,hck,hfk,Zh hO,undef]
        ·refine⟨fun i o hi=>?_,hs.inj,hs.fresh,hs'.below⟩
         refine hs'.obj i o ?_
         simp only[Tr.get_set]
         by_cases hii:i=id
         ·subst hii;rw[hg] at hi;cases hi;simp
         ·rw[if_neg hii];exact hi
       ·simp only[hf,Option.some.injEq] at h
        subst h
        have hfk:=MapKept.run_findKey (w:=w) hku hn
        refine⟨_,?_,hs.puts hg hp (ZT (O':=.map (en.eraseIdxIfInBounds j) ck) hO) ?_⟩
        ·simp[Builtin.delete_,run_underlying hu,Ze hO,hck,hfk,Zh hO,undef]
        ·simp only[ORel]
         exact⟨_,_,rfl,by simpa using hm.eraseL (i:=j),hB.erase j⟩
    ·cases h
   ·rename_i key el es it ix hd hg
    rw[hd] at hu
    split at h
    ·rename_i ki hki
     obtain⟨kin,hkin,hku,_,_,_⟩:=he.ty _ _ hki
     cases hok:Y7 ki.desc with
     | false=>simp[hok] at h
     | true =>
      simp only[hok,cond_true] at h
      simp only[VRel] at hx
      obtain⟨p,hp,rfl⟩:=hx
      obtain⟨q,O,hq,hO,hrel,_⟩:=hs.obj id _ hg
      rw[hp] at hq;cases hq
      have hrel0:=hrel
      simp only[ORel] at hrel
      obtain⟨en,pi,hpi,rfl,hm,hB,hst,hix⟩:=hrel
      have hck:∀ b,(Instr.checkKey b 10000 key K).run P w=.ok () w:=fun b=>YC hku hok b 9999 K w
      cases hf:Qr ki.desc k es 0 with
      | none=>simp[hf] at h
      | some r =>
       rcases Zn hk hm hf with⟨rfl,hn⟩|⟨j,u,U,rfl,_,hn,_,k',K',g1,g2,g3,g4⟩
       ·simp only[hf,Option.some.injEq] at h
        subst h
        have hfk:=MapKept.run_findKey (w:=w) hku hn
        have hs':=hs.puts hg hp (ZT (O':=.map en (clN pi.2.2)) hO) (o':=.rmap es it ix) hrel0
        refine⟨{ w with heap:=w.heap.setIfInBounds p.1 (.map en (clN pi.2.2)) },?_,?_⟩
        ·simp[Builtin.delete_,run_underlying hu,Ze hO,hck,hfk,Zh hO,undef]
        ·refine⟨fun i o hi=>?_,hs.inj,hs.fresh,hs'.below⟩
         refine hs'.obj i o ?_
         simp only[Tr.get_set]
         by_cases hii:i=id
         ·subst hii;rw[hg] at hi;cases hi;simp
         ·rw[if_neg hii];exact hi
       ·simp only[hf,Option.some.injEq] at h
        subst h
        have hfk:=MapKept.run_findKey (w:=w) hku hn
        refine⟨_,?_,hs.puts hg hp (ZT (O':=.map (en.eraseIdxIfInBounds j) (clN pi.2.2)) hO) ?_⟩
        ·simp[Builtin.delete_,run_underlying hu,Ze hO,hck,hfk,Zh hO,undef]
        ·simp only[ORel]
         refine⟨_,pi,hpi,rfl,by simpa using hm.eraseL (i:=j),hB.erase j,?_,fun i hi=>hix i (qjr hi)⟩
         have e1:(en.eraseIdxIfInBounds j).toList=en.toList.eraseIdx j:=by simp
         rw[e1,XI,qot,qot,hst]
    ·cases h
   ·cases h
  ·cases h
 ·cases h
theorem KP (z:List AV):∀ n,(KA z n).length=n * z.length
 | 0=>by simp[KA]
 | n+1=>by simp[KA,KP z n,Nat.succ_mul];omega
def Wx (Z:List Value):Nat→List Value
 | 0=>[]
 | n+1=>Z++Wx Z n
theorem K4 {z:List AV} {Z:List Value} (h:VRels E z Z):∀ n,VRels E (KA z n) (Wx Z n)
 | 0=>VRels.nil
 | n+1=>h.append (K4 h n)
theorem qh5 (Z:List Value):∀ (n i:Nat),i < n * Z.length→(Wx Z n)[i]?=Z[i % Z.length]?
 | 0,i,h=>by simp at h
 | n+1,i,h=>by
  simp only[Wx]
  by_cases hi:i < Z.length
  ·rw[List.getElem?_append_left hi,Nat.mod_eq_of_lt hi]
  ·rw[List.getElem?_append_right (by omega),qh5 Z n (i - Z.length) (by rw[Nat.succ_mul] at h;omega)]
   congr 1
   rw[← Nat.mod_eq_sub_mod (by omega)]
theorem JV (Z:List Value):∀ n,(Wx Z n).length=n * Z.length
 | 0=>by simp[Wx]
 | n+1=>by simp[Wx,JV Z n,Nat.succ_mul];omega
theorem K7 {Z:Array Value} {n:Nat} (hz:0 < Z.size∨n=0):((Array.range (n * Z.size)).map (Z[· % Z.size]!))=(Wx Z.toList n).toArray:=by
 apply Array.ext'
 simp only[Array.toList_map,Array.toList_range]
 refine List.ext_getElem? fun i=>?_
 by_cases hi:i < n * Z.size
 ·have h1:=qh5 Z.toList n i (by simpa using hi)
  have hpos:0 < Z.size:=by
   rcases hz with h|h
   ·exact h
   ·subst h;simp at hi
  have hm:i % Z.size < Z.size:=Nat.mod_lt _ hpos
  simp only[Array.length_toList] at h1
  rw[h1]
  simp[hi,hm,getElem!_pos]
 ·have hlen:=JV Z.toList n
  simp only[Array.length_toList] at hlen
  rw[List.getElem?_eq_none (by simp;omega),List.getElem?_eq_none (by omega)]
theorem qx1 (n:Nat) (w:World):(askRoom n).run P w=.ok () w:=by unfold askRoom;split <;> simp
theorem qtk:Array.range 0=#[]:=rfl
theorem qe6 {x:AV} {n:Nat} {X:Value} (hx:VRel E x X) (h:ZX x=some n):(asInt X).run P w=.ok (n:Int) w:=by
 obtain⟨k,rfl⟩:=Ja hx h
 simp[asInt,asIntOf]
theorem Jw {n:Nat} (h:n≤1048576):IntKind.i64.wrap (n:Int)=n:=by
 unfold IntKind.wrap
 have hb:(IntKind.i64.bits)=64:=rfl
 have hs:IntKind.i64.signed=true:=rfl
 simp only[hb,hs,Bool.true_and]
 have h1:((n:Int) % (2 ^ 64:Int))=n:=Int.emod_eq_of_lt (by omega) (by omega)
 rw[h1]
 rw[if_neg (by simp;omega)]
theorem J9 {id b K len cap:Nat} {ex:Bool} (hlc:len≤cap) (hk:ex=false→cap≤K) :
  VRel (E.put id (b,0,K)) (.slice id 0 len 0 cap ex) (.slice (some ⟨b,0,none⟩) len (if ex then cap else K)):=by
 simp only[VRel]
 exact⟨_,Em.put_same _ _ _,by simp,hlc,fun h=>by simpa using hk h⟩
theorem WB (he:EnvOk e P) (hs:Sim w0 E s w) {t:TypeId} {l c v:AV} {L C:Value} (hl:VRel E l L) (hc:VRel E c C) {s':St} (h:Js e s t l c=some (v,s')):Acts P w0 E w (Instr.makeSlice t L C) v s':=by
 unfold Js at h
 split at h
 ·rename_i ti ln cn hti hln hcn
  obtain⟨inf,hinf,hu,_,_,_⟩:=he.ty _ _ hti
  split at h
  ·rename_i el hd
   rw[hd] at hu
   split at h
   ·rename_i eli z heli hz
    obtain⟨j,hj,_,hsz,hby,hzz⟩:=he.ty _ _ heli
    cases hcond:(Nat.ble ln cn&&Nat.ble (cn * eli.bytes) 1048576&&Nat.ble cn 1048576)&&(Nat.beq z.cells.length eli.size&&Nat.blt 0 eli.size) with
    | false=>simp[hcond] at h
    | true =>
     simp only[hcond,cond_true,Option.some.injEq,Prod.mk.injEq] at h
     obtain⟨rfl,rfl⟩:=h
     simp only[Bool.and_eq_true] at hcond
     have h1:=Nat.le_of_ble_eq_true hcond.1.1.1
     have h2:=Nat.le_of_ble_eq_true hcond.1.1.2
     have h3:=Nat.le_of_ble_eq_true hcond.1.2
     have h4:z.cells.length=eli.size:=by simpa [zT] using hcond.2.1
     have h5:0 < eli.size:=blt_iff.1 hcond.2.2
     obtain⟨Z,hZ,hzr⟩:=QT (E:=E) he hz w
     have hZc:=Z1 hZ
     have hZl:Z.cells.size=eli.size:=by have:=hZc.length;simp at this;omega
     obtain⟨g1,g2⟩:=Yu hs (K4 hZc cn) el 0 []
     refine⟨.slice (some ⟨w.heap.size,0,none⟩) ln cn,_,_,?_,g1,?_,g2⟩
     ·have hi1:=qe6 (P:=P) (w:=w) hl hln
      have hi2:=qe6 (P:=P) (w:=w) hc hcn
      have hzero:=K7 (Z:=Z.cells) (n:=cn) (.inl (by omega))
      have e1:(j.bytes:Int) * (cn:Int)≤1048576:=by
       have h2':((cn * eli.bytes:Nat):Int)≤1048576:=by omega
       rw[Int.natCast_mul,Int.mul_comm] at h2'
       rw[hby];exact h2'
      have hif:¬ ((decide ((cn:Int) < 0)||decide ((j.bytes:Int) * (cn:Int) > 2 ^ 48)||decide ((ln:Int) < 0)||decide ((ln:Int) > (cn:Int)))=true):=by
       simp only[Bool.or_eq_true,decide_eq_true_eq]
       omega
      unfold Instr.makeSlice
      simp only[Sem.run_bind,run_underlying hu,Result.andThen,hi1,hi2,run_typeInfo w hj,Jw h3,Jw (Nat.le_trans h1 h3)]
      rw[if_neg hif]
      have hsz2:j.size=Z.cells.size:=by omega
      simp only[Sem.run_bind,qx1,Result.andThen,zv hj,Int.toNat_natCast,hsz2]
      by_cases hc0:cn * Z.cells.size=0
      ·rw[if_pos hc0]
       have hcn0:cn=0:=by
        rcases Nat.mul_eq_zero.1 hc0 with h|h
        ·exact h
        ·omega
       subst hcn0
       simp[newRow,Wx,qtk]
      ·rw[if_neg hc0]
       simp only[Sem.run_bind,hzr,Result.andThen,Sem.run_pure]
       rw[hzero]
       simp[newRow]
     ·have:=J9 (E:=E) (id:=s.nx) (b:=w.heap.size) (K:=0) (ex:=true) h1 (by simp)
      simpa using this
   ·cases h
  ·cases h
 ·cases h
theorem W3 (he:EnvOk e P) (hs:Sim w0 E s w) {t:TypeId} {len:Nat} {parts:List (Nat × AV)} {PARTS:List (Nat × Value)} (hi:PARTS.map (·.1)=parts.map (·.1)) (hv:VRels E (parts.map (·.2)) (PARTS.map (·.2)))
  {v:AV} {s':St} (h:zq e s t len parts=some (v,s')):Acts P w0 E w (Instr.buildSlice t len PARTS.toArray) v s':=by
 unfold zq at h
 split at h
 ·rename_i ti hti
  obtain⟨inf,hinf,hu,_,_,_⟩:=he.ty _ _ hti
  split at h
  ·rename_i el hd
   rw[hd] at hu
   split at h
   ·rename_i eli z heli hz
    obtain⟨j,hj,_,hsz,hby,hzz⟩:=he.ty _ _ heli
    cases hcond:Nat.ble (len * eli.size) 100000&&(Nat.beq z.cells.length eli.size&&Nat.blt 0 eli.size) with
    | false=>simp[hcond] at h
    | true =>
     simp only[hcond,cond_true] at h
     simp only[Bool.and_eq_true] at hcond
     have h1:=Nat.le_of_ble_eq_true hcond.1
     have h4:z.cells.length=eli.size:=by simpa [zT] using hcond.2.1
     have h5:0 < eli.size:=blt_iff.1 hcond.2.2
     split at h
     ·rename_i cs hcs
      simp only[Option.some.injEq,Prod.mk.injEq] at h
      obtain⟨rfl,rfl⟩:=h
      obtain⟨Z,hZ,hzr⟩:=QT (E:=E) he hz w
      have hZc:=Z1 hZ
      have hZl:Z.cells.size=eli.size:=by have:=hZc.length;simp at this;omega
      obtain⟨R,hR,hf⟩:=Jv (K4 hZc len) hi hv hcs
      obtain⟨g1,g2⟩:=Yu hs hR el 0 []
      refine⟨.slice (some ⟨w.heap.size,0,none⟩) len len,_,_,?_,g1,?_,g2⟩
      ·have hzero:=K7 (Z:=Z.cells) (n:=len) (.inl (by omega))
       have hsz2:j.size=Z.cells.size:=by omega
       have hbig:¬ (len * j.size > 2 ^ 24):=by rw[hsz];omega
       unfold Instr.buildSlice
       simp only[Sem.run_bind,run_underlying hu,Result.andThen,zv hj]
       rw[if_neg hbig]
       by_cases hc0:len * j.size=0
       ·rw[if_pos hc0]
        have hl0:len=0:=by
         rcases Nat.mul_eq_zero.1 hc0 with h|h
         ·exact h
         ·omega
        subst hl0
        have hf':Instr.fill (fun i=>some (i * j.size,j.size)) #[] PARTS=some R.toArray:=by simpa [hsz,Wx] using hf
        simp[hf',newRow,qtk]
       ·rw[if_neg hc0]
        simp only[Sem.run_bind,hzr,Result.andThen,Sem.run_pure,hsz2]
        rw[hzero]
        have hf':Instr.fill (fun i=>some (i * Z.cells.size,Z.cells.size)) (Wx Z.cells.toList len).toArray PARTS=some R.toArray:=by rw[hZl];exact hf
        rw[hf']
        simp[newRow]
      ·have:=J9 (E:=E) (id:=s.nx) (b:=w.heap.size) (K:=0) (ex:=true) (Nat.le_refl len) (by simp)
       simpa using this
     ·cases h
   ·cases h
  ·cases h
 ·cases h
end Go.AX
namespace Go.AX
open Go.RowKit
variable {e:Env} {P:Program} {w0:World} {E:Em} {s:St} {w:World} {a:Ac} {A:Act}
theorem JE {b:List Nat} (hb:qO b):VRels E (Jn b) ((b.map UInt8.ofNat).map fun x=>Value.int .u8 x.toNat):=by
 unfold Jn
 induction b with
 | nil=>exact VRels.nil
 | cons c b ih =>
  simp only[List.map_cons]
  refine VRels.cons ?_ (ih fun x hx=>hb x (by simp[hx]))
  have hc:c < 256:=hb c (by simp)
  simp[VRel,Nat.mod_eq_of_lt hc]
theorem qld (he:EnvOk e P) (hs:Sim w0 E s w) {src dst:TypeId} {x v:AV} {X:Value} (hx:VRel E x X) {s':St} (h:qns e s src dst x=some (v,s')):Acts P w0 E w (convert src dst X) v s':=by
 unfold qns at h
 split at h
 ·rename_i si di b hsi hdi
  obtain⟨_,_,hu1,_⟩:=he.ty _ _ hsi
  obtain⟨_,_,hu2,_⟩:=he.ty _ _ hdi
  split at h
  ·rename_i el hd1 hd2
   rw[hd1] at hu1
   rw[hd2] at hu2
   split at h
   ·rename_i eli heli
    obtain⟨_,_,hu3,_⟩:=he.ty _ _ heli
    split at h
    ·rename_i hd3
     rw[hd3] at hu3
     simp only[Option.some.injEq,Prod.mk.injEq] at h
     obtain⟨rfl,rfl⟩:=h
     simp only[VRel] at hx
     obtain⟨hb,rfl⟩:=hx
     have hrun:=run_bytes_of_string (P:=P) w src dst el ⟨(b.map UInt8.ofNat).toArray⟩ hu1 hu2 hu3
     simp only[YE,List.length_map] at hrun
     have hge:=grownCap_ge w b.length 0 el
     generalize hG:grownCap w b.length 0 el=G at hrun hge
     have hs1:Sim w0 E s w.drew:=hs.drew
     have hle:=Em.le_put E s.nx (w.drew.heap.size,0,G) hs1.free
     refine⟨_,_,E.put s.nx (w.drew.heap.size,0,G),hrun,hle,?_,hs1.alloc ?_⟩
     ·have:=J9 (E:=E) (id:=s.nx) (b:=w.heap.size) (K:=G) (ex:=false) (Nat.le_refl b.length) (fun _=>hge)
      simpa using this
     ·simp only[ORel]
      refine⟨_,_,rfl,fun i v hv=>?_,⟨fun i _ hi=>by simp;omega,fun h0=>(by cases h0),fun _=>(by simp[bytesRow,YE];omega),fun _=>rfl⟩⟩
      obtain⟨V,hV,hr⟩:=(JE (E:=E) hb).get hv
      refine⟨V,?_,hr.mono hle⟩
      simp only[bytesRow,Nat.zero_add]
      rw[Array.getElem?_append_left (by have:=(List.getElem?_eq_some_iff.1 hV).1;simp at this ⊢;omega)]
      simpa using hV
    ·cases h
   ·cases h
  ·cases h
 ·cases h
theorem qkk (hs:Sim w0 E s w) {t:TypeId} (hu:P.underlying t=some .string) {b:List Nat} (hb:qO b):Acts P w0 E w (Instr.range t (Yp b)) (.ptr s.nx 0) (s.alloc (.siter b 0 b)):=by
 have hle:=Em.le_put E s.nx (w.heap.size,0,0) hs.free
 refine⟨_,_,_,run_range_string w t _ hu,hle,qb8,hs.alloc (K:=0) ?_⟩
 simp only[ORel]
 simp[hb]
theorem qpu (hs:Sim w0 E s w) {id:Nat} {b left:List Nat} {pos:Nat} (hg:s.h.get id=some (.siter b pos left)) {X:Value} (hx:VRel E (.ptr id 0) X) (ty:TypeId) :
  (left=[]→Acts P w0 E w (Instr.next X true ty) (.tuple [q8 false]) s) ∧
  (∀ c l,left=c::l→c < 128→Acts P w0 E w (Instr.next X true ty) (.tuple [q8 true,qa pos,.raw (.int .i32 (.ofNat c))]) { s with h:=s.h.set id (.siter b (pos+1) l) }):=by
 simp only[VRel] at hx
 obtain⟨p,hp,rfl⟩:=hx
 obtain⟨q,O,hq,hO,hrel,_⟩:=hs.obj id _ hg
 rw[hp] at hq;cases hq
 simp only[ORel] at hrel
 obtain⟨hb,rfl,hleft,hd⟩:=hrel
 have hX:(⟨p.1,p.2.1+0,none⟩:Addr)=⟨p.1,0,none⟩:=by rw[hd]
 rw[hX]
 have hget:(getObj p.1).run P w=.ok (.stringIter ⟨(b.map UInt8.ofNat).toArray⟩ pos) w:=by simp[getObj,Sem.run,hO]
 refine⟨fun hnil=>?_,fun c l hcl hc=>?_⟩
 ·have hpos:¬ pos < (⟨(b.map UInt8.ofNat).toArray⟩:ByteArray).size:=by
   rw[hnil] at hleft
   have:=congrArg List.length hleft
   simp[YE] at this ⊢
   omega
  refine⟨.tuple #[.bool false],w,E,?_,Em.le_refl E,?_,hs⟩
  ·simp[Instr.next,hget,hpos]
  ·simp only[VRel];exact⟨[.bool false],VRels.cons zW VRels.nil,rfl⟩
 ·have hcb:b[pos]?=some c:=by
   have:=congrArg (fun q=>q[0]?) hleft
   simp[hcl] at this
   exact this.symm
  have hlt:pos < b.length:=(List.getElem?_eq_some_iff.1 hcb).1
  have hlt':pos < (⟨(b.map UInt8.ofNat).toArray⟩:ByteArray).size:=by simpa [YE] using hlt
  have hval:((⟨(b.map UInt8.ofNat).toArray⟩:ByteArray)[pos]'hlt').toNat=c:=by
   have hcc:b[pos]=c:=(List.getElem?_eq_some_iff.1 hcb).2
   show ((b.map UInt8.ofNat).toArray[pos]'_).toNat=_
   simp[hcc];omega
  have hdec:=decode_ascii ⟨(b.map UInt8.ofNat).toArray⟩ pos hlt' (by rw[hval];exact hc)
  rw[hval] at hdec
  refine⟨.tuple #[.bool true,.int .i64 pos,.int .i32 c],_,E,?_,Em.le_refl E,?_,hs.puts hg hp (ZT (O':=.stringIter ⟨(b.map UInt8.ofNat).toArray⟩ (pos+1)) hO) ?_⟩
  ·simp[Instr.next,hget,hlt',hdec,goInt,setObj,Sem.run,hO]
  ·simp only[VRel];exact⟨[.bool true,.int .i64 pos,.int .i32 c],VRels.cons zW (VRels.cons QK (VRels.cons JL VRels.nil)),rfl⟩
  ·simp only[ORel]
   refine⟨hb,trivial,?_,hd⟩
   have:=congrArg List.tail hleft
   simpa [hcl,List.tail_drop] using this
theorem KO:∀ {n i:Nat},(zB n i).length=n
 | 0,_=>rfl
 | n+1,i=>by simp[zB,KO (n:=n)]
theorem K8:∀ {n i j:Nat},j < n→(zB n i)[j]?=some (i+j)
 | n+1,i,0,_=>by simp[zB]
 | n+1,i,j+1,h=>by
  simp only[zB,List.getElem?_cons_succ]
  rw[K8 (by omega)]
  congr 1
  omega
theorem MRels.length:∀ {es:List (AV × AV)} {L:List MapEntry},MRels E es L→L.length=es.length
 | [],L,h=>by simp only[MRels] at h;simp[h]
 | (k,v)::es,L,h=>by
  simp only[MRels] at h
  obtain⟨en,r,_,_,hr,rfl⟩:=h
  simp[MRels.length hr]
theorem qg2 (hs:Sim w0 E s w) {t key el:TypeId} (hu:P.underlying t=some (.map key el)) {m:Nat} {es:List (AV × AV)} {X:Value} (hx:VRel E (.map m) X) (hg:s.h.get m=some (.map es)) :
  Acts P w0 E w (Instr.range t X) (.ptr s.nx 0) { h:=(s.h.set s.nx (.miter m [])).set m (.rmap es s.nx (zB es.length 0)),nx:=s.nx+1 }:=by
 simp only[VRel] at hx
 obtain⟨pm,hpm,rfl⟩:=hx
 obtain⟨q,O,hq,hO,hrel,_⟩:=hs.obj m _ hg
 rw[hpm] at hq;cases hq
 simp only[ORel] at hrel
 obtain⟨en,ck,rfl,hM,hB⟩:=hrel
 let K:=qoj (ck::en.toList.map (·.born))
 have hcl:clN K=ck:=by simp[K,clN,qo5]
 have hst:stN K=en.toList.map (·.born):=by simp[K,stN,qo5]
 have hle:=Em.le_put E s.nx (w.heap.size,0,K) hs.free
 have hmn:m≠s.nx:=fun e=>by rw[e,hs.freeH] at hg;cases hg
 have h1:Sim w0 (E.put s.nx (w.heap.size,0,K)) (s.alloc (.miter m [])) (w.alloc (.mapIter (some pm.1) ck #[] ck)):=by
  refine hs.alloc ?_
  simp only[ORel]
  exact⟨pm,hle _ _ hpm,by simp[hcl],by rw[hst];exact hB.2,by simp,trivial⟩
 refine⟨_,_,_,run_range_map w t key el pm.1 en ck hu hO,hle,qb8,?_⟩
 have hg1:(s.alloc (.miter m [])).h.get m=some (.map es):=by
  simp only[St.alloc,Tr.get_set]
  rw[if_neg hmn]
  exact hg
 have hO1:(w.alloc (.mapIter (some pm.1) ck #[] ck)).heap[pm.1]?=some (.map en ck):=by
  rw[Below.heap_alloc _ _ _ (Array.getElem?_eq_some_iff.1 hO).1]
  exact hO
 refine h1.puts (o':=.rmap es s.nx (zB es.length 0)) hg1 (hle _ _ hpm) ⟨fun _ _=>rfl,hO1,rfl,rfl,rfl,rfl⟩ ?_
 simp only[ORel]
 refine⟨en,(w.heap.size,0,K),Em.put_same _ _ _,by rw[hcl],hM.mono hle,by rw[hcl];exact hB,?_,?_⟩
 ·refine List.ext_getElem? fun i=>?_
  simp only[List.getElem?_map]
  by_cases hi:i < es.length
  ·rw[K8 hi]
   have hi':i < en.toList.length:=by rw[hM.length];exact hi
   rw[List.getElem?_eq_getElem hi']
   simp only[Option.map_some,bth,hst,Nat.zero_add,Option.some.injEq]
   rw[List.getD_eq_getElem?_getD,List.getElem?_map,List.getElem?_eq_getElem hi']
   rfl
  ·rw[List.getElem?_eq_none (by rw[hM.length];omega),List.getElem?_eq_none (by rw[KO];omega)]
   rfl
 ·intro i hi
  obtain⟨j,hj⟩:=List.mem_iff_getElem?.1 hi
  have hjl:j < es.length:=by
   have:=(List.getElem?_eq_some_iff.1 hj).1
   rwa [KO] at this
  rw[K8 hjl] at hj
  cases hj
  rw[hst,List.length_map,hM.length]
  omega
theorem KD (hs:Sim w0 E s w) {x:AV} {X:Value} (hx:VRel E x X) {n len size:Nat} (hl:K5 x=some len) (hn:n≤len) {cs:List AV} (h:zI s size n x=some cs) :
  (∀ w':World,(Builtin.lenOf X).run P w'=.ok len w')∧∃ L:List Value,VRels E cs L∧∀ d,(Builtin.firstCells size n X).run P { w with drawn:=d }=.ok L.toArray { w with drawn:=d }:=by
 unfold zI at h
 split at h
 ·rename_i id off m ci cap ex
  simp only[K5,Option.some.injEq] at hl
  subst hl
  simp only[VRel] at hx
  obtain⟨p,hp,rfl,_⟩:=hx
  split at h
  ·rename_i cells _ _ hcs
   obtain⟨q,O,hq,hO,hrel,_⟩:=hs.obj id _ (zl hcs)
   rw[hp] at hq;cases hq
   obtain⟨L,h1,h2,h3⟩:=Kj hO hrel h
   refine⟨fun _=>by simp[Builtin.lenOf],L,h1,fun d=>?_⟩
   have hrun:=zF (P:=P) (w:={ w with drawn:=d }) (b:=p.1) (o:=p.2.1+off) L 0 #[] (fun j V hj=>by have:=h3 j V hj;simp only[Nat.add_zero];exact this)
   rw[h2] at hrun
   simpa [Builtin.firstCells,loadCells] using hrun
  ·split at h
   ·rename_i cells hcs
    obtain⟨q,O,hq,hO,hrel,_⟩:=hs.obj id _ (qev hcs)
    rw[hp] at hq;cases hq
    obtain⟨L,h1,h2,h3⟩:=qmo hO hrel h
    refine⟨fun _=>by simp[Builtin.lenOf],L,h1,fun d=>?_⟩
    have hrun:=zF (P:=P) (w:={ w with drawn:=d }) (b:=p.1) (o:=p.2.1+off) L 0 #[] (fun j V hj=>by have:=h3 j V hj;simp only[Nat.add_zero];exact this)
    rw[h2] at hrun
    simpa [Builtin.firstCells,loadCells] using hrun
   ·cases h
 ·rename_i id off ci l sz
  simp only[K5,Option.some.injEq] at hl
  subst hl
  simp only[Option.some.injEq] at h
  subst h
  obtain rfl:n=0:=by omega
  simp only[VRel] at hx
  obtain⟨p,hp,rfl⟩:=hx
  exact⟨fun _=>by simp[Builtin.lenOf],[],VRels.nil,fun d=>by simp[Builtin.firstCells,loadCells,loadCellsFrom]⟩
 ·simp only[Option.some.injEq] at h
  subst h
  simp only[VRel] at hx
  subst hx
  rename_i m c
  simp only[K5,Option.some.injEq] at hl
  subst hl
  exact⟨fun _=>by simp[Builtin.lenOf],[],VRels.nil,fun d=>by simp[Builtin.firstCells]⟩
 ·rename_i a c
  simp only[Option.some.injEq] at h
  subst h
  simp only[VRel] at hx
  subst hx
  simp only[K5,Option.some.injEq] at hl
  subst hl
  obtain rfl:n=0:=by omega
  exact⟨fun _=>by simp[Builtin.lenOf],[],VRels.nil,fun d=>by simp[Builtin.firstCells,loadCells,loadCellsFrom]⟩
 ·rename_i b
  simp only[K5,Option.some.injEq] at hl
  subst hl
  simp only[Option.some.injEq] at h
  subst h
  simp only[VRel] at hx
  obtain⟨hb,rfl⟩:=hx
  refine⟨fun _=>by simp[Builtin.lenOf,Yp,YE],_,JE (b:=b.take n) (fun c hc=>hb c (List.mem_of_mem_take hc)),fun d=>?_⟩
  have hex:=qaq b 0 n
  simp only[Builtin.firstCells,Yp,Sem.run_pure,hex]
  congr 1
  apply Array.ext'
  simp
 ·cases h
theorem qpy (he:EnvOk e P) (hs:Sim w0 E s w) {tys:List TypeId} {args:List AV} {L:List Value} (hx:VRels E args L) {v:AV} {s':St} {ty:TypeId} (h:qr7 e s tys args=some (v,s')) :
  Acts P w0 E w (Builtin.copy_ tys.toArray ty L.toArray) v s':=by
 unfold qr7 at h
 split at h
 ·rename_i t tys id off dl ci cap ex x
  simp only[VRels] at hx
  obtain⟨X,Xs,hx,⟨Y,Ys,hy,hnil,rfl⟩,rfl⟩:=hx
  subst hnil
  split at h
  ·rename_i ti hti
   obtain⟨inf,hinf,hu,_,_,_⟩:=he.ty _ _ hti
   split at h
   ·rename_i elem hd
    rw[hd] at hu
    split at h
    ·rename_i el xl hel hxl
     obtain⟨j,hj,_,hsz,_,_⟩:=he.ty _ _ hel
     dsimp only at h
     split at h
     ·rename_i cs hcs
      split at h
      ·rename_i s1 hst
       simp only[Option.some.injEq,Prod.mk.injEq] at h
       obtain⟨rfl,rfl⟩:=h
       obtain⟨hlen,M,hM,hfirst⟩:=KD (P:=P) hs hy hxl (Nat.min_le_left xl dl) hcs
       simp only[VRel] at hx
       obtain⟨p,hp,rfl,_⟩:=hx
       obtain⟨w',hr,hsim⟩:=Zu (P:=P) hs hp hM hst
       refine⟨_,w',E,?_,Em.le_refl E,QK,hsim⟩
       have hf:=hfirst w.drawn
       simp[Builtin.copy_,run_underlying hu,hlen,zv hj,hsz,hf,hr,goInt]
      ·cases h
     ·cases h
    ·cases h
   ·cases h
  ·cases h
 ·cases h
theorem qe1 (m:Nat):∀ (r c:Nat),c≤m→Builtin.growBy m r c≤2 * m+1000
 | 0,c,h=>by simp[Builtin.growBy];omega
 | r+1,c,h=>by
  unfold Builtin.growBy
  split
  ·omega
  ·by_cases h':c+(c+768) / 4≤m
   ·exact qe1 m r _ h'
   ·have:∀ r',Builtin.growBy m r' (c+(c+768) / 4)=c+(c+768) / 4:=fun r'=>by
     cases r' with
     | zero=>rfl
     | succ r'=>unfold Builtin.growBy;rw[if_pos (by omega)]
    rw[this];omega
theorem WV {need cap:Nat} (h:cap < need):Builtin.nextslicecap need cap≤2 * need+1000:=by
 unfold Builtin.nextslicecap
 split
 ·omega
 ·split
  ·omega
  ·exact qe1 need 4 cap (by omega)
structure App (P:Program) (w:World) (t xt ty el:TypeId) (i:TypeInfo) (z X:Value) (n:Nat) (L:List Value):Prop where
 room:∀ (b off sl sc:Nat) (w':World),sl+n≤sc→(storeCells ⟨b,off+sl * i.size,none⟩ L).run P w=.ok () w' →
  (Builtin.append_ #[t,xt] ty #[.slice (some ⟨b,off,none⟩) sl sc,X]).run P w=.ok (.slice (some ⟨b,off,none⟩) (sl+n) sc) w'
 nil0:n=0→(Builtin.append_ #[t,xt] ty #[.slice none 0 0,X]).run P w=.ok (.slice none 0 0) w
 grow:∀ (base:Option Addr) (sl sc:Nat) (olds:List Value),sc < sl+n→sl+n≤1048576→Builtin.nextslicecap (sl+n) sc * i.bytes≤281474976710656 →
  (Builtin.firstCells i.size sl (.slice base sl sc)).run P w.drew=.ok olds.toArray w.drew →
  (Builtin.append_ #[t,xt] ty #[.slice base sl sc,X]).run P w=.ok (.slice (some ⟨w.heap.size,0,none⟩) (sl+n) (grownCap w (sl+n) sc el))
   (w.drew.alloc (.cells ((olds++L).toArray++Builtin.zeroCells z.cells (grownCap w (sl+n) sc el - (sl+n))) el))
theorem qym {t xt ty el:TypeId} {i:TypeInfo} {z X:Value} {n:Nat} {L:List Value} (ht:P.underlying t=some (.slice el)) (hi:P.info? el=some i) (hz:i.zero=some z) (hs:Src P i.size xt X n L w):App P w t xt ty el i z X n L:=by
 refine⟨fun b off sl sc w' hle hst=>?_,fun hn=>?_,fun base sl sc olds hlt hn hb hold=>?_⟩
 ·rcases hs.kind with⟨e',hk⟩|hk <;> simp[Builtin.append_,run_underlying ht,run_underlying hk,sizeOf,typeInfo,hi,hs.len,hle,hs.cells,Addr.add_none,hst]
 ·subst hn
  rcases hs.kind with⟨e',hk⟩|hk <;> simp[Builtin.append_,run_underlying ht,run_underlying hk,sizeOf,typeInfo,hi,hs.len,hs.cells]
 ·exact run_append_grow_src (P:=P) w t xt ty el i z ht hi hz base sl sc olds hold X n L hs hlt (by omega) hb
theorem qps {t xt ty el:TypeId} {i:TypeInfo} {z:Value} {k k':IntKind} {n:Nat} (ht:P.underlying t=some (.slice el)) (hi:P.info? el=some i) (hz:i.zero=some z) (hk:P.underlying xt=some (.int k)) (hn:n≤1048576)
  (hb:n * i.bytes≤1048576) (hn0:0 < n) (hsz:z.cells.size=i.size) (hpos:0 < i.size):App P w t xt ty el i z (.int k' n) n (Wx z.cells.toList n):=by
 have hzc:∀ m,Builtin.zeroCells z.cells m=(Wx z.cells.toList m).toArray:=fun m=>by
  unfold Builtin.zeroCells
  exact K7 (.inl (by omega))
 have hneg:¬ ((n:Int) < 0):=by omega
 have hbig:¬ ((n:Int) * (i.bytes:Int) > 2 ^ 48):=by
  have h2':((n * i.bytes:Nat):Int)≤1048576:=by omega
  rw[Int.natCast_mul] at h2'
  omega
 have hbig':¬ (281474976710656 < (n:Int) * (i.bytes:Int)):=by omega
 have hne:¬ (n * i.size=0):=fun h0=>by
  rcases Nat.mul_eq_zero.1 h0 with h|h <;> omega
 refine⟨fun b off sl sc w' hle hst=>?_,fun hn0=>by omega,fun base sl sc olds hlt hn' hb' hold=>?_⟩
 ·unfold Builtin.append_
  simp[run_underlying ht,run_underlying hk,sizeOf,typeInfo,hi,asInt,asIntOf,Jw hn,hneg,hbig',hle,Addr.add_none,hne,Xe hi hz,hzc,hst]
 ·have hnle:¬ (sl+n≤sc):=by omega
  have h63':¬ (9223372036854775807 < ((sl:Int)+(n:Int))):=by omega
  have h48':¬ (281474976710656 < Builtin.nextslicecap (sl+n) sc * i.bytes):=by omega
  unfold Builtin.append_
  simp[run_underlying ht,run_underlying hk,sizeOf,typeInfo,hi,asInt,asIntOf,Jw hn,hneg,hbig',hnle,h63',h48',Question.forced,hold,newRow,grownCap,hne,Xe hi hz,hzc]
theorem q1c {n b:Nat} (h:n * b≤134217728) (hn:0 < n) {m:Nat} (hm:m≤2 * n+1000):m * b≤281474976710656:=by
 have h1:b≤n * b:=Nat.le_mul_of_pos_left b hn
 have h2:m * b≤(2 * n+1000) * b:=Nat.mul_le_mul_right b hm
 have h3:(2 * n+1000) * b=2 * (n * b)+1000 * b:=by rw[Nat.add_mul,Nat.mul_assoc]
 omega
theorem Vx {Z:Array Value} (h:0 < Z.size) (m:Nat):Builtin.zeroCells Z m=(Wx Z.toList m).toArray:=K7 (.inl h)
theorem qeb (hs:Sim w0 E s w) {t xt ty elem:TypeId} {i:TypeInfo} {el:TI} (hsz:i.size=el.size) (hby:i.bytes=el.bytes) {b v:AV} {Z B X:Value} (hb:VRel E b B) {n:Nat} {new:List AV} {L:List Value} (hnew:VRels E new L)
  (hZl:Z.cells.size=el.size) (hpos:0 < el.size) (hlen:new.length=n * el.size) (hone:new.all AV.one=true) (app:App P w t xt ty elem i Z X n L) {s':St} (h:ZZ s elem el b n new=some (v,s')) :
  Acts P w0 E w (Builtin.append_ #[t,xt] ty #[B,X]) v s':=by
 have hL:=hnew.length
 have hZr:∀ m,(Wx Z.cells.toList m).length=m * el.size:=fun m=>by rw[JV];simp[hZl]
 have hdbl:2 * el.size / 2=el.size:=by omega
 unfold ZZ at h
 split at h
 ·-- the nil slice
  simp only[VRel] at hb
  subst hb
  by_cases hn:n=0
  ·subst hn
   simp at h
   obtain⟨rfl,rfl⟩:=h
   exact⟨_,w,E,app.nil0 rfl,Em.le_refl E,JL,hs⟩
  ·have hnb:Nat.beq n 0=false:=by rw[zT];simpa using hn
   simp only[hnb,cond_false] at h
   cases hc:Nat.ble (n * el.bytes) 134217728&&Nat.ble n 1048576 with
   | false=>simp[hc] at h
   | true =>
    simp only[hc,cond_true,Option.some.injEq,Prod.mk.injEq] at h
    obtain⟨rfl,rfl⟩:=h
    simp only[Bool.and_eq_true] at hc
    have h1:=Nat.le_of_ble_eq_true hc.1
    have h2:=Nat.le_of_ble_eq_true hc.2
    have hrun:=app.grow none 0 0 [] (by omega) (by omega) (by rw[hby,Nat.zero_add];exact q1c h1 (by omega) (WV (by omega))) (by simp[Builtin.firstCells])
    simp only[Nat.zero_add,List.nil_append] at hrun
    have hge:=grownCap_ge w n 0 elem
    generalize grownCap w n 0 elem=G at hrun hge
    have hs1:Sim w0 E s w.drew:=hs.drew
    rw[Vx (by omega)] at hrun
    have hrow:(L.toArray++(Wx Z.cells.toList (G - n)).toArray)=(L++Wx Z.cells.toList (G - n)).toArray:=by simp
    rw[hrow] at hrun
    obtain⟨g1,g2⟩:=Jb (frz:=2 * el.size) hs1 hnew elem G (Wx Z.cells.toList (G - n)) (fun _=>by
     rw[hdbl,List.length_append,hZr,hL,hlen,← Nat.add_mul]
     exact Nat.mul_le_mul_right _ (by omega))
    refine⟨_,_,_,hrun,g1,?_,g2⟩
    have:=J9 (E:=E) (id:=s.nx) (b:=w.heap.size) (K:=G) (ex:=false) (Nat.le_refl n) (fun _=>hge)
    simpa using this
 ·rename_i id off len ci cap ex
  simp only[VRel] at hb
  obtain⟨p,hp,rfl,hlc,hcap⟩:=hb
  dsimp only at h
  split at h
  ·cases h
  ·rename_i cs el0 fz hcs
   have hg:=zl hcs
   obtain⟨q,O,hq,hO,hrel,hbase⟩:=hs.obj id _ hg
   rw[hp] at hq;cases hq
   obtain⟨C,hC⟩:∃ C,C=(if ex=true then cap else p.2.2 - ci):=⟨_,rfl⟩
   rw[← hC]
   have hcC:cap≤C:=by
    cases ex with
    | true=>simp[hC]
    | false=>simpa [hC] using hcap rfl
   cases hr:Nat.ble (len+n) cap with
   | true =>
    simp only[hr,cond_true] at h
    have hle:=Nat.le_of_ble_eq_true hr
    split at h
    ·rename_i s1 hst
     simp only[Option.some.injEq,Prod.mk.injEq] at h
     obtain⟨rfl,rfl⟩:=h
     obtain⟨w',hw',hsim⟩:=Zu (P:=P) hs hp hnew hst
     have hrun:=app.room p.1 (p.2.1+off) len C w' (by omega) (by rw[hsz,Nat.add_assoc];exact hw')
     refine⟨_,w',E,hrun,Em.le_refl E,?_,hsim⟩
     simp only[VRel]
     exact⟨p,hp,by rw[hC],hle,hcap⟩
    ·cases h
   | false =>
    simp only[hr,cond_false] at h
    have hgt:cap < len+n:=by
     rcases Nat.lt_or_ge cap (len+n) with h'|h'
     ·exact h'
     ·have:=Nat.ble_eq_true_of_le h';rw[hr] at this;cases this
    split at h
    ·cases h
    ·rename_i old hold
     cases hc:Nat.ble ((len+n) * el.bytes) 134217728&&Nat.ble (len+n) 1048576 with
     | false=>simp[hc] at h
     | true =>
      simp only[hc,cond_true] at h
      simp only[Bool.and_eq_true] at hc
      have h1:=Nat.le_of_ble_eq_true hc.1
      have h2:=Nat.le_of_ble_eq_true hc.2
      obtain⟨OL,hOL,hOLl,hOLc⟩:=Kj hO hrel hold
      have hfirst:(Builtin.firstCells i.size len (.slice (some ⟨p.1,p.2.1+off,none⟩) len C)).run P w.drew=.ok OL.toArray w.drew:=by
       have hrun:=zF (P:=P) (w:=w.drew) (b:=p.1) (o:=p.2.1+off) OL 0 #[] (fun j V hj=>by have:=hOLc j V hj;simp only[Nat.add_zero];exact this)
       rw[hOLl,← hsz] at hrun
       simpa [Builtin.firstCells,loadCells] using hrun
      have grown:C < len+n→Acts P w0 E w (Builtin.append_ #[t,xt] ty #[.slice (some ⟨p.1,p.2.1+off,none⟩) len C,X]) (.slice s.nx 0 (len+n) 0 (len+n) false) (s.alloc (.cells (old++new) elem (2 * el.size))):=fun hlt=>by
       have hrun:=app.grow (some ⟨p.1,p.2.1+off,none⟩) len C OL hlt h2 (by rw[hby];exact q1c h1 (by omega) (WV hlt)) hfirst
       have hge:=grownCap_ge w (len+n) C elem
       generalize grownCap w (len+n) C elem=G at hrun hge
       have hs1:Sim w0 E s w.drew:=hs.drew
       rw[Vx (by omega)] at hrun
       have hrow:((OL++L).toArray++(Wx Z.cells.toList (G - (len+n))).toArray)=((OL++L)++Wx Z.cells.toList (G - (len+n))).toArray:=by simp
       rw[hrow] at hrun
       obtain⟨g1,g2⟩:=Jb (frz:=2 * el.size) hs1 (hOL.append hnew) elem G (Wx Z.cells.toList (G - (len+n))) (fun _=>by
        rw[hdbl,List.length_append,List.length_append,hZr,hL,hlen,hOLl,← Nat.add_mul,← Nat.add_mul]
        exact Nat.mul_le_mul_right _ (by omega))
       refine⟨_,_,_,hrun,g1,?_,g2⟩
       have:=J9 (E:=E) (id:=s.nx) (b:=w.heap.size) (K:=G) (ex:=false) (Nat.le_refl (len+n)) (fun _=>hge)
       simpa using this
      cases ex with
      | true =>
       simp only[cond_true,Option.some.injEq,Prod.mk.injEq] at h
       obtain⟨rfl,rfl⟩:=h
       exact grown (by simp at hC;omega)
      | false =>
       simp only[cond_false] at h
       cases hcc:Nat.beq el0 elem&&(Nat.beq (fz / 2) el.size&&Nat.ble off (ci * el.size)) with
       | false=>simp[hcc] at h
       | true =>
        simp only[hcc,cond_true,Option.some.injEq,Prod.mk.injEq] at h
        obtain⟨rfl,rfl⟩:=h
        simp only[Bool.and_eq_true] at hcc
        have he0:el0=elem:=by simpa [zT] using hcc.1
        have hf2:fz / 2=el.size:=by simpa [zT] using hcc.2.1
        have hoff:=Nat.le_of_ble_eq_true hcc.2.2
        subst he0
        simp only[Bool.false_eq_true,if_false] at hC
        by_cases hin:len+n≤C
        ·-- in place
         have hrel':=hrel
         simp only[ORel] at hrel'
         obtain⟨D,f,rfl,hD,hF1,hF2,hF3,hF4⟩:=hrel'
         have hF3:=hF3 (by omega)
         rw[hf2] at hF3
         have hfits:p.2.1+off+(len+n) * el.size≤D.size:=by
          have e1:(len+n) * el.size≤(p.2.2 - ci) * el.size:=Nat.mul_le_mul_right _ (by omega)
          have e2:(p.2.2 - ci) * el.size+ci * el.size=p.2.2 * el.size:=by rw[← Nat.add_mul];congr 1;omega
          omega
         have e3:(len+n) * el.size=len * el.size+n * el.size:=Nat.add_mul _ _ _
         obtain⟨w',D',hw',hpu,hDs,hDg⟩:=Zw (P:=P) (b:=p.1) (o:=p.2.1+off+len * el.size) L 0 w D el0 f hO (by rw[hL,hlen];omega) (fun j h1 h2=>hF1 j (by omega) h2) (VS hnew hone)
         have hrun:=app.room p.1 (p.2.1+off) len C w' hin (by rw[hsz];exact hw')
         have hle:=Em.le_put E s.nx (p.1,p.2.1+off,C) hs.free
         refine⟨_,w',E.put s.nx (p.1,p.2.1+off,C),hrun,hle,?_,hs.moved hg hp rfl hpu ?_⟩
         ·simp only[VRel]
          exact⟨_,Em.put_same _ _ _,by simp,Nat.le_refl _,fun _=>by simpa using hin⟩
         ·simp only[ORel]
          refine⟨D',f,rfl,fun j u hu=>?_,fun j h1 h2=>hF1 j (by omega) (by omega),fun h0=>(by have:=hF2 h0;omega),fun _=>?_,fun h0=>(by omega)⟩
          ·have holdl:old.length=len * el.size:=(qjf hold).1
           by_cases hj:j < old.length
           ·rw[List.getElem?_append_left hj] at hu
            obtain⟨V,hV,hv⟩:=hOL.get hu
            refine⟨V,?_,hv.mono hle⟩
            have:=hOLc j V hV
            rw[X1 hO] at this
            rw[hDg,if_neg (by omega)]
            exact this
           ·rw[List.getElem?_append_right (by omega)] at hu
            obtain⟨V,hV,hv⟩:=hnew.get hu
            have hjl:=(List.getElem?_eq_some_iff.1 hV).1
            refine⟨V,?_,hv.mono hle⟩
            rw[hDg,if_pos (by omega),show p.2.1+off+j - (p.2.1+off+len * el.size+0)=j - old.length from by omega]
            exact hV
          ·rw[hf2,hDs,hC]
           have e2:(p.2.2 - ci) * el.size+ci * el.size=p.2.2 * el.size∨p.2.2 - ci=0:=by
            by_cases h0:p.2.2 - ci=0
            ·exact .inr h0
            ·left;rw[← Nat.add_mul];congr 1;omega
           rcases e2 with e2|e2
           ·show p.2.1+off+(p.2.2 - ci) * el.size≤D.size
            omega
           ·omega
        ·-- a new row,and the old name goes
         obtain⟨V,w',E',hrun,hle,hv,hsim⟩:=grown (by omega)
         refine⟨V,w',E',hrun,hle,hv,hsim.weak rfl fun j o' hj=>?_⟩
         have hidn:id≠s.nx:=by have:=hs.fresh _ _ hp;omega
         simp only[St.alloc,Tr.get_set,Tr.get_del] at hj ⊢
         by_cases hjn:j=s.nx
         ·rw[if_pos hjn] at hj ⊢
          simp only[Option.some.injEq] at hj
          subst hj
          refine⟨_,rfl,fun p O hO=>?_,fun cs hcs=>(by cases hcs)⟩
          simp only[ORel] at hO ⊢
          obtain⟨D,f,rfl,hD,hF1,hF2,hF3,hF4⟩:=hO
          exact⟨D,f,rfl,hD,hF1,fun _=>hF2 (by omega),fun _=>(by have:=hF3 (by omega);rw[hdbl] at this;rw[hf2];exact this),fun h0=>(by omega)⟩
         ·rw[if_neg hjn] at hj ⊢
          by_cases hji:j=id
          ·rw[if_pos hji] at hj;cases hj
          ·rw[if_neg hji] at hj
           exact⟨o',hj,fun _ _ h=>h,fun _ h=>h⟩
 ·cases h
theorem qhg (he:EnvOk e P) (hs:Sim w0 E s w) {tys:List TypeId} {args:List AV} {L:List Value} (hx:VRels E args L) {v:AV} {s':St} {ty:TypeId} (h:zO e s tys args=some (v,s')) :
  Acts P w0 E w (Builtin.append_ tys.toArray ty L.toArray) v s':=by
 unfold zO at h
 split at h
 ·rename_i st xt b x
  simp only[VRels] at hx
  obtain⟨B,Bs,hb,⟨X,Xs,hx,hnil,rfl⟩,rfl⟩:=hx
  subst hnil
  split at h
  ·rename_i sti xti hsti hxti
   obtain⟨_,_,hu,_⟩:=he.ty _ _ hsti
   obtain⟨_,_,hux,_⟩:=he.ty _ _ hxti
   split at h
   ·rename_i elem hd
    rw[hd] at hu
    split at h
    ·rename_i el z hel hz
     obtain⟨i,hi,_,hsz,hby,hzz⟩:=he.ty _ _ hel
     obtain⟨Z,hZ,hzr⟩:=QT (E:=E) he hz w
     have hZ':i.zero=some Z:=by
      unfold zt at hz
      simp only[hel] at hz
      split at hz
      ·rename_i u hu'
       have:=Xe (w:=w) hi (hzz.trans hu')
       rw[this] at hzr
       cases hzr
       exact hzz.trans hu'
      ·cases hz
     cases hc:Nat.beq z.cells.length el.size&&Nat.blt 0 el.size with
     | false=>simp[hc] at h
     | true =>
      simp only[hc,cond_true] at h
      simp only[Bool.and_eq_true] at hc
      have hzl:z.cells.length=el.size:=by simpa [zT] using hc.1
      have hpos:=blt_iff.1 hc.2
      have hZc:=Z1 hZ
      have hZl:Z.cells.size=el.size:=by have:=hZc.length;simp at this;omega
      have src:∀ (_:(∃ e',P.underlying xt=some (.slice e'))∨P.underlying xt=some .string),q4x s elem el b x=some (v,s')→Acts P w0 E w (Builtin.append_ #[st,xt] ty #[B,X]) v s':=fun hk h=>by
       unfold q4x at h
       split at h
       ·cases h
       ·rename_i n hl
        split at h
        ·cases h
        ·rename_i new hnew
         cases hc:Nat.beq new.length (n * el.size)&&new.all AV.one with
         | false=>simp[hc] at h
         | true =>
          simp only[hc,cond_true] at h
          simp only[Bool.and_eq_true] at hc
          have hlen:new.length=n * el.size:=by simpa [zT] using hc.1
          obtain⟨hlen',M,hM,hfirst⟩:=KD (P:=P) hs hx hl (Nat.le_refl n) hnew
          have hone:=VS hM hc.2
          have hsrc:Src P i.size xt X n M w:=⟨hk,hlen',by rw[hsz];exact hfirst w.drawn,by rw[hsz];exact hfirst (w.drawn+1),by rw[hM.length,hlen,hsz],fun u hu=>by
           have:=hone u hu
           cases u <;> simp[qux] at this <;> rfl⟩
          exact qeb hs hsz hby hb hM hZl hpos hlen hc.2 (qym hu hi hZ' hsrc) h
      split at h
      ·rename_i k hd'
       rw[hd'] at hux
       split at h
       ·rename_i n hn
        cases hc':Nat.ble (n * el.bytes) 1048576&&(Nat.ble n 1048576&&(Nat.blt 0 n&&z.cells.all AV.one)) with
        | false=>simp[hc'] at h
        | true =>
         simp only[hc',cond_true] at h
         simp only[Bool.and_eq_true] at hc'
         have h1:=Nat.le_of_ble_eq_true hc'.1
         have h2:=Nat.le_of_ble_eq_true hc'.2.1
         have h3:=blt_iff.1 hc'.2.2.1
         obtain⟨k',rfl⟩:=Ja hx hn
         have hall:(KA z.cells n).all AV.one=true:=by
          have:∀ m,(KA z.cells m).all AV.one=true:=fun m=>by
           induction m with
           | zero=>rfl
           | succ m ih=>simp only[KA,List.all_append,Bool.and_eq_true];exact⟨hc'.2.2.2,ih⟩
          exact this n
         exact qeb hs hsz hby hb (K4 hZc n) hZl hpos (by rw[KP,hzl]) hall (qps hu hi hZ' hux h2 (by rw[hby];exact h1) h3 (by omega) (by omega)) h
       ·cases h
      ·rename_i e' hd'
       exact src (.inl ⟨e',by rw[hd'] at hux;exact hux⟩) h
      ·rename_i hd'
       exact src (.inr (by rw[hd'] at hux;exact hux)) h
      ·cases h
    ·cases h
   ·cases h
  ·cases h
 ·cases h
end Go.AX
namespace Go.AX
open Go.RowKit
variable {e:Env} {P:Program} {w0:World} {E:Em} {s:St} {w:World} {a:Ac} {A:Act}
def qcz (P:Program) (w0:World) (E:Em) (w:World) (x:Sem Next) (v:AV) (s':St):Prop :=
 ∃ nx V w' E',x.run P w=.ok nx w'∧(nx=.value V∨(nx=.skip∧V=undef))∧E.le E'∧VRel E' v V∧Sim w0 E' s' w'
theorem Acts.value {x:Sem Value} {v:AV} {s':St} (h:Acts P w0 E w x v s'):qcz P w0 E w (do pure (Next.value (← x))) v s':=by
 obtain⟨V,w',E',hr,hle,hv,hs⟩:=h
 exact⟨.value V,V,w',E',by simp[hr],.inl rfl,hle,hv,hs⟩
theorem qwq {x:Sem Unit} {s':St} (h:∃ w',x.run P w=.ok () w'∧Sim w0 E s' w'):qcz P w0 E w (do x;pure .skip) zY s':=by
 obtain⟨w',hr,hs⟩:=h
 exact⟨.skip,undef,w',E,by simp[hr],.inr ⟨rfl,rfl⟩,Em.le_refl E,Z4,hs⟩
theorem YA {r:Option St} {v:AV} {s':St} (h:Kg r=some (v,s')):r=some s'∧v=zY:=by
 cases r <;> simp[Kg] at h;exact⟨by rw[h.2],h.1.symm⟩
set_option maxHeartbeats 1000000 in
theorem Wc (he:EnvOk e P) (hs:Sim w0 E s w) (ha:ARel E a A) {o:Oper} {v:AV} {s':St} (h:qbq e a s o=some (v,s')):qcz P w0 E w (execOp A.eval o) v s':=by
 obtain⟨dst,op,type,pos,after,guard⟩:=o
 cases op <;> simp only[qbq] at h
 case alloc t =>
  split at h
  ·rename_i z hz
   simp only[Option.some.injEq,Prod.mk.injEq] at h;obtain⟨rfl,rfl⟩:=h
   exact (qj6 he hs hz).value
  ·cases h
 case box t x =>
  simp only[Option.some.injEq,Prod.mk.injEq] at h;obtain⟨rfl,rfl⟩:=h
  exact (qqu hs (qw ha x) t).value
 case buildSlice t len parts =>
  have:=W3 (P:=P) he hs (qde parts.toList a.eval A.eval) (qfv ha parts.toList) h
  have hp:(parts.map fun (q:Nat × Operand)=>(q.1,A.eval q.2))=(parts.toList.map fun q=>(q.1,A.eval q.2)).toArray:=by
   apply Array.ext';simp
  simp only[execOp]
  rw[hp]
  exact this.value
 case store t x y =>
  obtain⟨hh,rfl⟩:=YA h
  exact qwq (qj0 he hs (qw ha x) (qw ha y) hh)
 case convert src dst x=>exact (qld he hs (qw ha x) h).value
 case makeMap t r =>
  split at h
  ·simp only[Option.some.injEq,Prod.mk.injEq] at h;obtain⟨rfl,rfl⟩:=h
   exact (qep hs t).value
  ·cases h
 case makeSlice t l c=>exact (WB he hs (qw ha l) (qw ha c) h).value
 case mapUpdate t m k x =>
  obtain⟨hh,rfl⟩:=YA h
  exact qwq (JC he hs (qw ha m) (qw ha k) (qw ha x) hh)
 case insert t m k x =>
  obtain⟨hh,rfl⟩:=YA h
  exact qwq (JC he hs (qw ha m) (qw ha k) (qw ha x) hh)
 case range t x =>
  split at h
  ·rename_i ti b hti hb
   obtain⟨_,_,hu,_⟩:=he.ty _ _ hti
   split at h
   ·rename_i hd
    rw[hd] at hu
    simp only[Option.some.injEq,Prod.mk.injEq] at h;obtain⟨rfl,rfl⟩:=h
    have hx:=qw ha x
    rw[hb] at hx
    simp only[VRel] at hx
    have:=(qkk (P:=P) hs hu hx.1).value
    rw[← hx.2] at this
    exact this
   ·cases h
  ·rename_i ti m hti hm
   obtain⟨_,_,hu,_⟩:=he.ty _ _ hti
   split at h
   ·rename_i key el es hd hg
    rw[hd] at hu
    simp only[Option.some.injEq,Prod.mk.injEq] at h;obtain⟨rfl,rfl⟩:=h
    have hx:=qw ha x
    rw[hm] at hx
    exact (qg2 (P:=P) hs hu hx hg).value
   ·cases h
  ·cases h
 case next it isS =>
  cases isS with
  | false=>cases h
  | true =>
   simp only at h
   split at h
   ·rename_i id hid
    have hx:=qw ha it
    rw[hid] at hx
    split at h
    ·rename_i b pos left hg
     obtain⟨n1,n2⟩:=qpu (P:=P) hs hg hx type
     split at h
     ·simp only[Option.some.injEq,Prod.mk.injEq] at h;obtain⟨rfl,rfl⟩:=h
      exact (n1 rfl).value
     ·rename_i c l
      cases hc:Nat.blt c 128 with
      | false=>simp[hc] at h
      | true =>
       simp only[hc,cond_true,Option.some.injEq,Prod.mk.injEq] at h;obtain⟨rfl,rfl⟩:=h
       exact (n2 c l rfl (blt_iff.1 hc)).value
    ·cases h
   ·cases h
 case call c =>
  obtain⟨callee,args,argTypes⟩:=c
  have hargs:args.map A.eval=(args.toList.map A.eval).toArray:=by apply Array.ext';simp
  split at h
  ·rename_i hcal
   simp only at hcal
   subst hcal
   have:=qhg (P:=P) (ty:=type) he hs (QI ha args.toList) h
   simp only[execOp,resolve,invoke,builtin,hargs]
   simpa using this.value
  ·rename_i hcal
   simp only at hcal
   subst hcal
   have:=qpy (P:=P) (ty:=type) he hs (QI ha args.toList) h
   simp only[execOp,resolve,invoke,builtin,hargs]
   simpa using this.value
  ·rename_i hcal
   simp only at hcal
   subst hcal
   obtain⟨hh,rfl⟩:=YA h
   obtain⟨w',hr,hs'⟩:=qf8 (P:=P) (ty:=type) he hs (QI ha args.toList) hh
   have:Acts P w0 E w (Builtin.delete_ argTypes.toList.toArray type (args.toList.map A.eval).toArray) zY s':=⟨undef,w',E,hr,Em.le_refl E,Z4,hs'⟩
   simp only[execOp,resolve,invoke,builtin,hargs]
   simpa using this.value
  ·cases h
 all_goals cases h
end Go.AX
namespace Go.AX
open Go.RowKit
def qub:Value→Value→Bool
 | .bool a,.bool b=>a==b
 | .int k a,.int l b=>decide (k=l)&&decide (a=b)
 | .float k a,.float l b=>decide (k=l)&&Nat.beq a b
 | .pointer none,.pointer none=>true
 | .slice none a b,.slice none c d=>Nat.beq a c&&Nat.beq b d
 | .map none,.map none=>true
 | .nilFunc,.nilFunc=>true
 | .nilIface,.nilIface=>true
 | _,_=>false
mutual
def beqA:AV→AV→Bool
 | .raw v,.raw u=>qub v u
 | .str x,.str y=>eqB x y
 | .ptr i o,.ptr j q=>Nat.beq i j&&Nat.beq o q
 | .slice i o l c k x,.slice i' o' l' c' k' x'=>Nat.beq i i'&&(Nat.beq o o'&&(Nat.beq l l'&&(Nat.beq c c'&&(Nat.beq k k'&&(x==x')))))
 | .esl i o c l z,.esl i' o' c' l' z'=>Nat.beq i i'&&(Nat.beq o o'&&(Nat.beq c c'&&(Nat.beq l l'&&Nat.beq z z')))
 | .map i,.map j=>Nat.beq i j
 | .fn f c,.fn g d=>Nat.beq f g&&Zr c d
 | .yld i,.yld j=>Nat.beq i j
 | .iface t v,.iface u x=>Nat.beq t u&&beqA v x
 | .agg c,.agg d=>Zr c d
 | .tuple c,.tuple d=>Zr c d
 | _,_=>false
def Zr:List AV→List AV→Bool
 | [],[]=>true
 | v::vs,u::us=>beqA v u&&Zr vs us
 | _,_=>false
end

def qt2:List (AV × AV)→List (AV × AV)→Bool
 | [],[]=>true
 | (k,v)::l,(k',v')::r=>beqA k k'&&(beqA v v'&&qt2 l r)
 | _,_=>false
def WA:AO→AO→Bool
 | .cells c e f,.cells c' e' f'=>Zr c c'&&(Nat.beq e e'&&Nat.beq f f')
 | .map es,.map es'=>qt2 es es'
 | .old c,.old c'=>Zr c c'
 | _,_=>false
theorem beq_eq {a b:Nat} (h:Nat.beq a b=true):a=b:=Nat.eq_of_beq_eq_true h
theorem qx6 {v u:Value} (h:qub v u=true):v=u:=by
 unfold qub at h
 split at h <;> simp only[Bool.and_eq_true,decide_eq_true_eq,beq_iff_eq,Bool.false_eq_true] at h
 ·rw[h]
 ·obtain⟨rfl,rfl⟩:=h;rfl
 ·obtain⟨rfl,h⟩:=h;rw[beq_eq h]
 ·rfl
 ·rw[beq_eq h.1,beq_eq h.2]
 ·rfl
 ·rfl
 ·rfl
mutual
theorem qbe:∀ (v u:AV),beqA v u=true→v=u:=fun v u h=>by
 cases v <;> cases u <;> simp only[beqA,Bool.and_eq_true,beq_iff_eq,Bool.false_eq_true] at h
 ·rw[qx6 h]
 ·rw[qG] at h;rw[of_decide_eq_true h]
 ·rw[beq_eq h.1,beq_eq h.2]
 ·obtain⟨h1,h2,h3,h4,h5,h6⟩:=h;rw[beq_eq h1,beq_eq h2,beq_eq h3,beq_eq h4,beq_eq h5,h6]
 ·obtain⟨h1,h2,h3,h4,h5⟩:=h;rw[beq_eq h1,beq_eq h2,beq_eq h3,beq_eq h4,beq_eq h5]
 ·rw[beq_eq h]
 ·rw[beq_eq h.1,Ji _ _ h.2]
 ·rw[beq_eq h]
 ·rw[beq_eq h.1,qbe _ _ h.2]
 ·rw[Ji _ _ h]
 ·rw[Ji _ _ h]
theorem Ji:∀ (v u:List AV),Zr v u=true→v=u:=fun v u h=>by
 cases v <;> cases u <;> simp only[Zr,Bool.and_eq_true,Bool.false_eq_true] at h
 ·rfl
 ·rw[qbe _ _ h.1,Ji _ _ h.2]
end

theorem ql7:∀ {l r:List (AV × AV)},qt2 l r=true→l=r
 | [],[],_=>rfl
 | [],_::_,h=>by simp[qt2] at h
 | _::_,[],h=>by simp[qt2] at h
 | (k,v)::l,(k',v')::r,h=>by
  simp only[qt2,Bool.and_eq_true] at h
  rw[qbe _ _ h.1,qbe _ _ h.2.1,ql7 h.2.2]
theorem qys {o o':AO} (h:WA o o'=true):o=o':=by
 unfold WA at h
 split at h
 ·simp only[Bool.and_eq_true] at h
  rw[Ji _ _ h.1,beq_eq h.2.1,beq_eq h.2.2]
 ·rw[ql7 h]
 ·rw[Ji _ _ h]
 ·cases h
structure Tasks where
 code:Option Nat→Code→Ac→St→(AE→Ac→St→Bool)→Bool
 call:FuncId→List AV→St→(AV→St→Bool)→(AV→St→Bool)→Bool
def qbp:Tasks:={ code:=fun _ _ _ _ _=>false,call:=fun _ _ _ _ _=>false }
structure Prims where
 ext:FuncId→List AV→St→Option (AV × St)
 fn:FuncId→List AV→St→Option (AV × St)
def zN (a:Ac) (dst:Option Tmp) (v:AV) (s:St) (k:Ac→St→Bool):Bool :=
 match a.put dst v with
 | some a'=>k a' s
 | none=>false
def Z6:Tr AV→Nat→List Tmp→List AV→Option (Tr AV)
 | t,_,[],[]=>some t
 | t,n,p::ps,v::vs=>bif Nat.blt p n then Z6 (t.set p v) n ps vs else none
 | _,_,_,_=>none
def Qn:Tr AV→Nat→List AV→Tr AV
 | t,_,[]=>t
 | t,i,v::vs=>Qn (t.set i v) (i+1) vs
def Xr (s:St) (id:Nat) (jump:Option Code):Option St :=
 match s.h.get id with
 | some (.loop _ _ fn t n ps as b d)=>some { s with h:=s.h.set id (.loop (match jump with|none=>.ready|some _=>.done) jump fn t n ps as b d) }
 | _=>none
def qb2 (s:St) (id:Nat) (jump:Option Code) (b:Bool) (k:AV→St→Bool):Bool :=
 match Xr s id jump with
 | some s'=>k (q8 b) s'
 | none=>false
def ZO (r:Tasks) (id:Nat) (args:List AV) (s:St) (k:AV→St→Bool):Bool :=
 match s.h.get id with
 | some (.loop _ _ _ t n ps as body _) =>
  match Z6 t n ps args with
  | some t' =>
   r.code (some id) as { t:=t',n:=n,d:=[] } s fun ex a1 s1 =>
    match ex with
    | .normal =>
     match s1.h.get id with
     | some (.loop .ready pd fn t n ps as b d) =>
      r.code (some id) body a1 { s1 with h:=s1.h.set id (.loop .busy pd fn t n ps as b d) } fun ex _ s2 =>
       match ex with
       | .normal=>qb2 s2 id none true k
       | .ret=>qb2 s2 id (some .ret) false k
       | .exit j=>qb2 s2 id (some (.exit j)) false k
       | .goto j=>qb2 s2 id (some (.goto j)) false k
       | .panic _=>false
     | _=>false
    | _=>false
  | none=>false
 | _=>false
def QB (s:St):List Nat→Bool
 | []=>true
 | id::l=>match s.h.get id with
  | some _=>QB s l
  | none=>false
def Kk (s:St) (x:AV) (k:AV→St→Bool):Bool :=
 match x with
 | .ptr id 0=>match s.h.get id with
  | some (.miter m seen)=>match s.h.get m with
   | some (.rmap es it ix)=>bif Nat.beq it id then (match zE seen es ix with
     | []=>k (.tuple [q8 false]) { s with h:=s.h.set m (.map es) }
     | q::l=>(q::l).all fun q=>k (.tuple [q8 true,q.2.1,q.2.2]) { s with h:=s.h.set id (.miter m (q.1::seen)) })
    else false
   | _=>false
  | _=>false
 | _=>false
def zA (e:Env) (o:Oper) (a:Ac) (s:St) (k:Ac→St→Bool):Bool :=
 match zp e a s o with
 | some (v,ids)=>bif QB s ids then zN a o.dst v s k else false
 | none=>match qbq e a s o with
  | some (v,s')=>zN a o.dst v s' k
  | none=>false
def QC (e:Env) (pr:Prims) (r:Tasks) (rd:Option Nat) (o:Oper) (a:Ac) (s:St) (k:Ac→St→Bool) (kp:AV→St→Bool):Bool :=
 match o.op with
 | .panic x=>match a.eval x with
  | .iface t v=>kp (.iface t v) s
  | _=>false
 | .defer c=>match rd,c.callee with
  | none,.value f=>match a.eval f with
   | .fn g cap=>zN { a with d:=.call g (c.args.toList.map a.eval++cap)::a.d } o.dst zY s k
   | _=>false
  | _,_=>false
 | .call c=>match c.callee with
  | .value f=>match a.eval f with
   | .fn g cap =>
    match pr.ext g (c.args.toList.map a.eval++cap) s with
    | some (v,s')=>zN a o.dst v s' k
    | none =>
     match pr.fn g (c.args.toList.map a.eval++cap) s with
     | some (v,s')=>zN a o.dst v s' k
     | none=>r.call g (c.args.toList.map a.eval++cap) s (fun v s'=>zN a o.dst v s' k) kp
   | .yld id=>ZO r id (c.args.toList.map a.eval) s (fun v s'=>zN a o.dst v s' k)
   | _=>false
  | _=>zA e o a s k
 | .next it false=>Kk s (a.eval it) (fun v s'=>zN a o.dst v s' k)
 | _=>zA e o a s k
def Qd (all:List Oper) (a:Ac) (o:Oper):Option Bool :=
 match o.guard with
 | none=>some true
 | some (j,want)=>match all[j]? with
  | some oj=>match oj.dst with
   | some d=>match a.t.get d with
    | some (.raw (.bool b))=>some (b==want)
    | some (.raw (.tuple _))=>some false
    | _=>none
   | none=>none
  | none=>none
def V7 (e:Env) (pr:Prims) (r:Tasks) (rd:Option Nat) (all:List Oper):List Oper→Ac→St→(AE→Ac→St→Bool)→Bool
 | [],a,s,k=>k .normal a s
 | o::l,a,s,k =>
  match Qd all a o with
  | some true=>QC e pr r rd o a s (fun a' s'=>V7 e pr r rd all l a' s' k) (fun v s'=>k (.panic v) a s')
  | some false=>zN a o.dst zY s (fun a' s'=>V7 e pr r rd all l a' s' k)
  | none=>false
def Jj (e:Env):Op→Bool
 | .move _ | .assign _ | .pick .. | .build .. | .load .. | .nilCheck _ | .binOp .. | .unOp .. | .fieldAddr .. | .field .. | .indexAddr .. | .index .. | .lookup .. | .extract .. | .typeAssert .. | .makeFunc .. | .slice .. | .makeInterface ..=>true
 | .convert _ dst _=>match e.info dst with
  | some ti=>match ti.desc with
   | .slice _=>false
   | _=>true
  | none=>false
 | .call c=>match c.callee with
  | .builtin .len=>true
  | .builtin .cap=>true
  | .builtin .min=>true
  | .builtin .max=>true
  | _=>false
 | _=>false
def Za (e:Env) (ops:Array Oper) (listed:Array Bool):List Nat→Option (Nat × Oper)
 | []=>none
 | i::l=>match ops[i]? with
  | some o=>bif Jj e o.op&&Region.free .any ops listed i then some (i,o) else Za e ops listed l
  | none=>Za e ops listed l
def ZH (s s':St):List Nat→Bool
 | []=>true
 | id::l=>match s.h.get id,s'.h.get id with
  | some o,some o'=>bif WA o o' then ZH s s' l else false
  | _,_=>false
def qcv (ops:Array Oper):Nat→Nat→Nat→Bool
 | 0,_,_=>false
 | n+1,j,i=>match ops[j]? with
  | some o=>o.after.toList.any fun ed=>Region.binds .any ed&&(Nat.beq ed.on i||qcv ops n ed.on i)
  | none=>false
def YU (ops:Array Oper) (j:Nat) (s s':St):List (Nat × List Nat)→Bool
 | []=>true
 | (i,ids)::l=>bif qcv ops 8 j i||ZH s s' ids then YU ops j s s' l else false
def VL (ops:Array Oper) (j:Nat):List (Nat × List Nat)→List (Nat × List Nat)
 | []=>[]
 | (i,ids)::l=>bif qcv ops 8 j i then VL ops j l else (i,ids)::VL ops j l
def Vm (e:Env) (pr:Prims) (r:Tasks) (rd:Option Nat) (ops:Array Oper):Nat→Array Bool→List (Nat × List Nat)→Ac→St→(Ac→St→Bool)→(AV→Ac→St→Bool)→Bool
 | 0,listed,_,a,s,k,_=>match Region.ready .any ops listed with
  | []=>k a s
  | _=>false
 | f+1,listed,held,a,s,k,kp =>
  match Region.ready .any ops listed with
  | []=>k a s
  | i0::rs =>
   match Za e ops listed (i0::rs) with
   | some (i,o) =>
    match Qd ops.toList a o with
    | some true=>match zp e a s o with
     | some (v,ids)=>bif QB s ids then zN a o.dst v s (fun a' s'=>Vm e pr r rd ops f (listed.setIfInBounds i true) (match ids with | []=>held|_::_=>(i,ids)::held) a' s' k kp) else false
     | none=>false
    | some false=>zN a o.dst zY s (fun a' s'=>Vm e pr r rd ops f (listed.setIfInBounds i true) held a' s' k kp)
    | none=>false
   | none=>(i0::rs).all fun i=>match ops[i]? with
    | some o=>match Qd ops.toList a o with
     | some true=>QC e pr r rd o a s (fun a' s'=>bif YU ops i s s' held then Vm e pr r rd ops f (listed.setIfInBounds i true) (VL ops i held) a' s' k kp else false) (fun v s'=>kp v a s')
     | some false=>zN a o.dst zY s (fun a' s'=>Vm e pr r rd ops f (listed.setIfInBounds i true) held a' s' k kp)
     | none=>false
    | none=>false
def VM:List Oper→Bool
 | []=>true
 | o::l=>match o.op with
  | .select ..=>false
  | _=>VM l
def Yl:Tr AV→List Oper→Tr AV
 | t,[]=>t
 | t,o::l=>match o.dst with
  | some d=>Yl (t.del d) l
  | none=>Yl t l
def qb (e:Env) (a:Ac) (s:St):List ResultVar→Option (List AV)
 | []=>some []
 | .tmp t::l=>match a.t.get t,qb e a s l with
  | some v,some vs=>some (v::vs)
  | _,_=>none
 | .cell p t::l=>match a.t.get p with
  | some (.ptr id off)=>match s.h.get id,Q3 e s t (.ptr id off),qb e a s l with
   | some _,some v,some vs=>some (v::vs)
   | _,_,_=>none
  | _=>none
def q7 (e:Env) (fn:Func) (a:Ac) (s:St):Option AV :=
 match qb e a s fn.results.toList with
 | some [v]=>some v
 | some vs=>some (.tuple vs)
 | none=>none
def YT (e:Env) (all:List Oper):List Oper→Ac→St→(Ac→St→Bool)→Bool
 | [],a,s,k=>k a s
 | o::l,a,s,k =>
  match Qd all a o with
  | some true=>zA e o a s (fun a' s'=>YT e all l a' s' k)
  | some false=>zN a o.dst zY s (fun a' s'=>YT e all l a' s' k)
  | none=>false
def YX:Op→Bool
 | .call c=>match c.callee with
  | .builtin .recover=>true
  | _=>false
 | _=>false
def Zp (e:Env) (r:Tasks):Nat→Code→Ac→Option (AV × Bool)→St→(AE→Ac→Option (AV × Bool)→St→Bool)→Bool
 | 0,_,_,_,_,_=>false
 | n+1,c,a,pn,s,k =>
  match c with
  | .seq x y=>Zp e r n x a pn s fun ex a' pn' s'=>match ex with
   | .normal=>Zp e r n y a' pn' s' k
   | ex=>k ex a' pn' s'
  | .cond c x y=>match a.eval c with
   | .raw (.bool b)=>Zp e r n (bif b then x else y) a pn s k
   | _=>false
  | .region _ ops dr =>
   match dr,ops.toList with
   | false,o::l =>
    bif YX o.op then
     match o.guard with
     | none=>match pn with
      | some (v,false)=>zN a o.dst v s (fun a' s'=>YT e ops.toList l a' s' (fun a'' s''=>k .normal a'' (some (v,true)) s''))
      | none=>zN a o.dst (.raw .nilIface) s (fun a' s'=>YT e ops.toList l a' s' (fun a'' s''=>k .normal a'' none s''))
      | _=>false
     | some _=>false
    else r.code none c a s (fun ex a' s'=>k ex a' pn s')
   | _,_=>r.code none c a s (fun ex a' s'=>k ex a' pn s')
  | c=>r.code none c a s (fun ex a' s'=>k ex a' pn s')
def Zb:Option (AV × Bool)→Option AV
 | none=>none
 | some (v,b)=>bif b then none else some v
def zw (e:Env) (r:Tasks) (fn:Func) (a:Ac) (kr kp:AV→St→Bool):List AD→Option AV→St→Bool
 | [],none,s=>match q7 e fn a s with
  | some v=>kr v s
  | none=>false
 | [],some v,s=>kp v s
 | .mark id::ds,pn,s=>match s.h.get id with
  | some (.dfr false)=>zw e r fn a kr kp ds pn { s with h:=s.h.set id (.dfr true) }
  | _=>false
 | .call g args::ds,pn,s =>
  match e.fn.get g with
  | some gf=>match gf.body with
   | some c =>
    Zp e r 100 c { t:=Qn .e 0 args,n:=Nat.max gf.ntmps args.length,d:=[] } (pn.map (·,false)) s fun ex a' pn' s' =>
     match a'.d,q7 e gf a' s' with
     | [],some _ =>
      match ex with
      | .normal=>zw e r fn a kr kp ds (Zb pn') s'
      | .ret=>zw e r fn a kr kp ds (Zb pn') s'
      | _=>false
     | _,_=>false
   | none=>false
  | none=>false
def step (e:Env) (pr:Prims) (r:Tasks):Tasks:={
 code:=fun rd c a s k =>
  match c with
  | .skip=>k .normal a s
  | .label _=>k .normal a s
  | .exit id=>k (.exit id) a s
  | .goto l=>k (.goto l) a s
  | .ret=>k .ret a s
  | .seq x y=>r.code rd x a s fun ex a' s'=>match ex with
   | .normal=>r.code rd y a' s' k
   | ex=>k ex a' s'
  | .cond c x y=>match a.eval c with
   | .raw (.bool b)=>r.code rd (bif b then x else y) a s k
   | _=>false
  | .block id c=>r.code rd c a s fun ex a' s'=>match ex with
   | .exit id'=>bif Nat.beq id' id then k .normal a' s' else k (.exit id') a' s'
   | ex=>k ex a' s'
  | .loop c=>r.code rd c a s fun ex a' s'=>match ex with
   | .normal=>r.code rd (.loop c) a' s' k
   | ex=>k ex a' s'
  | .scope c=>r.code rd c a s fun ex a' s'=>match ex with
   | .goto _=>false
   | ex=>k ex a' s'
  | .region _ ops dr=>match dr with
   | false=>V7 e pr r rd ops.toList ops.toList a s k
   | true=>bif VM ops.toList then Vm e pr r rd ops ops.size (Array.replicate ops.size false) [] a s (fun a' s'=>k .normal a' s') (fun v a' s'=>k (.panic v) { a' with t:=Yl a'.t ops.toList } s') else false
  | .rangeFunc f ps as body=>match rd with
   | some _=>false
   | none=>match a.eval f with
    | .fn g cap =>
     r.call g (.yld (s.nx+1)::cap) { h:=(s.h.set s.nx (.dfr false)).set (s.nx+1) (.loop .ready none 0 a.t a.n ps.toList as body s.nx),nx:=s.nx+2 } (fun _ s2 =>
      match s2.h.get (s.nx+1) with
      | some (.loop st pd fn t n ps as b dd) =>
       match st with
       | .busy=>false
       | _=>match pd with
        | none=>k .normal { a with d:=.mark s.nx::a.d } { s2 with h:=s2.h.set (s.nx+1) (.loop .exhausted pd fn t n ps as b dd) }
        | some j=>r.code rd j { a with d:=.mark s.nx::a.d } { s2 with h:=s2.h.set (s.nx+1) (.loop .exhausted pd fn t n ps as b dd) } k
      | _=>false) (fun _ _=>false)
    | _=>false
  | .refuse _=>false
 call:=fun f args s kr kp =>
  match e.fn.get f with
  | some fn=>match fn.body with
   | some c=>r.code none c { t:=Qn .e 0 args,n:=Nat.max fn.ntmps args.length,d:=[] } s fun ex a' s' =>
    match ex with
    | .normal=>zw e r fn a' kr kp a'.d none s'
    | .ret=>zw e r fn a' kr kp a'.d none s'
    | .panic v=>zw e r fn a' kr kp a'.d (some v) s'
    | _=>false
   | none=>false
  | none=>false }
def ev (e:Env) (pr:Prims):Nat→Tasks
 | 0=>qbp
 | n+1=>step e pr (ev e pr n)
def q87 (P:Program) (i:TypeInfo):TI :=
 {desc:=match i.desc with
   | .named _ u=>match P.info? u with|some j=>j.desc|none=>.invalid
   | d=>d
  size:=i.size,bytes:=i.bytes,zero:=i.zero }
def q6m (P:Program):Tr TI:=Tr.ofListF 40 (P.types.toList.map (q87 P))
def q8u (P:Program):Tr Func:=Tr.ofListF 40 P.funcs.toList
def qwt (P:Program):Env:={ P,ty:=q6m P,fn:=q8u P }
end Go.AX
namespace Go.AX
def Y2 (x:List Nat):List (List Nat)→List (List Nat)
 | []=>[x]
 | y::l=>bif ltB x y then x::y::l else y::Y2 x l
def Qq:List (List Nat)→List (List Nat)
 | []=>[]
 | x::l=>Y2 x (Qq l)
def qo (sep:List Nat):List (List Nat)→List Nat
 | []=>[]
 | [a]=>a
 | a::l=>a++(sep++qo sep l)
def qgn:List AV→Option (List (List Nat))
 | []=>some []
 | .str b::l=>match qgn l with|some r=>some (b::r)|none=>none
 | _=>none
def qlc:List (AV × AV)→Option (List (List Nat))
 | []=>some []
 | (.str b,_)::l=>match qlc l with|some r=>some (b::r)|none=>none
 | _=>none
def WO (s:St):AV→Option (List (List Nat))
 | .slice id off len _ _ _ =>
  match qY s id with
  | some (cs,_,_)=>match ZF off len cs with
   | some l=>qgn l
   | none=>none
  | none=>none
 | .raw (.slice none 0 _)=>some []
 | .esl ..=>some []
 | _=>none
def qJ:List Nat→Nat→Nat→Option Nat
 | [],_,_=>none
 | a::l,c,i=>bif Nat.beq a c then some i else qJ l c (i+1)
def qsv:List (List Nat)→Bool
 | x::y::l=>bif ltB x y then qsv (y::l) else false
 | _=>true
structure PN where
 indexByte:Nat
 join:Nat
 rep:Nat
 sorted:Nat
 keys:Nat
 tyStr:Nat
 anyOf:Nat
def zi (_:List Nat):Bool:=true
def qny (c:Nat):List Nat→Bool
 | []=>false
 | x::l=>bif Nat.beq c x then true else qny c l
def qf1 (chars:List Nat):List Nat→Bool
 | []=>false
 | c::l=>bif qny c chars then true else qf1 chars l
def qdd (b:List Nat):Nat→List Nat
 | 0=>[]
 | n+1=>b++qdd b n
def Xc:List (List Nat)→Bool
 | []=>true
 | x::l=>bif Nat.ble x.length 1000000 then Xc l else false
def qho (p:PN) (s:St) (l:List (List Nat)):Option (AV × St) :=
 bif qsv l&&Nat.ble l.length 1000000&&Xc l then some (.slice s.nx 0 l.length 0 l.length false,s.alloc (.cells (l.map .str) p.tyStr 2)) else none
def qra (p:PN) (f:FuncId) (args:List AV) (s:St):Option (AV × St) :=
 bif Nat.beq f p.indexByte then (match args with
  | [.str b,.raw (.int .u8 (.ofNat c))]=>bif Nat.blt c 256 then some (match qJ b c 0 with|some i=>qa i|none=>qa (-1),s) else none
  | _=>none)
 else none
def qu2 (p:PN) (f:FuncId) (args:List AV) (s:St):Option (AV × St) :=
 bif Nat.beq f p.join then (match args with
  | [x,.str sep]=>match WO s x with
   | some l=>bif Nat.ble (qo sep l).length 1000000&&Nat.ble l.length 1000000 then some (.str (qo sep l),s) else none
   | none=>none
  | _=>none)
 else bif Nat.beq f p.rep then (match args with
  | [.str b,.raw (.int .i64 (.ofNat n))]=>bif Nat.ble (b.length * n) 1000000&&Nat.ble n 1000000 then some (.str (qdd b n),s) else none
  | _=>none)
 else bif Nat.beq f p.sorted then (match args with
  | [.fn g [.ptr id 0]]=>bif Nat.beq g p.keys then (match s.h.get id with
   | some (.cells [.map m] _ 0)=>match s.h.get m with
    | some (.map es)=>match qlc es with
     | some []=>some (.raw (.slice none 0 0),s)
     | some ks=>qho p s (Qq ks)
     | none=>none
    | _=>none
   | _=>none) else none
  | _=>none)
 else bif Nat.beq f p.anyOf then (match args with
  | [.str b,.str cs]=>bif eqB cs [47,0]&&Nat.ble b.length 1000000 then some (q8 (qf1 cs b),s) else none
  | _=>none)
 else none
def Kh:AV→Bool
 | .raw (.bool b)=>b
 | _=>false
def zc (p:PN):Prims:={ ext:=qra p,fn:=qu2 p }
end Go.AX
