import Derived.Test.YtnaelolekokhbaaGreatAxEx
import Derived.KernelRfl
namespace Go.AX
def insSort (x : List Nat) : List (List Nat) → List (List Nat)
  | [] => [x]
  | y :: l => bif ltB x y then x :: y :: l else y :: insSort x l
def sortL : List (List Nat) → List (List Nat)
  | [] => []
  | x :: l => insSort x (sortL l)
def joinL (sep : List Nat) : List (List Nat) → List Nat
  | [] => []
  | [a] => a
  | a :: l => a ++ (sep ++ joinL sep l)
def strsL : List AV → Option (List (List Nat))
  | [] => some []
  | .str b :: l => match strsL l with | some r => some (b :: r) | none => none
  | _ => none
def keysL : List (AV × AV) → Option (List (List Nat))
  | [] => some []
  | (.str b, _) :: l => match keysL l with | some r => some (b :: r) | none => none
  | _ => none
def strsOf (s : St) : AV → Option (List (List Nat))
  | .slice id off len _ _ _ =>
    match getCells s id with
    | some (cs, _, _) => match cutL off len cs with
      | some l => strsL l
      | none => none
    | none => none
  | .raw (.slice none 0 _) => some []
  | .esl .. => some []
  | _ => none
def findByte : List Nat → Nat → Nat → Option Nat
  | [], _, _ => none
  | a :: l, c, i => bif Nat.beq a c then some i else findByte l c (i + 1)
def isPre : List Nat → List Nat → Bool
  | [], _ => true
  | a :: l, b :: r => bif Nat.beq a b then isPre l r else false
  | _, _ => false
def findSub (sub : List Nat) : List Nat → Nat → Option Nat
  | [], i => bif sub.isEmpty then some i else none
  | c :: t, i => bif isPre sub (c :: t) then some i else findSub sub t (i + 1)
def incB : List (List Nat) → Bool
  | x :: y :: l => bif ltB x y then incB (y :: l) else false
  | _ => true
structure PN where
  indexByte : Nat
  join : Nat
  rep : Nat
  sorted : Nat
  keys : Nat
  tyStr : Nat
  anyOf : Nat
def asciiB : List Nat → Bool
  | [] => true
  | c :: l => bif Nat.blt c 128 then asciiB l else false
def memB (c : Nat) : List Nat → Bool
  | [] => false
  | x :: l => bif Nat.beq c x then true else memB c l
/-- Is a byte of a text one of some bytes? -/
def anyB (chars : List Nat) : List Nat → Bool
  | [] => false
  | c :: l => bif memB c chars then true else anyB chars l
def repB (b : List Nat) : Nat → List Nat
  | 0 => []
  | n + 1 => b ++ repB b n
def shortL : List (List Nat) → Bool
  | [] => true
  | x :: l => bif Nat.ble x.length 1000000 then shortL l else false
def sortedA (p : PN) (s : St) (l : List (List Nat)) : Option (AV × St) :=
  bif incB l && Nat.ble l.length 1000000 && shortL l then some (.slice s.nx 0 l.length 0 l.length false, s.alloc (.cells (l.map .str) p.tyStr 2)) else none
def primE (p : PN) (f : FuncId) (args : List AV) (s : St) : Option (AV × St) :=
  bif Nat.beq f p.indexByte then (match args with
    | [.str b, .raw (.int .u8 (.ofNat c))] => bif Nat.blt c 256 then some (match findByte b c 0 with | some i => intA i | none => intA (-1), s) else none
    | _ => none)
  else none
def primF (p : PN) (f : FuncId) (args : List AV) (s : St) : Option (AV × St) :=
  bif Nat.beq f p.join then (match args with
    | [x, .str sep] => match strsOf s x with
      | some l => bif Nat.ble (joinL sep l).length 1000000 && Nat.ble l.length 1000000 then some (.str (joinL sep l), s) else none
      | none => none
    | _ => none)
  else bif Nat.beq f p.rep then (match args with
    | [.str b, .raw (.int .i64 (.ofNat n))] => bif Nat.ble (b.length * n) 1000000 && Nat.ble n 1000000 then some (.str (repB b n), s) else none
    | _ => none)
  else bif Nat.beq f p.sorted then (match args with
    | [.fn g [.ptr id 0]] => bif Nat.beq g p.keys then (match s.h.get id with
      | some (.cells [.map m] _ 0) => match s.h.get m with
        | some (.map es) => match keysL es with
          | some [] => some (.raw (.slice none 0 0), s)
          | some ks => sortedA p s (sortL ks)
          | none => none
        | _ => none
      | _ => none) else none
    | _ => none)
  else bif Nat.beq f p.anyOf then (match args with
    | [.str b, .str cs] => bif asciiB b && (asciiB cs && (Nat.ble b.length 1000000 && Nat.ble cs.length 1000000)) then some (boolA (anyB cs b), s) else none
    | _ => none)
  else none
def isTrue : AV → Bool
  | .raw (.bool b) => b
  | _ => false
def primsOf (p : PN) : Prims := { ext := primE p, fn := primF p }
def runs (P : Program) (p : PN) (fuel f : Nat) (args : List AV) : Bool :=
  (ev (envOf P) (primsOf p) fuel).call f args { h := .e, nx := 0 } (fun v _ => isTrue v) (fun _ _ => false)
end Go.AX
