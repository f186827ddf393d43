import Derived.Test.YtnkhohbgihfapaaGreatDoorOn2C2
set_option linter.unusedVariables false
set_option linter.unusedSimpArgs false
set_option linter.defProp false
namespace Go.AX
open Go.Proofs Go.RowKit
set_option maxRecDepth 1000000
set_option maxHeartbeats 40000000
set_option linter.unusedSimpArgs false
structure Mv where
  u : Nat
  old : List Nat
  j : Nat
  v : Nat
  nm : List Nat
  y : Option Nat
def yT (T : Nodes) (cwd : Nat) (dir : Bool) (k : Nat) : Option (Option Nat) := match T k with
  | none => none
  | some kd => some (bif dir && !decide (kd.kind = 1) then some 3 else bif !dir && decide (kd.kind = 1) then some 4 else bif !kd.kids.isEmpty then some 6 else bif Nat.beq k cwd then some 13 else none)
def fitT (T : Nodes) (v : Nat) (nm : List Nat) (j : Nat) : Option Bool := match deepT T 20 v with
  | none => none
  | some d => match pathT T 20 v with
    | none => none
    | some pv => bif Nat.ble d 900 && (Nat.ble (pv.length + nm.length) 1000000 && Nat.ble (joinP pv nm).length 100000) then
        (bif fitsB (d + 1) (joinP pv nm).length then eachT T (d + 1) (joinP pv nm).length 20 j [] else some false)
      else none
def renE (T : Nodes) (cwd u : Nat) (old : List Nat) (j : Nat) (jd : Nd) (v : Nat) (nm : List Nat) (y : Option Nat) : Option (Nat ⊕ Option Mv) :=
  match (bif decide (jd.kind = 1) then belowT T j 20 v else some false) with
  | none => none
  | some true => some (.inl 5)
  | some false => match (match y with | none => some none | some k => yT T cwd (decide (jd.kind = 1)) k) with
    | none => none
    | some (some n) => some (.inl n)
    | some none => match fitT T v nm j with
      | none => none
      | some false => some (.inl 8)
      | some true => bif Nat.beq j u || Nat.beq j v then none else some (.inr (some ⟨u, old, j, v, nm, y⟩))
def renT (T : Nodes) (root cwd : Nat) (b b2 : List Nat) : Option (Nat ⊕ Option Mv) := match placeT T root cwd b with
  | none => none
  | some (.inr n) => some (.inl n)
  | some (.inl (u, old)) => match placeT T root cwd b2 with
    | none => none
    | some (.inr n) => some (.inl n)
    | some (.inl (v, nm)) => match T u with
      | none => none
      | some ud => match T v with
        | none => none
        | some vd => match lookK old ud.kids with
          | none => some (.inl 1)
          | some j => match T j with
            | none => none
            | some jd => match lookK nm vd.kids with
              | none => renE T cwd u old j jd v nm none
              | some k => match T k with
                | none => none
                | some _ => bif Nat.beq k j then some (.inr none) else renE T cwd u old j jd v nm (some k)
def lessK (u v : Nat) (old : List Nat) (ud vd : Nd) : Nd := bif Nat.beq u v then { ud with kids := eraseK old ud.kids } else vd
end Go.AX
