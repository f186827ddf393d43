/-
  No cell of these rows narrows 'for every input' (looked for: loops, veiled, ifaces, maps, wideKeys, modest, calm, conditions, laid).
  DERIVED. THE GIVEN ROWS OF THIS SEAT. 5 by the template 'for every input the law returns true; each argument reads behind the call as it read before'; 0 by the template 'total and deterministic' (their statements: YtkcbaokljkalcaaGreatTotals.lean).
  GIVEN WITH THE SEED: the statements are not yours to turn. If you find one false, say at which input.
  Laid BY PROGRAM, IN A SANDBOX (cutbox-rows.mjs): the forced cells as the released guide's own fill.sh prints them over the translation fb079043012da83b… (all of the seat's roots in one cut). By AI agents, Wed Nov 11 2026. No macro, syntax, notation, axiom, sorry.
-/
import Derived.Test.YtkcbaokljkalcaaGreatChecked
import GoSem.Claim
import GoSem.ClaimJoined
import GoSem.ClaimMapViews
import Derived.JoinedTies
import Derived.KernelRfl
namespace Go.Proofs.YtkcbaokljkalcaaGreat
/- THE CELL 'sum', in the pinned program and in every row, IS THE sha256 OF THE DUMP (.gsa) THAT YtkcbaokljkalcaaGreatProg.lean LOADS. Nothing in Lean hashes anything: it is a label: what it is worth is what the hold of that sum in a sandbox is worth. -/
noncomputable def Tryz.pinned : Pinned := { name := "ytkcbaokljkalcaagreat", sum := "fb079043012da83b3dda32f8e86fe1bc2b2831d2251ca3965cb9e255b206d232", checked := Tryz.checked }
namespace Rows
def none {H : Type} : Left H := { results := [], args := [] }

/-- 'oriellaw16.UnionBytes': WHATEVER THE INPUT: true; the input reads as it did. -/
def unionBytesSpec : ChangeSpec := { name := "unionBytes", fn := fun _ => fun
  | [d1, d2] => { results := [.lit (.bool true)], args := [d1, d2] }
  | _ => none }
def unionBytesRow : OpenClaim := { program := "ytkcbaokljkalcaagreat", sum := "fb079043012da83b3dda32f8e86fe1bc2b2831d2251ca3965cb9e255b206d232", func := "oriel/oriellaw16.UnionBytes", spec := "unionBytes", inPlace := ["internal/bytealg.IndexByteString", "internal/bytealg.IndexString", "internal/abi.NoEscape", "internal/bytealg.MakeNoZero"], unfollowed := true, recurses := true, named := ["internal/bytealg.MaxLen"], apart := false }
def UnionBytesSaid : Prop := unionBytesRow.holds Tryz.pinned (OpenSpec.ofChange unionBytesSpec)

/-- ITS FALSE NEIGHBOUR: 'it returns false'. Refute it at one input. -/
def unionBytesWrong : ChangeSpec := { name := "unionBytes", fn := fun _ => fun
  | [d1, d2] => { results := [.lit (.bool false)], args := [d1, d2] }
  | _ => none }
def UnionBytesWrongFalsely : Prop := unionBytesRow.holds Tryz.pinned (OpenSpec.ofChange unionBytesWrong)

/-- 'oriellaw16.UnionUppers': WHATEVER THE INPUT: true; the input reads as it did. -/
def unionUppersSpec : ChangeSpec := { name := "unionUppers", fn := fun _ => fun
  | [d1, d2] => { results := [.lit (.bool true)], args := [d1, d2] }
  | _ => none }
def unionUppersRow : OpenClaim := { program := "ytkcbaokljkalcaagreat", sum := "fb079043012da83b3dda32f8e86fe1bc2b2831d2251ca3965cb9e255b206d232", func := "oriel/oriellaw16.UnionUppers", spec := "unionUppers", inPlace := ["internal/bytealg.IndexByteString", "internal/bytealg.IndexString", "internal/abi.NoEscape", "internal/bytealg.MakeNoZero"], unfollowed := true, recurses := true, named := ["internal/bytealg.MaxLen"], apart := false }
def UnionUppersSaid : Prop := unionUppersRow.holds Tryz.pinned (OpenSpec.ofChange unionUppersSpec)

/-- ITS FALSE NEIGHBOUR: 'it returns false'. Refute it at one input. -/
def unionUppersWrong : ChangeSpec := { name := "unionUppers", fn := fun _ => fun
  | [d1, d2] => { results := [.lit (.bool false)], args := [d1, d2] }
  | _ => none }
def UnionUppersWrongFalsely : Prop := unionUppersRow.holds Tryz.pinned (OpenSpec.ofChange unionUppersWrong)

/-- 'oriellaw16.UnionCalls': WHATEVER THE INPUT: true; the input reads as it did. -/
def unionCallsSpec : ChangeSpec := { name := "unionCalls", fn := fun _ => fun
  | [d1, d2] => { results := [.lit (.bool true)], args := [d1, d2] }
  | _ => none }
def unionCallsRow : OpenClaim := { program := "ytkcbaokljkalcaagreat", sum := "fb079043012da83b3dda32f8e86fe1bc2b2831d2251ca3965cb9e255b206d232", func := "oriel/oriellaw16.UnionCalls", spec := "unionCalls", inPlace := ["internal/bytealg.IndexByteString", "internal/bytealg.IndexString", "internal/abi.NoEscape", "internal/bytealg.MakeNoZero"], unfollowed := true, recurses := true, named := ["internal/bytealg.MaxLen"], apart := false }
def UnionCallsSaid : Prop := unionCallsRow.holds Tryz.pinned (OpenSpec.ofChange unionCallsSpec)

/-- ITS FALSE NEIGHBOUR: 'it returns false'. Refute it at one input. -/
def unionCallsWrong : ChangeSpec := { name := "unionCalls", fn := fun _ => fun
  | [d1, d2] => { results := [.lit (.bool false)], args := [d1, d2] }
  | _ => none }
def UnionCallsWrongFalsely : Prop := unionCallsRow.holds Tryz.pinned (OpenSpec.ofChange unionCallsWrong)

/-- 'oriellaw16.UnionApart': WHATEVER THE INPUT: true; the input reads as it did. -/
def unionApartSpec : ChangeSpec := { name := "unionApart", fn := fun _ => fun
  | [d1, d2, d3] => { results := [.lit (.bool true)], args := [d1, d2, d3] }
  | _ => none }
def unionApartRow : OpenClaim := { program := "ytkcbaokljkalcaagreat", sum := "fb079043012da83b3dda32f8e86fe1bc2b2831d2251ca3965cb9e255b206d232", func := "oriel/oriellaw16.UnionApart", spec := "unionApart", inPlace := ["internal/bytealg.IndexByteString", "internal/bytealg.IndexString", "internal/abi.NoEscape", "internal/bytealg.MakeNoZero"], unfollowed := true, recurses := true, named := ["internal/bytealg.MaxLen"], apart := false }
def UnionApartSaid : Prop := unionApartRow.holds Tryz.pinned (OpenSpec.ofChange unionApartSpec)

/-- ITS FALSE NEIGHBOUR: 'it returns false'. Refute it at one input. -/
def unionApartWrong : ChangeSpec := { name := "unionApart", fn := fun _ => fun
  | [d1, d2, d3] => { results := [.lit (.bool false)], args := [d1, d2, d3] }
  | _ => none }
def UnionApartWrongFalsely : Prop := unionApartRow.holds Tryz.pinned (OpenSpec.ofChange unionApartWrong)

/-- 'oriellaw16.UnionMoves': WHATEVER THE INPUT: true; the input reads as it did. -/
def unionMovesSpec : ChangeSpec := { name := "unionMoves", fn := fun _ => fun
  | [d1, d2] => { results := [.lit (.bool true)], args := [d1, d2] }
  | _ => none }
def unionMovesRow : OpenClaim := { program := "ytkcbaokljkalcaagreat", sum := "fb079043012da83b3dda32f8e86fe1bc2b2831d2251ca3965cb9e255b206d232", func := "oriel/oriellaw16.UnionMoves", spec := "unionMoves", inPlace := ["internal/bytealg.IndexByteString", "internal/bytealg.IndexString", "internal/abi.NoEscape", "internal/bytealg.MakeNoZero"], unfollowed := true, recurses := true, named := ["internal/bytealg.MaxLen"], apart := false }
def UnionMovesSaid : Prop := unionMovesRow.holds Tryz.pinned (OpenSpec.ofChange unionMovesSpec)

/-- ITS FALSE NEIGHBOUR: 'it returns false'. Refute it at one input. -/
def unionMovesWrong : ChangeSpec := { name := "unionMoves", fn := fun _ => fun
  | [d1, d2] => { results := [.lit (.bool false)], args := [d1, d2] }
  | _ => none }
def UnionMovesWrongFalsely : Prop := unionMovesRow.holds Tryz.pinned (OpenSpec.ofChange unionMovesWrong)

/- THE SECOND FORM. 'bulk': how many values and letters a reading holds, each counted each time it is reached (what is shared counts as often as it is met; a slice's spare places count too). A statement '..UptoSaid' is the law's where the arguments, and the package variables that the reading takes, are together of bulk at most 1048576: NARROWER than '..Said'. Prove '..Said' where nothing that the law and all that it calls make is longer than what came in: it says more and counts as full. Else prove '..UptoSaid'. A law counts once. -/
mutual
def uptoBulk {H : Type} : DataW H → Nat
  | .lit (.string bytes) => bytes.length + 1
  | .lit _ => 1
  | .nil => 1
  | .ptr d => uptoBulk d + 1
  | .slice elems spare => uptoBulkAll elems + uptoBulkAll spare + 1
  | .agg parts => uptoBulkAll parts + 1
  | .iface _ d => uptoBulk d + 1
  | .map entries => uptoBulkEntries entries + 1
  | .held _ => 1
def uptoBulkAll {H : Type} : List (DataW H) → Nat
  | [] => 0
  | d :: r => uptoBulk d + uptoBulkAll r
def uptoBulkEntries {H : Type} : List (Lit × DataW H) → Nat
  | [] => 0
  | x :: r => uptoBulkEntry x + uptoBulkEntries r
def uptoBulkEntry {H : Type} : Lit × DataW H → Nat
  | (.string bytes, d) => bytes.length + uptoBulk d + 1
  | (_, d) => uptoBulk d + 1
 end
def uptoSmall : (H : Type) → List (DataW H) → Bool := fun _ ds => decide (uptoBulkAll ds ≤ 1048576)
def OpenSpec.upto (s : _root_.Go.ChangeSpec) : _root_.Go.OpenSpec := { _root_.Go.OpenSpec.ofChange s with cond := some uptoSmall }

/-- 'oriellaw16.UnionBytes', WHERE WHAT IT READS IS OF BULK AT MOST 1048576: true; the input reads as it did. -/
def unionBytesUptoRow : OpenClaim := { program := "ytkcbaokljkalcaagreat", sum := "fb079043012da83b3dda32f8e86fe1bc2b2831d2251ca3965cb9e255b206d232", func := "oriel/oriellaw16.UnionBytes", spec := "unionBytes", inPlace := ["internal/bytealg.IndexByteString", "internal/bytealg.IndexString", "internal/abi.NoEscape", "internal/bytealg.MakeNoZero"], unfollowed := true, recurses := true, named := ["internal/bytealg.MaxLen"], apart := false, narrowed := true }
def UnionBytesUptoSaid : Prop := unionBytesUptoRow.holds Tryz.pinned (OpenSpec.upto unionBytesSpec)

/-- 'oriellaw16.UnionUppers', WHERE WHAT IT READS IS OF BULK AT MOST 1048576: true; the input reads as it did. -/
def unionUppersUptoRow : OpenClaim := { program := "ytkcbaokljkalcaagreat", sum := "fb079043012da83b3dda32f8e86fe1bc2b2831d2251ca3965cb9e255b206d232", func := "oriel/oriellaw16.UnionUppers", spec := "unionUppers", inPlace := ["internal/bytealg.IndexByteString", "internal/bytealg.IndexString", "internal/abi.NoEscape", "internal/bytealg.MakeNoZero"], unfollowed := true, recurses := true, named := ["internal/bytealg.MaxLen"], apart := false, narrowed := true }
def UnionUppersUptoSaid : Prop := unionUppersUptoRow.holds Tryz.pinned (OpenSpec.upto unionUppersSpec)

/-- 'oriellaw16.UnionCalls', WHERE WHAT IT READS IS OF BULK AT MOST 1048576: true; the input reads as it did. -/
def unionCallsUptoRow : OpenClaim := { program := "ytkcbaokljkalcaagreat", sum := "fb079043012da83b3dda32f8e86fe1bc2b2831d2251ca3965cb9e255b206d232", func := "oriel/oriellaw16.UnionCalls", spec := "unionCalls", inPlace := ["internal/bytealg.IndexByteString", "internal/bytealg.IndexString", "internal/abi.NoEscape", "internal/bytealg.MakeNoZero"], unfollowed := true, recurses := true, named := ["internal/bytealg.MaxLen"], apart := false, narrowed := true }
def UnionCallsUptoSaid : Prop := unionCallsUptoRow.holds Tryz.pinned (OpenSpec.upto unionCallsSpec)

/-- 'oriellaw16.UnionApart', WHERE WHAT IT READS IS OF BULK AT MOST 1048576: true; the input reads as it did. -/
def unionApartUptoRow : OpenClaim := { program := "ytkcbaokljkalcaagreat", sum := "fb079043012da83b3dda32f8e86fe1bc2b2831d2251ca3965cb9e255b206d232", func := "oriel/oriellaw16.UnionApart", spec := "unionApart", inPlace := ["internal/bytealg.IndexByteString", "internal/bytealg.IndexString", "internal/abi.NoEscape", "internal/bytealg.MakeNoZero"], unfollowed := true, recurses := true, named := ["internal/bytealg.MaxLen"], apart := false, narrowed := true }
def UnionApartUptoSaid : Prop := unionApartUptoRow.holds Tryz.pinned (OpenSpec.upto unionApartSpec)

/-- 'oriellaw16.UnionMoves', WHERE WHAT IT READS IS OF BULK AT MOST 1048576: true; the input reads as it did. -/
def unionMovesUptoRow : OpenClaim := { program := "ytkcbaokljkalcaagreat", sum := "fb079043012da83b3dda32f8e86fe1bc2b2831d2251ca3965cb9e255b206d232", func := "oriel/oriellaw16.UnionMoves", spec := "unionMoves", inPlace := ["internal/bytealg.IndexByteString", "internal/bytealg.IndexString", "internal/abi.NoEscape", "internal/bytealg.MakeNoZero"], unfollowed := true, recurses := true, named := ["internal/bytealg.MaxLen"], apart := false, narrowed := true }
def UnionMovesUptoSaid : Prop := unionMovesUptoRow.holds Tryz.pinned (OpenSpec.upto unionMovesSpec)

end Rows
end Go.Proofs.YtkcbaokljkalcaaGreat
