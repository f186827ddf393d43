/-
  No cell of these rows narrows 'for every input' (looked for: loops, veiled, ifaces, maps, wideKeys, modest, calm, conditions, laid).
  DERIVED. THE GIVEN ROWS OF THIS SEAT. 18 by the template 'for every input the law returns true; each argument reads behind the call as it read before'; 0 by the template 'total and deterministic' (their statements: YtonblmbbnlmhhaaGreatTotals.lean).
  GIVEN WITH THE SEED: the statements are not yours to turn. If you find one false, say at which input.
  Laid BY PROGRAM, IN A SANDBOX (cutbox-rows.mjs): the forced cells as the released guide's own fill.sh prints them over the translation 21e9acca5e713923… (all of the seat's roots in one cut). By AI agents, Wed Nov 11 2026. No macro, syntax, notation, axiom, sorry.
-/
import Derived.Test.YtonblmbbnlmhhaaGreatChecked
import GoSem.Claim
import GoSem.ClaimJoined
import GoSem.ClaimMapViews
import Derived.JoinedTies
import Derived.KernelRfl
namespace Go.Proofs.YtonblmbbnlmhhaaGreat
/- THE CELL 'sum', in the pinned program and in every row, IS THE sha256 OF THE DUMP (.gsa) THAT YtonblmbbnlmhhaaGreatProg.lean LOADS. Nothing in Lean hashes anything: it is a label: what it is worth is what the hold of that sum in a sandbox is worth. -/
noncomputable def Tryz.pinned : Pinned := { name := "ytonblmbbnlmhhaagreat", sum := "21e9acca5e7139236a42f40bb2e8b3d4da61d0367f2587978683f423f18cbf23", checked := Tryz.checked }
namespace Rows
def none {H : Type} : Left H := { results := [], args := [] }

/-- 'oriellaw16.UnionCreates': WHATEVER THE INPUT: true; the input reads as it did. -/
def unionCreatesSpec : ChangeSpec := { name := "unionCreates", fn := fun _ => fun
  | [d] => { results := [.lit (.bool true)], args := [d] }
  | _ => none }
def unionCreatesRow : OpenClaim := { program := "ytonblmbbnlmhhaagreat", sum := "21e9acca5e7139236a42f40bb2e8b3d4da61d0367f2587978683f423f18cbf23", func := "oriel/oriellaw16.UnionCreates", spec := "unionCreates", inPlace := ["internal/bytealg.IndexByteString", "internal/bytealg.IndexString", "internal/abi.NoEscape", "internal/bytealg.MakeNoZero"], unfollowed := true, recurses := true, named := ["internal/bytealg.MaxLen"], apart := false }
def UnionCreatesSaid : Prop := unionCreatesRow.holds Tryz.pinned (OpenSpec.ofChange unionCreatesSpec)

/-- ITS FALSE NEIGHBOUR: 'it returns false'. Refute it at one input. -/
def unionCreatesWrong : ChangeSpec := { name := "unionCreates", fn := fun _ => fun
  | [d] => { results := [.lit (.bool false)], args := [d] }
  | _ => none }
def UnionCreatesWrongFalsely : Prop := unionCreatesRow.holds Tryz.pinned (OpenSpec.ofChange unionCreatesWrong)

/-- 'oriellaw16.UnionWrites': WHATEVER THE INPUT: true; the input reads as it did. -/
def unionWritesSpec : ChangeSpec := { name := "unionWrites", fn := fun _ => fun
  | [d1, d2] => { results := [.lit (.bool true)], args := [d1, d2] }
  | _ => none }
def unionWritesRow : OpenClaim := { program := "ytonblmbbnlmhhaagreat", sum := "21e9acca5e7139236a42f40bb2e8b3d4da61d0367f2587978683f423f18cbf23", func := "oriel/oriellaw16.UnionWrites", spec := "unionWrites", inPlace := ["internal/bytealg.IndexByteString", "internal/bytealg.IndexString", "internal/abi.NoEscape", "internal/bytealg.MakeNoZero"], unfollowed := true, recurses := true, named := ["internal/bytealg.MaxLen"], apart := false }
def UnionWritesSaid : Prop := unionWritesRow.holds Tryz.pinned (OpenSpec.ofChange unionWritesSpec)

/-- ITS FALSE NEIGHBOUR: 'it returns false'. Refute it at one input. -/
def unionWritesWrong : ChangeSpec := { name := "unionWrites", fn := fun _ => fun
  | [d1, d2] => { results := [.lit (.bool false)], args := [d1, d2] }
  | _ => none }
def UnionWritesWrongFalsely : Prop := unionWritesRow.holds Tryz.pinned (OpenSpec.ofChange unionWritesWrong)

/-- 'oriellaw16.UnionSizes': WHATEVER THE INPUT: true; the input reads as it did. -/
def unionSizesSpec : ChangeSpec := { name := "unionSizes", fn := fun _ => fun
  | [d1, d2] => { results := [.lit (.bool true)], args := [d1, d2] }
  | _ => none }
def unionSizesRow : OpenClaim := { program := "ytonblmbbnlmhhaagreat", sum := "21e9acca5e7139236a42f40bb2e8b3d4da61d0367f2587978683f423f18cbf23", func := "oriel/oriellaw16.UnionSizes", spec := "unionSizes", inPlace := ["internal/bytealg.IndexByteString", "internal/bytealg.IndexString", "internal/abi.NoEscape", "internal/bytealg.MakeNoZero"], unfollowed := true, recurses := true, named := ["internal/bytealg.MaxLen"], apart := false }
def UnionSizesSaid : Prop := unionSizesRow.holds Tryz.pinned (OpenSpec.ofChange unionSizesSpec)

/-- ITS FALSE NEIGHBOUR: 'it returns false'. Refute it at one input. -/
def unionSizesWrong : ChangeSpec := { name := "unionSizes", fn := fun _ => fun
  | [d1, d2] => { results := [.lit (.bool false)], args := [d1, d2] }
  | _ => none }
def UnionSizesWrongFalsely : Prop := unionSizesRow.holds Tryz.pinned (OpenSpec.ofChange unionSizesWrong)

/-- 'oriellaw16.UnionLinks': WHATEVER THE INPUT: true; the input reads as it did. -/
def unionLinksSpec : ChangeSpec := { name := "unionLinks", fn := fun _ => fun
  | [d1, d2] => { results := [.lit (.bool true)], args := [d1, d2] }
  | _ => none }
def unionLinksRow : OpenClaim := { program := "ytonblmbbnlmhhaagreat", sum := "21e9acca5e7139236a42f40bb2e8b3d4da61d0367f2587978683f423f18cbf23", func := "oriel/oriellaw16.UnionLinks", spec := "unionLinks", inPlace := ["internal/bytealg.IndexByteString", "internal/bytealg.IndexString", "internal/abi.NoEscape", "internal/bytealg.MakeNoZero"], unfollowed := true, recurses := true, named := ["internal/bytealg.MaxLen"], apart := false }
def UnionLinksSaid : Prop := unionLinksRow.holds Tryz.pinned (OpenSpec.ofChange unionLinksSpec)

/-- ITS FALSE NEIGHBOUR: 'it returns false'. Refute it at one input. -/
def unionLinksWrong : ChangeSpec := { name := "unionLinks", fn := fun _ => fun
  | [d1, d2] => { results := [.lit (.bool false)], args := [d1, d2] }
  | _ => none }
def UnionLinksWrongFalsely : Prop := unionLinksRow.holds Tryz.pinned (OpenSpec.ofChange unionLinksWrong)

/-- 'oriellaw16.UnionLoops': WHATEVER THE INPUT: true; the input reads as it did. -/
def unionLoopsSpec : ChangeSpec := { name := "unionLoops", fn := fun _ => fun
  | [d] => { results := [.lit (.bool true)], args := [d] }
  | _ => none }
def unionLoopsRow : OpenClaim := { program := "ytonblmbbnlmhhaagreat", sum := "21e9acca5e7139236a42f40bb2e8b3d4da61d0367f2587978683f423f18cbf23", func := "oriel/oriellaw16.UnionLoops", spec := "unionLoops", inPlace := ["internal/bytealg.IndexByteString", "internal/bytealg.IndexString", "internal/abi.NoEscape", "internal/bytealg.MakeNoZero"], unfollowed := true, recurses := true, named := ["internal/bytealg.MaxLen"], apart := false }
def UnionLoopsSaid : Prop := unionLoopsRow.holds Tryz.pinned (OpenSpec.ofChange unionLoopsSpec)

/-- ITS FALSE NEIGHBOUR: 'it returns false'. Refute it at one input. -/
def unionLoopsWrong : ChangeSpec := { name := "unionLoops", fn := fun _ => fun
  | [d] => { results := [.lit (.bool false)], args := [d] }
  | _ => none }
def UnionLoopsWrongFalsely : Prop := unionLoopsRow.holds Tryz.pinned (OpenSpec.ofChange unionLoopsWrong)

/-- 'oriellaw16.UnionDirs': WHATEVER THE INPUT: true; the input reads as it did. -/
def unionDirsSpec : ChangeSpec := { name := "unionDirs", fn := fun _ => fun
  | [d] => { results := [.lit (.bool true)], args := [d] }
  | _ => none }
def unionDirsRow : OpenClaim := { program := "ytonblmbbnlmhhaagreat", sum := "21e9acca5e7139236a42f40bb2e8b3d4da61d0367f2587978683f423f18cbf23", func := "oriel/oriellaw16.UnionDirs", spec := "unionDirs", inPlace := ["internal/bytealg.IndexByteString", "internal/bytealg.IndexString", "internal/abi.NoEscape", "internal/bytealg.MakeNoZero"], unfollowed := true, recurses := true, named := ["internal/bytealg.MaxLen"], apart := false }
def UnionDirsSaid : Prop := unionDirsRow.holds Tryz.pinned (OpenSpec.ofChange unionDirsSpec)

/-- ITS FALSE NEIGHBOUR: 'it returns false'. Refute it at one input. -/
def unionDirsWrong : ChangeSpec := { name := "unionDirs", fn := fun _ => fun
  | [d] => { results := [.lit (.bool false)], args := [d] }
  | _ => none }
def UnionDirsWrongFalsely : Prop := unionDirsRow.holds Tryz.pinned (OpenSpec.ofChange unionDirsWrong)

/-- 'oriellaw16.UnionRenames': WHATEVER THE INPUT: true; the input reads as it did. -/
def unionRenamesSpec : ChangeSpec := { name := "unionRenames", fn := fun _ => fun
  | [d1, d2, d3] => { results := [.lit (.bool true)], args := [d1, d2, d3] }
  | _ => none }
def unionRenamesRow : OpenClaim := { program := "ytonblmbbnlmhhaagreat", sum := "21e9acca5e7139236a42f40bb2e8b3d4da61d0367f2587978683f423f18cbf23", func := "oriel/oriellaw16.UnionRenames", spec := "unionRenames", inPlace := ["internal/bytealg.IndexByteString", "internal/bytealg.IndexString", "internal/abi.NoEscape", "internal/bytealg.MakeNoZero"], unfollowed := true, recurses := true, named := ["internal/bytealg.MaxLen"], apart := false }
def UnionRenamesSaid : Prop := unionRenamesRow.holds Tryz.pinned (OpenSpec.ofChange unionRenamesSpec)

/-- ITS FALSE NEIGHBOUR: 'it returns false'. Refute it at one input. -/
def unionRenamesWrong : ChangeSpec := { name := "unionRenames", fn := fun _ => fun
  | [d1, d2, d3] => { results := [.lit (.bool false)], args := [d1, d2, d3] }
  | _ => none }
def UnionRenamesWrongFalsely : Prop := unionRenamesRow.holds Tryz.pinned (OpenSpec.ofChange unionRenamesWrong)

/-- 'oriellaw16.UnionCycles': WHATEVER THE INPUT: true; the input reads as it did. -/
def unionCyclesSpec : ChangeSpec := { name := "unionCycles", fn := fun _ => fun
  | [d1, d2] => { results := [.lit (.bool true)], args := [d1, d2] }
  | _ => none }
def unionCyclesRow : OpenClaim := { program := "ytonblmbbnlmhhaagreat", sum := "21e9acca5e7139236a42f40bb2e8b3d4da61d0367f2587978683f423f18cbf23", func := "oriel/oriellaw16.UnionCycles", spec := "unionCycles", inPlace := ["internal/bytealg.IndexByteString", "internal/bytealg.IndexString", "internal/abi.NoEscape", "internal/bytealg.MakeNoZero"], unfollowed := true, recurses := true, named := ["internal/bytealg.MaxLen"], apart := false }
def UnionCyclesSaid : Prop := unionCyclesRow.holds Tryz.pinned (OpenSpec.ofChange unionCyclesSpec)

/-- ITS FALSE NEIGHBOUR: 'it returns false'. Refute it at one input. -/
def unionCyclesWrong : ChangeSpec := { name := "unionCycles", fn := fun _ => fun
  | [d1, d2] => { results := [.lit (.bool false)], args := [d1, d2] }
  | _ => none }
def UnionCyclesWrongFalsely : Prop := unionCyclesRow.holds Tryz.pinned (OpenSpec.ofChange unionCyclesWrong)

/-- 'oriellaw16.UnionModes': WHATEVER THE INPUT: true; the input reads as it did. -/
def unionModesSpec : ChangeSpec := { name := "unionModes", fn := fun _ => fun
  | [d] => { results := [.lit (.bool true)], args := [d] }
  | _ => none }
def unionModesRow : OpenClaim := { program := "ytonblmbbnlmhhaagreat", sum := "21e9acca5e7139236a42f40bb2e8b3d4da61d0367f2587978683f423f18cbf23", func := "oriel/oriellaw16.UnionModes", spec := "unionModes", inPlace := ["internal/bytealg.IndexByteString", "internal/bytealg.IndexString", "internal/abi.NoEscape", "internal/bytealg.MakeNoZero"], unfollowed := true, recurses := true, named := ["internal/bytealg.MaxLen"], apart := false }
def UnionModesSaid : Prop := unionModesRow.holds Tryz.pinned (OpenSpec.ofChange unionModesSpec)

/-- ITS FALSE NEIGHBOUR: 'it returns false'. Refute it at one input. -/
def unionModesWrong : ChangeSpec := { name := "unionModes", fn := fun _ => fun
  | [d] => { results := [.lit (.bool false)], args := [d] }
  | _ => none }
def UnionModesWrongFalsely : Prop := unionModesRow.holds Tryz.pinned (OpenSpec.ofChange unionModesWrong)

/-- 'oriellaw16.UnionFds': WHATEVER THE INPUT: true; the input reads as it did. -/
def unionFdsSpec : ChangeSpec := { name := "unionFds", fn := fun _ => fun
  | [d1, d2] => { results := [.lit (.bool true)], args := [d1, d2] }
  | _ => none }
def unionFdsRow : OpenClaim := { program := "ytonblmbbnlmhhaagreat", sum := "21e9acca5e7139236a42f40bb2e8b3d4da61d0367f2587978683f423f18cbf23", func := "oriel/oriellaw16.UnionFds", spec := "unionFds", inPlace := ["internal/bytealg.IndexByteString", "internal/bytealg.IndexString", "internal/abi.NoEscape", "internal/bytealg.MakeNoZero"], unfollowed := true, recurses := true, named := ["internal/bytealg.MaxLen"], apart := false }
def UnionFdsSaid : Prop := unionFdsRow.holds Tryz.pinned (OpenSpec.ofChange unionFdsSpec)

/-- ITS FALSE NEIGHBOUR: 'it returns false'. Refute it at one input. -/
def unionFdsWrong : ChangeSpec := { name := "unionFds", fn := fun _ => fun
  | [d1, d2] => { results := [.lit (.bool false)], args := [d1, d2] }
  | _ => none }
def UnionFdsWrongFalsely : Prop := unionFdsRow.holds Tryz.pinned (OpenSpec.ofChange unionFdsWrong)

/-- 'oriellaw16.UnionCwd': WHATEVER THE INPUT: true; the input reads as it did. -/
def unionCwdSpec : ChangeSpec := { name := "unionCwd", fn := fun _ => fun
  | [d] => { results := [.lit (.bool true)], args := [d] }
  | _ => none }
def unionCwdRow : OpenClaim := { program := "ytonblmbbnlmhhaagreat", sum := "21e9acca5e7139236a42f40bb2e8b3d4da61d0367f2587978683f423f18cbf23", func := "oriel/oriellaw16.UnionCwd", spec := "unionCwd", inPlace := ["internal/bytealg.IndexByteString", "internal/bytealg.IndexString", "internal/abi.NoEscape", "internal/bytealg.MakeNoZero"], unfollowed := true, recurses := true, named := ["internal/bytealg.MaxLen"], apart := false }
def UnionCwdSaid : Prop := unionCwdRow.holds Tryz.pinned (OpenSpec.ofChange unionCwdSpec)

/-- ITS FALSE NEIGHBOUR: 'it returns false'. Refute it at one input. -/
def unionCwdWrong : ChangeSpec := { name := "unionCwd", fn := fun _ => fun
  | [d] => { results := [.lit (.bool false)], args := [d] }
  | _ => none }
def UnionCwdWrongFalsely : Prop := unionCwdRow.holds Tryz.pinned (OpenSpec.ofChange unionCwdWrong)

/-- 'oriellaw16.UnionNames': WHATEVER THE INPUT: true; the input reads as it did. -/
def unionNamesSpec : ChangeSpec := { name := "unionNames", fn := fun _ => fun
  | [d] => { results := [.lit (.bool true)], args := [d] }
  | _ => none }
def unionNamesRow : OpenClaim := { program := "ytonblmbbnlmhhaagreat", sum := "21e9acca5e7139236a42f40bb2e8b3d4da61d0367f2587978683f423f18cbf23", func := "oriel/oriellaw16.UnionNames", spec := "unionNames", inPlace := ["internal/bytealg.IndexByteString", "internal/bytealg.IndexString", "internal/abi.NoEscape", "internal/bytealg.MakeNoZero"], unfollowed := true, recurses := true, named := ["internal/bytealg.MaxLen"], apart := false }
def UnionNamesSaid : Prop := unionNamesRow.holds Tryz.pinned (OpenSpec.ofChange unionNamesSpec)

/-- ITS FALSE NEIGHBOUR: 'it returns false'. Refute it at one input. -/
def unionNamesWrong : ChangeSpec := { name := "unionNames", fn := fun _ => fun
  | [d] => { results := [.lit (.bool false)], args := [d] }
  | _ => none }
def UnionNamesWrongFalsely : Prop := unionNamesRow.holds Tryz.pinned (OpenSpec.ofChange unionNamesWrong)

/-- 'oriellaw16.UnionKinds': WHATEVER THE INPUT: true; the input reads as it did. -/
def unionKindsSpec : ChangeSpec := { name := "unionKinds", fn := fun _ => fun
  | [] => { results := [.lit (.bool true)], args := [] }
  | _ => none }
def unionKindsRow : OpenClaim := { program := "ytonblmbbnlmhhaagreat", sum := "21e9acca5e7139236a42f40bb2e8b3d4da61d0367f2587978683f423f18cbf23", func := "oriel/oriellaw16.UnionKinds", spec := "unionKinds", inPlace := ["internal/bytealg.IndexByteString", "internal/bytealg.IndexString", "internal/abi.NoEscape", "internal/bytealg.MakeNoZero"], unfollowed := true, recurses := true, named := ["internal/bytealg.MaxLen"], apart := false }
def UnionKindsSaid : Prop := unionKindsRow.holds Tryz.pinned (OpenSpec.ofChange unionKindsSpec)

/-- ITS FALSE NEIGHBOUR: 'it returns false'. Refute it at one input. -/
def unionKindsWrong : ChangeSpec := { name := "unionKinds", fn := fun _ => fun
  | [] => { results := [.lit (.bool false)], args := [] }
  | _ => none }
def UnionKindsWrongFalsely : Prop := unionKindsRow.holds Tryz.pinned (OpenSpec.ofChange unionKindsWrong)

/-- 'oriellaw16.UnionFull': WHATEVER THE INPUT: true; the input reads as it did. -/
def unionFullSpec : ChangeSpec := { name := "unionFull", fn := fun _ => fun
  | [d] => { results := [.lit (.bool true)], args := [d] }
  | _ => none }
def unionFullRow : OpenClaim := { program := "ytonblmbbnlmhhaagreat", sum := "21e9acca5e7139236a42f40bb2e8b3d4da61d0367f2587978683f423f18cbf23", func := "oriel/oriellaw16.UnionFull", spec := "unionFull", inPlace := ["internal/bytealg.IndexByteString", "internal/bytealg.IndexString", "internal/abi.NoEscape", "internal/bytealg.MakeNoZero"], unfollowed := true, recurses := true, named := ["internal/bytealg.MaxLen"], apart := false }
def UnionFullSaid : Prop := unionFullRow.holds Tryz.pinned (OpenSpec.ofChange unionFullSpec)

/-- ITS FALSE NEIGHBOUR: 'it returns false'. Refute it at one input. -/
def unionFullWrong : ChangeSpec := { name := "unionFull", fn := fun _ => fun
  | [d] => { results := [.lit (.bool false)], args := [d] }
  | _ => none }
def UnionFullWrongFalsely : Prop := unionFullRow.holds Tryz.pinned (OpenSpec.ofChange unionFullWrong)

/-- 'oriellaw16.UnionRows': WHATEVER THE INPUT: true; the input reads as it did. -/
def unionRowsSpec : ChangeSpec := { name := "unionRows", fn := fun _ => fun
  | [d] => { results := [.lit (.bool true)], args := [d] }
  | _ => none }
def unionRowsRow : OpenClaim := { program := "ytonblmbbnlmhhaagreat", sum := "21e9acca5e7139236a42f40bb2e8b3d4da61d0367f2587978683f423f18cbf23", func := "oriel/oriellaw16.UnionRows", spec := "unionRows", inPlace := ["internal/bytealg.IndexByteString", "internal/bytealg.IndexString", "internal/abi.NoEscape", "internal/bytealg.MakeNoZero"], unfollowed := true, recurses := true, named := ["internal/bytealg.MaxLen"], apart := false }
def UnionRowsSaid : Prop := unionRowsRow.holds Tryz.pinned (OpenSpec.ofChange unionRowsSpec)

/-- ITS FALSE NEIGHBOUR: 'it returns false'. Refute it at one input. -/
def unionRowsWrong : ChangeSpec := { name := "unionRows", fn := fun _ => fun
  | [d] => { results := [.lit (.bool false)], args := [d] }
  | _ => none }
def UnionRowsWrongFalsely : Prop := unionRowsRow.holds Tryz.pinned (OpenSpec.ofChange unionRowsWrong)

/-- 'oriellaw16.UnionDeepens': WHATEVER THE INPUT: true; the input reads as it did. -/
def unionDeepensSpec : ChangeSpec := { name := "unionDeepens", fn := fun _ => fun
  | [d1, d2] => { results := [.lit (.bool true)], args := [d1, d2] }
  | _ => none }
def unionDeepensRow : OpenClaim := { program := "ytonblmbbnlmhhaagreat", sum := "21e9acca5e7139236a42f40bb2e8b3d4da61d0367f2587978683f423f18cbf23", func := "oriel/oriellaw16.UnionDeepens", spec := "unionDeepens", inPlace := ["internal/bytealg.IndexByteString", "internal/bytealg.IndexString", "internal/abi.NoEscape", "internal/bytealg.MakeNoZero"], unfollowed := true, recurses := true, named := ["internal/bytealg.MaxLen"], apart := false }
def UnionDeepensSaid : Prop := unionDeepensRow.holds Tryz.pinned (OpenSpec.ofChange unionDeepensSpec)

/-- ITS FALSE NEIGHBOUR: 'it returns false'. Refute it at one input. -/
def unionDeepensWrong : ChangeSpec := { name := "unionDeepens", fn := fun _ => fun
  | [d1, d2] => { results := [.lit (.bool false)], args := [d1, d2] }
  | _ => none }
def UnionDeepensWrongFalsely : Prop := unionDeepensRow.holds Tryz.pinned (OpenSpec.ofChange unionDeepensWrong)

/-- 'oriellaw16.UnionThrough': WHATEVER THE INPUT: true; the input reads as it did. -/
def unionThroughSpec : ChangeSpec := { name := "unionThrough", fn := fun _ => fun
  | [d1, d2] => { results := [.lit (.bool true)], args := [d1, d2] }
  | _ => none }
def unionThroughRow : OpenClaim := { program := "ytonblmbbnlmhhaagreat", sum := "21e9acca5e7139236a42f40bb2e8b3d4da61d0367f2587978683f423f18cbf23", func := "oriel/oriellaw16.UnionThrough", spec := "unionThrough", inPlace := ["internal/bytealg.IndexByteString", "internal/bytealg.IndexString", "internal/abi.NoEscape", "internal/bytealg.MakeNoZero"], unfollowed := true, recurses := true, named := ["internal/bytealg.MaxLen"], apart := false }
def UnionThroughSaid : Prop := unionThroughRow.holds Tryz.pinned (OpenSpec.ofChange unionThroughSpec)

/-- ITS FALSE NEIGHBOUR: 'it returns false'. Refute it at one input. -/
def unionThroughWrong : ChangeSpec := { name := "unionThrough", fn := fun _ => fun
  | [d1, d2] => { results := [.lit (.bool false)], args := [d1, d2] }
  | _ => none }
def UnionThroughWrongFalsely : Prop := unionThroughRow.holds Tryz.pinned (OpenSpec.ofChange unionThroughWrong)

/-- 'oriellaw16.UnionMoves': WHATEVER THE INPUT: true; the input reads as it did. -/
def unionMovesSpec : ChangeSpec := { name := "unionMoves", fn := fun _ => fun
  | [d1, d2] => { results := [.lit (.bool true)], args := [d1, d2] }
  | _ => none }
def unionMovesRow : OpenClaim := { program := "ytonblmbbnlmhhaagreat", sum := "21e9acca5e7139236a42f40bb2e8b3d4da61d0367f2587978683f423f18cbf23", func := "oriel/oriellaw16.UnionMoves", spec := "unionMoves", inPlace := ["internal/bytealg.IndexByteString", "internal/bytealg.IndexString", "internal/abi.NoEscape", "internal/bytealg.MakeNoZero"], unfollowed := true, recurses := true, named := ["internal/bytealg.MaxLen"], apart := false }
def UnionMovesSaid : Prop := unionMovesRow.holds Tryz.pinned (OpenSpec.ofChange unionMovesSpec)

/-- ITS FALSE NEIGHBOUR: 'it returns false'. Refute it at one input. -/
def unionMovesWrong : ChangeSpec := { name := "unionMoves", fn := fun _ => fun
  | [d1, d2] => { results := [.lit (.bool false)], args := [d1, d2] }
  | _ => none }
def UnionMovesWrongFalsely : Prop := unionMovesRow.holds Tryz.pinned (OpenSpec.ofChange unionMovesWrong)

/- THE SECOND FORM. 'bulk': how many values and letters a reading holds, each counted each time it is reached (what is shared counts as often as it is met; a slice's spare places count too). A statement '..UptoSaid' is the law's where the arguments, and the package variables that the reading takes, are together of bulk at most 1048576: NARROWER than '..Said'. Prove '..Said' where nothing that the law and all that it calls make is longer than what came in: it says more and counts as full. Else prove '..UptoSaid'. A law counts once. -/
mutual
def uptoBulk {H : Type} : DataW H → Nat
  | .lit (.string bytes) => bytes.length + 1
  | .lit _ => 1
  | .nil => 1
  | .ptr d => uptoBulk d + 1
  | .slice elems spare => uptoBulkAll elems + uptoBulkAll spare + 1
  | .agg parts => uptoBulkAll parts + 1
  | .iface _ d => uptoBulk d + 1
  | .map entries => uptoBulkEntries entries + 1
  | .held _ => 1
def uptoBulkAll {H : Type} : List (DataW H) → Nat
  | [] => 0
  | d :: r => uptoBulk d + uptoBulkAll r
def uptoBulkEntries {H : Type} : List (Lit × DataW H) → Nat
  | [] => 0
  | x :: r => uptoBulkEntry x + uptoBulkEntries r
def uptoBulkEntry {H : Type} : Lit × DataW H → Nat
  | (.string bytes, d) => bytes.length + uptoBulk d + 1
  | (_, d) => uptoBulk d + 1
 end
def uptoSmall : (H : Type) → List (DataW H) → Bool := fun _ ds => decide (uptoBulkAll ds ≤ 1048576)
def OpenSpec.upto (s : _root_.Go.ChangeSpec) : _root_.Go.OpenSpec := { _root_.Go.OpenSpec.ofChange s with cond := some uptoSmall }

/-- 'oriellaw16.UnionCreates', WHERE WHAT IT READS IS OF BULK AT MOST 1048576: true; the input reads as it did. -/
def unionCreatesUptoRow : OpenClaim := { program := "ytonblmbbnlmhhaagreat", sum := "21e9acca5e7139236a42f40bb2e8b3d4da61d0367f2587978683f423f18cbf23", func := "oriel/oriellaw16.UnionCreates", spec := "unionCreates", inPlace := ["internal/bytealg.IndexByteString", "internal/bytealg.IndexString", "internal/abi.NoEscape", "internal/bytealg.MakeNoZero"], unfollowed := true, recurses := true, named := ["internal/bytealg.MaxLen"], apart := false, narrowed := true }
def UnionCreatesUptoSaid : Prop := unionCreatesUptoRow.holds Tryz.pinned (OpenSpec.upto unionCreatesSpec)

/-- 'oriellaw16.UnionWrites', WHERE WHAT IT READS IS OF BULK AT MOST 1048576: true; the input reads as it did. -/
def unionWritesUptoRow : OpenClaim := { program := "ytonblmbbnlmhhaagreat", sum := "21e9acca5e7139236a42f40bb2e8b3d4da61d0367f2587978683f423f18cbf23", func := "oriel/oriellaw16.UnionWrites", spec := "unionWrites", inPlace := ["internal/bytealg.IndexByteString", "internal/bytealg.IndexString", "internal/abi.NoEscape", "internal/bytealg.MakeNoZero"], unfollowed := true, recurses := true, named := ["internal/bytealg.MaxLen"], apart := false, narrowed := true }
def UnionWritesUptoSaid : Prop := unionWritesUptoRow.holds Tryz.pinned (OpenSpec.upto unionWritesSpec)

/-- 'oriellaw16.UnionSizes', WHERE WHAT IT READS IS OF BULK AT MOST 1048576: true; the input reads as it did. -/
def unionSizesUptoRow : OpenClaim := { program := "ytonblmbbnlmhhaagreat", sum := "21e9acca5e7139236a42f40bb2e8b3d4da61d0367f2587978683f423f18cbf23", func := "oriel/oriellaw16.UnionSizes", spec := "unionSizes", inPlace := ["internal/bytealg.IndexByteString", "internal/bytealg.IndexString", "internal/abi.NoEscape", "internal/bytealg.MakeNoZero"], unfollowed := true, recurses := true, named := ["internal/bytealg.MaxLen"], apart := false, narrowed := true }
def UnionSizesUptoSaid : Prop := unionSizesUptoRow.holds Tryz.pinned (OpenSpec.upto unionSizesSpec)

/-- 'oriellaw16.UnionLinks', WHERE WHAT IT READS IS OF BULK AT MOST 1048576: true; the input reads as it did. -/
def unionLinksUptoRow : OpenClaim := { program := "ytonblmbbnlmhhaagreat", sum := "21e9acca5e7139236a42f40bb2e8b3d4da61d0367f2587978683f423f18cbf23", func := "oriel/oriellaw16.UnionLinks", spec := "unionLinks", inPlace := ["internal/bytealg.IndexByteString", "internal/bytealg.IndexString", "internal/abi.NoEscape", "internal/bytealg.MakeNoZero"], unfollowed := true, recurses := true, named := ["internal/bytealg.MaxLen"], apart := false, narrowed := true }
def UnionLinksUptoSaid : Prop := unionLinksUptoRow.holds Tryz.pinned (OpenSpec.upto unionLinksSpec)

/-- 'oriellaw16.UnionLoops', WHERE WHAT IT READS IS OF BULK AT MOST 1048576: true; the input reads as it did. -/
def unionLoopsUptoRow : OpenClaim := { program := "ytonblmbbnlmhhaagreat", sum := "21e9acca5e7139236a42f40bb2e8b3d4da61d0367f2587978683f423f18cbf23", func := "oriel/oriellaw16.UnionLoops", spec := "unionLoops", inPlace := ["internal/bytealg.IndexByteString", "internal/bytealg.IndexString", "internal/abi.NoEscape", "internal/bytealg.MakeNoZero"], unfollowed := true, recurses := true, named := ["internal/bytealg.MaxLen"], apart := false, narrowed := true }
def UnionLoopsUptoSaid : Prop := unionLoopsUptoRow.holds Tryz.pinned (OpenSpec.upto unionLoopsSpec)

/-- 'oriellaw16.UnionDirs', WHERE WHAT IT READS IS OF BULK AT MOST 1048576: true; the input reads as it did. -/
def unionDirsUptoRow : OpenClaim := { program := "ytonblmbbnlmhhaagreat", sum := "21e9acca5e7139236a42f40bb2e8b3d4da61d0367f2587978683f423f18cbf23", func := "oriel/oriellaw16.UnionDirs", spec := "unionDirs", inPlace := ["internal/bytealg.IndexByteString", "internal/bytealg.IndexString", "internal/abi.NoEscape", "internal/bytealg.MakeNoZero"], unfollowed := true, recurses := true, named := ["internal/bytealg.MaxLen"], apart := false, narrowed := true }
def UnionDirsUptoSaid : Prop := unionDirsUptoRow.holds Tryz.pinned (OpenSpec.upto unionDirsSpec)

/-- 'oriellaw16.UnionRenames', WHERE WHAT IT READS IS OF BULK AT MOST 1048576: true; the input reads as it did. -/
def unionRenamesUptoRow : OpenClaim := { program := "ytonblmbbnlmhhaagreat", sum := "21e9acca5e7139236a42f40bb2e8b3d4da61d0367f2587978683f423f18cbf23", func := "oriel/oriellaw16.UnionRenames", spec := "unionRenames", inPlace := ["internal/bytealg.IndexByteString", "internal/bytealg.IndexString", "internal/abi.NoEscape", "internal/bytealg.MakeNoZero"], unfollowed := true, recurses := true, named := ["internal/bytealg.MaxLen"], apart := false, narrowed := true }
def UnionRenamesUptoSaid : Prop := unionRenamesUptoRow.holds Tryz.pinned (OpenSpec.upto unionRenamesSpec)

/-- 'oriellaw16.UnionCycles', WHERE WHAT IT READS IS OF BULK AT MOST 1048576: true; the input reads as it did. -/
def unionCyclesUptoRow : OpenClaim := { program := "ytonblmbbnlmhhaagreat", sum := "21e9acca5e7139236a42f40bb2e8b3d4da61d0367f2587978683f423f18cbf23", func := "oriel/oriellaw16.UnionCycles", spec := "unionCycles", inPlace := ["internal/bytealg.IndexByteString", "internal/bytealg.IndexString", "internal/abi.NoEscape", "internal/bytealg.MakeNoZero"], unfollowed := true, recurses := true, named := ["internal/bytealg.MaxLen"], apart := false, narrowed := true }
def UnionCyclesUptoSaid : Prop := unionCyclesUptoRow.holds Tryz.pinned (OpenSpec.upto unionCyclesSpec)

/-- 'oriellaw16.UnionModes', WHERE WHAT IT READS IS OF BULK AT MOST 1048576: true; the input reads as it did. -/
def unionModesUptoRow : OpenClaim := { program := "ytonblmbbnlmhhaagreat", sum := "21e9acca5e7139236a42f40bb2e8b3d4da61d0367f2587978683f423f18cbf23", func := "oriel/oriellaw16.UnionModes", spec := "unionModes", inPlace := ["internal/bytealg.IndexByteString", "internal/bytealg.IndexString", "internal/abi.NoEscape", "internal/bytealg.MakeNoZero"], unfollowed := true, recurses := true, named := ["internal/bytealg.MaxLen"], apart := false, narrowed := true }
def UnionModesUptoSaid : Prop := unionModesUptoRow.holds Tryz.pinned (OpenSpec.upto unionModesSpec)

/-- 'oriellaw16.UnionFds', WHERE WHAT IT READS IS OF BULK AT MOST 1048576: true; the input reads as it did. -/
def unionFdsUptoRow : OpenClaim := { program := "ytonblmbbnlmhhaagreat", sum := "21e9acca5e7139236a42f40bb2e8b3d4da61d0367f2587978683f423f18cbf23", func := "oriel/oriellaw16.UnionFds", spec := "unionFds", inPlace := ["internal/bytealg.IndexByteString", "internal/bytealg.IndexString", "internal/abi.NoEscape", "internal/bytealg.MakeNoZero"], unfollowed := true, recurses := true, named := ["internal/bytealg.MaxLen"], apart := false, narrowed := true }
def UnionFdsUptoSaid : Prop := unionFdsUptoRow.holds Tryz.pinned (OpenSpec.upto unionFdsSpec)

/-- 'oriellaw16.UnionCwd', WHERE WHAT IT READS IS OF BULK AT MOST 1048576: true; the input reads as it did. -/
def unionCwdUptoRow : OpenClaim := { program := "ytonblmbbnlmhhaagreat", sum := "21e9acca5e7139236a42f40bb2e8b3d4da61d0367f2587978683f423f18cbf23", func := "oriel/oriellaw16.UnionCwd", spec := "unionCwd", inPlace := ["internal/bytealg.IndexByteString", "internal/bytealg.IndexString", "internal/abi.NoEscape", "internal/bytealg.MakeNoZero"], unfollowed := true, recurses := true, named := ["internal/bytealg.MaxLen"], apart := false, narrowed := true }
def UnionCwdUptoSaid : Prop := unionCwdUptoRow.holds Tryz.pinned (OpenSpec.upto unionCwdSpec)

/-- 'oriellaw16.UnionNames', WHERE WHAT IT READS IS OF BULK AT MOST 1048576: true; the input reads as it did. -/
def unionNamesUptoRow : OpenClaim := { program := "ytonblmbbnlmhhaagreat", sum := "21e9acca5e7139236a42f40bb2e8b3d4da61d0367f2587978683f423f18cbf23", func := "oriel/oriellaw16.UnionNames", spec := "unionNames", inPlace := ["internal/bytealg.IndexByteString", "internal/bytealg.IndexString", "internal/abi.NoEscape", "internal/bytealg.MakeNoZero"], unfollowed := true, recurses := true, named := ["internal/bytealg.MaxLen"], apart := false, narrowed := true }
def UnionNamesUptoSaid : Prop := unionNamesUptoRow.holds Tryz.pinned (OpenSpec.upto unionNamesSpec)

/-- 'oriellaw16.UnionKinds', WHERE WHAT IT READS IS OF BULK AT MOST 1048576: true; the input reads as it did. -/
def unionKindsUptoRow : OpenClaim := { program := "ytonblmbbnlmhhaagreat", sum := "21e9acca5e7139236a42f40bb2e8b3d4da61d0367f2587978683f423f18cbf23", func := "oriel/oriellaw16.UnionKinds", spec := "unionKinds", inPlace := ["internal/bytealg.IndexByteString", "internal/bytealg.IndexString", "internal/abi.NoEscape", "internal/bytealg.MakeNoZero"], unfollowed := true, recurses := true, named := ["internal/bytealg.MaxLen"], apart := false, narrowed := true }
def UnionKindsUptoSaid : Prop := unionKindsUptoRow.holds Tryz.pinned (OpenSpec.upto unionKindsSpec)

/-- 'oriellaw16.UnionFull', WHERE WHAT IT READS IS OF BULK AT MOST 1048576: true; the input reads as it did. -/
def unionFullUptoRow : OpenClaim := { program := "ytonblmbbnlmhhaagreat", sum := "21e9acca5e7139236a42f40bb2e8b3d4da61d0367f2587978683f423f18cbf23", func := "oriel/oriellaw16.UnionFull", spec := "unionFull", inPlace := ["internal/bytealg.IndexByteString", "internal/bytealg.IndexString", "internal/abi.NoEscape", "internal/bytealg.MakeNoZero"], unfollowed := true, recurses := true, named := ["internal/bytealg.MaxLen"], apart := false, narrowed := true }
def UnionFullUptoSaid : Prop := unionFullUptoRow.holds Tryz.pinned (OpenSpec.upto unionFullSpec)

/-- 'oriellaw16.UnionRows', WHERE WHAT IT READS IS OF BULK AT MOST 1048576: true; the input reads as it did. -/
def unionRowsUptoRow : OpenClaim := { program := "ytonblmbbnlmhhaagreat", sum := "21e9acca5e7139236a42f40bb2e8b3d4da61d0367f2587978683f423f18cbf23", func := "oriel/oriellaw16.UnionRows", spec := "unionRows", inPlace := ["internal/bytealg.IndexByteString", "internal/bytealg.IndexString", "internal/abi.NoEscape", "internal/bytealg.MakeNoZero"], unfollowed := true, recurses := true, named := ["internal/bytealg.MaxLen"], apart := false, narrowed := true }
def UnionRowsUptoSaid : Prop := unionRowsUptoRow.holds Tryz.pinned (OpenSpec.upto unionRowsSpec)

/-- 'oriellaw16.UnionDeepens', WHERE WHAT IT READS IS OF BULK AT MOST 1048576: true; the input reads as it did. -/
def unionDeepensUptoRow : OpenClaim := { program := "ytonblmbbnlmhhaagreat", sum := "21e9acca5e7139236a42f40bb2e8b3d4da61d0367f2587978683f423f18cbf23", func := "oriel/oriellaw16.UnionDeepens", spec := "unionDeepens", inPlace := ["internal/bytealg.IndexByteString", "internal/bytealg.IndexString", "internal/abi.NoEscape", "internal/bytealg.MakeNoZero"], unfollowed := true, recurses := true, named := ["internal/bytealg.MaxLen"], apart := false, narrowed := true }
def UnionDeepensUptoSaid : Prop := unionDeepensUptoRow.holds Tryz.pinned (OpenSpec.upto unionDeepensSpec)

/-- 'oriellaw16.UnionThrough', WHERE WHAT IT READS IS OF BULK AT MOST 1048576: true; the input reads as it did. -/
def unionThroughUptoRow : OpenClaim := { program := "ytonblmbbnlmhhaagreat", sum := "21e9acca5e7139236a42f40bb2e8b3d4da61d0367f2587978683f423f18cbf23", func := "oriel/oriellaw16.UnionThrough", spec := "unionThrough", inPlace := ["internal/bytealg.IndexByteString", "internal/bytealg.IndexString", "internal/abi.NoEscape", "internal/bytealg.MakeNoZero"], unfollowed := true, recurses := true, named := ["internal/bytealg.MaxLen"], apart := false, narrowed := true }
def UnionThroughUptoSaid : Prop := unionThroughUptoRow.holds Tryz.pinned (OpenSpec.upto unionThroughSpec)

/-- 'oriellaw16.UnionMoves', WHERE WHAT IT READS IS OF BULK AT MOST 1048576: true; the input reads as it did. -/
def unionMovesUptoRow : OpenClaim := { program := "ytonblmbbnlmhhaagreat", sum := "21e9acca5e7139236a42f40bb2e8b3d4da61d0367f2587978683f423f18cbf23", func := "oriel/oriellaw16.UnionMoves", spec := "unionMoves", inPlace := ["internal/bytealg.IndexByteString", "internal/bytealg.IndexString", "internal/abi.NoEscape", "internal/bytealg.MakeNoZero"], unfollowed := true, recurses := true, named := ["internal/bytealg.MaxLen"], apart := false, narrowed := true }
def UnionMovesUptoSaid : Prop := unionMovesUptoRow.holds Tryz.pinned (OpenSpec.upto unionMovesSpec)

end Rows
end Go.Proofs.YtonblmbbnlmhhaaGreat
