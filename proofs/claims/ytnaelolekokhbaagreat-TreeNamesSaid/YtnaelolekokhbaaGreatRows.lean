/-
  No cell of these rows narrows 'for every input' (looked for: loops, veiled, ifaces, maps, wideKeys, modest, calm, conditions, laid).
  DERIVED. THE GIVEN ROWS OF THIS SEAT. 19 by the template 'for every input the law returns true; each argument reads behind the call as it read before'; 0 by the template 'total and deterministic' (their statements: YtnaelolekokhbaaGreatTotals.lean).
  GIVEN WITH THE SEED: the statements are not yours to turn. If you find one false, say at which input.
  Laid BY PROGRAM, IN A SANDBOX (cutbox-rows.mjs): the forced cells as the released guide's own fill.sh prints them over the translation c94f000224922329… (all of the seat's roots in one cut). By AI agents, Wed Nov 11 2026. No macro, syntax, notation, axiom, sorry.
-/
import Derived.Test.YtnaelolekokhbaaGreatChecked
import GoSem.Claim
import GoSem.ClaimJoined
import GoSem.ClaimMapViews
import Derived.JoinedTies
import Derived.KernelRfl
namespace Go.Proofs.YtnaelolekokhbaaGreat
/- THE CELL 'sum', in the pinned program and in every row, IS THE sha256 OF THE DUMP (.gsa) THAT YtnaelolekokhbaaGreatProg.lean LOADS. Nothing in Lean hashes anything: it is a label: what it is worth is what the hold of that sum in a sandbox is worth. -/
noncomputable def Tryz.pinned : Pinned := { name := "ytnaelolekokhbaagreat", sum := "c94f000224922329afd5161b90c8fa42a047bc695e8e2b49d1da86939b3f97e1", checked := Tryz.checked }
namespace Rows
def none {H : Type} : Left H := { results := [], args := [] }

/-- 'oriellaw5.TreeCreates': WHATEVER THE INPUT: true; the input reads as it did. -/
def treeCreatesSpec : ChangeSpec := { name := "treeCreates", fn := fun _ => fun
  | [d] => { results := [.lit (.bool true)], args := [d] }
  | _ => none }
def treeCreatesRow : OpenClaim := { program := "ytnaelolekokhbaagreat", sum := "c94f000224922329afd5161b90c8fa42a047bc695e8e2b49d1da86939b3f97e1", func := "oriel/oriellaw5.TreeCreates", spec := "treeCreates", inPlace := ["internal/bytealg.IndexByteString", "internal/bytealg.IndexString", "internal/abi.NoEscape", "internal/bytealg.MakeNoZero"], unfollowed := true, recurses := true, named := ["internal/bytealg.MaxLen"], apart := false }
def TreeCreatesSaid : Prop := treeCreatesRow.holds Tryz.pinned (OpenSpec.ofChange treeCreatesSpec)

/-- ITS FALSE NEIGHBOUR: 'it returns false'. Refute it at one input. -/
def treeCreatesWrong : ChangeSpec := { name := "treeCreates", fn := fun _ => fun
  | [d] => { results := [.lit (.bool false)], args := [d] }
  | _ => none }
def TreeCreatesWrongFalsely : Prop := treeCreatesRow.holds Tryz.pinned (OpenSpec.ofChange treeCreatesWrong)

/-- 'oriellaw5.TreeWrites': WHATEVER THE INPUT: true; the input reads as it did. -/
def treeWritesSpec : ChangeSpec := { name := "treeWrites", fn := fun _ => fun
  | [d1, d2] => { results := [.lit (.bool true)], args := [d1, d2] }
  | _ => none }
def treeWritesRow : OpenClaim := { program := "ytnaelolekokhbaagreat", sum := "c94f000224922329afd5161b90c8fa42a047bc695e8e2b49d1da86939b3f97e1", func := "oriel/oriellaw5.TreeWrites", spec := "treeWrites", inPlace := ["internal/bytealg.IndexByteString", "internal/bytealg.IndexString", "internal/abi.NoEscape", "internal/bytealg.MakeNoZero"], unfollowed := true, recurses := true, named := ["internal/bytealg.MaxLen"], apart := false }
def TreeWritesSaid : Prop := treeWritesRow.holds Tryz.pinned (OpenSpec.ofChange treeWritesSpec)

/-- ITS FALSE NEIGHBOUR: 'it returns false'. Refute it at one input. -/
def treeWritesWrong : ChangeSpec := { name := "treeWrites", fn := fun _ => fun
  | [d1, d2] => { results := [.lit (.bool false)], args := [d1, d2] }
  | _ => none }
def TreeWritesWrongFalsely : Prop := treeWritesRow.holds Tryz.pinned (OpenSpec.ofChange treeWritesWrong)

/-- 'oriellaw5.TreeSizes': WHATEVER THE INPUT: true; the input reads as it did. -/
def treeSizesSpec : ChangeSpec := { name := "treeSizes", fn := fun _ => fun
  | [d1, d2] => { results := [.lit (.bool true)], args := [d1, d2] }
  | _ => none }
def treeSizesRow : OpenClaim := { program := "ytnaelolekokhbaagreat", sum := "c94f000224922329afd5161b90c8fa42a047bc695e8e2b49d1da86939b3f97e1", func := "oriel/oriellaw5.TreeSizes", spec := "treeSizes", inPlace := ["internal/bytealg.IndexByteString", "internal/bytealg.IndexString", "internal/abi.NoEscape", "internal/bytealg.MakeNoZero"], unfollowed := true, recurses := true, named := ["internal/bytealg.MaxLen"], apart := false }
def TreeSizesSaid : Prop := treeSizesRow.holds Tryz.pinned (OpenSpec.ofChange treeSizesSpec)

/-- ITS FALSE NEIGHBOUR: 'it returns false'. Refute it at one input. -/
def treeSizesWrong : ChangeSpec := { name := "treeSizes", fn := fun _ => fun
  | [d1, d2] => { results := [.lit (.bool false)], args := [d1, d2] }
  | _ => none }
def TreeSizesWrongFalsely : Prop := treeSizesRow.holds Tryz.pinned (OpenSpec.ofChange treeSizesWrong)

/-- 'oriellaw5.TreeLinks': WHATEVER THE INPUT: true; the input reads as it did. -/
def treeLinksSpec : ChangeSpec := { name := "treeLinks", fn := fun _ => fun
  | [d1, d2] => { results := [.lit (.bool true)], args := [d1, d2] }
  | _ => none }
def treeLinksRow : OpenClaim := { program := "ytnaelolekokhbaagreat", sum := "c94f000224922329afd5161b90c8fa42a047bc695e8e2b49d1da86939b3f97e1", func := "oriel/oriellaw5.TreeLinks", spec := "treeLinks", inPlace := ["internal/bytealg.IndexByteString", "internal/bytealg.IndexString", "internal/abi.NoEscape", "internal/bytealg.MakeNoZero"], unfollowed := true, recurses := true, named := ["internal/bytealg.MaxLen"], apart := false }
def TreeLinksSaid : Prop := treeLinksRow.holds Tryz.pinned (OpenSpec.ofChange treeLinksSpec)

/-- ITS FALSE NEIGHBOUR: 'it returns false'. Refute it at one input. -/
def treeLinksWrong : ChangeSpec := { name := "treeLinks", fn := fun _ => fun
  | [d1, d2] => { results := [.lit (.bool false)], args := [d1, d2] }
  | _ => none }
def TreeLinksWrongFalsely : Prop := treeLinksRow.holds Tryz.pinned (OpenSpec.ofChange treeLinksWrong)

/-- 'oriellaw5.TreeLoops': WHATEVER THE INPUT: true; the input reads as it did. -/
def treeLoopsSpec : ChangeSpec := { name := "treeLoops", fn := fun _ => fun
  | [d] => { results := [.lit (.bool true)], args := [d] }
  | _ => none }
def treeLoopsRow : OpenClaim := { program := "ytnaelolekokhbaagreat", sum := "c94f000224922329afd5161b90c8fa42a047bc695e8e2b49d1da86939b3f97e1", func := "oriel/oriellaw5.TreeLoops", spec := "treeLoops", inPlace := ["internal/bytealg.IndexByteString", "internal/bytealg.IndexString", "internal/abi.NoEscape", "internal/bytealg.MakeNoZero"], unfollowed := true, recurses := true, named := ["internal/bytealg.MaxLen"], apart := false }
def TreeLoopsSaid : Prop := treeLoopsRow.holds Tryz.pinned (OpenSpec.ofChange treeLoopsSpec)

/-- ITS FALSE NEIGHBOUR: 'it returns false'. Refute it at one input. -/
def treeLoopsWrong : ChangeSpec := { name := "treeLoops", fn := fun _ => fun
  | [d] => { results := [.lit (.bool false)], args := [d] }
  | _ => none }
def TreeLoopsWrongFalsely : Prop := treeLoopsRow.holds Tryz.pinned (OpenSpec.ofChange treeLoopsWrong)

/-- 'oriellaw5.TreeDirs': WHATEVER THE INPUT: true; the input reads as it did. -/
def treeDirsSpec : ChangeSpec := { name := "treeDirs", fn := fun _ => fun
  | [d] => { results := [.lit (.bool true)], args := [d] }
  | _ => none }
def treeDirsRow : OpenClaim := { program := "ytnaelolekokhbaagreat", sum := "c94f000224922329afd5161b90c8fa42a047bc695e8e2b49d1da86939b3f97e1", func := "oriel/oriellaw5.TreeDirs", spec := "treeDirs", inPlace := ["internal/bytealg.IndexByteString", "internal/bytealg.IndexString", "internal/abi.NoEscape", "internal/bytealg.MakeNoZero"], unfollowed := true, recurses := true, named := ["internal/bytealg.MaxLen"], apart := false }
def TreeDirsSaid : Prop := treeDirsRow.holds Tryz.pinned (OpenSpec.ofChange treeDirsSpec)

/-- ITS FALSE NEIGHBOUR: 'it returns false'. Refute it at one input. -/
def treeDirsWrong : ChangeSpec := { name := "treeDirs", fn := fun _ => fun
  | [d] => { results := [.lit (.bool false)], args := [d] }
  | _ => none }
def TreeDirsWrongFalsely : Prop := treeDirsRow.holds Tryz.pinned (OpenSpec.ofChange treeDirsWrong)

/-- 'oriellaw5.TreeRenames': WHATEVER THE INPUT: true; the input reads as it did. -/
def treeRenamesSpec : ChangeSpec := { name := "treeRenames", fn := fun _ => fun
  | [d1, d2, d3] => { results := [.lit (.bool true)], args := [d1, d2, d3] }
  | _ => none }
def treeRenamesRow : OpenClaim := { program := "ytnaelolekokhbaagreat", sum := "c94f000224922329afd5161b90c8fa42a047bc695e8e2b49d1da86939b3f97e1", func := "oriel/oriellaw5.TreeRenames", spec := "treeRenames", inPlace := ["internal/bytealg.IndexByteString", "internal/bytealg.IndexString", "internal/abi.NoEscape", "internal/bytealg.MakeNoZero"], unfollowed := true, recurses := true, named := ["internal/bytealg.MaxLen"], apart := false }
def TreeRenamesSaid : Prop := treeRenamesRow.holds Tryz.pinned (OpenSpec.ofChange treeRenamesSpec)

/-- ITS FALSE NEIGHBOUR: 'it returns false'. Refute it at one input. -/
def treeRenamesWrong : ChangeSpec := { name := "treeRenames", fn := fun _ => fun
  | [d1, d2, d3] => { results := [.lit (.bool false)], args := [d1, d2, d3] }
  | _ => none }
def TreeRenamesWrongFalsely : Prop := treeRenamesRow.holds Tryz.pinned (OpenSpec.ofChange treeRenamesWrong)

/-- 'oriellaw5.TreeCycles': WHATEVER THE INPUT: true; the input reads as it did. -/
def treeCyclesSpec : ChangeSpec := { name := "treeCycles", fn := fun _ => fun
  | [d1, d2] => { results := [.lit (.bool true)], args := [d1, d2] }
  | _ => none }
def treeCyclesRow : OpenClaim := { program := "ytnaelolekokhbaagreat", sum := "c94f000224922329afd5161b90c8fa42a047bc695e8e2b49d1da86939b3f97e1", func := "oriel/oriellaw5.TreeCycles", spec := "treeCycles", inPlace := ["internal/bytealg.IndexByteString", "internal/bytealg.IndexString", "internal/abi.NoEscape", "internal/bytealg.MakeNoZero"], unfollowed := true, recurses := true, named := ["internal/bytealg.MaxLen"], apart := false }
def TreeCyclesSaid : Prop := treeCyclesRow.holds Tryz.pinned (OpenSpec.ofChange treeCyclesSpec)

/-- ITS FALSE NEIGHBOUR: 'it returns false'. Refute it at one input. -/
def treeCyclesWrong : ChangeSpec := { name := "treeCycles", fn := fun _ => fun
  | [d1, d2] => { results := [.lit (.bool false)], args := [d1, d2] }
  | _ => none }
def TreeCyclesWrongFalsely : Prop := treeCyclesRow.holds Tryz.pinned (OpenSpec.ofChange treeCyclesWrong)

/-- 'oriellaw5.TreeModes': WHATEVER THE INPUT: true; the input reads as it did. -/
def treeModesSpec : ChangeSpec := { name := "treeModes", fn := fun _ => fun
  | [d] => { results := [.lit (.bool true)], args := [d] }
  | _ => none }
def treeModesRow : OpenClaim := { program := "ytnaelolekokhbaagreat", sum := "c94f000224922329afd5161b90c8fa42a047bc695e8e2b49d1da86939b3f97e1", func := "oriel/oriellaw5.TreeModes", spec := "treeModes", inPlace := ["internal/bytealg.IndexByteString", "internal/bytealg.IndexString", "internal/abi.NoEscape", "internal/bytealg.MakeNoZero"], unfollowed := true, recurses := true, named := ["internal/bytealg.MaxLen"], apart := false }
def TreeModesSaid : Prop := treeModesRow.holds Tryz.pinned (OpenSpec.ofChange treeModesSpec)

/-- ITS FALSE NEIGHBOUR: 'it returns false'. Refute it at one input. -/
def treeModesWrong : ChangeSpec := { name := "treeModes", fn := fun _ => fun
  | [d] => { results := [.lit (.bool false)], args := [d] }
  | _ => none }
def TreeModesWrongFalsely : Prop := treeModesRow.holds Tryz.pinned (OpenSpec.ofChange treeModesWrong)

/-- 'oriellaw5.TreeFds': WHATEVER THE INPUT: true; the input reads as it did. -/
def treeFdsSpec : ChangeSpec := { name := "treeFds", fn := fun _ => fun
  | [d1, d2] => { results := [.lit (.bool true)], args := [d1, d2] }
  | _ => none }
def treeFdsRow : OpenClaim := { program := "ytnaelolekokhbaagreat", sum := "c94f000224922329afd5161b90c8fa42a047bc695e8e2b49d1da86939b3f97e1", func := "oriel/oriellaw5.TreeFds", spec := "treeFds", inPlace := ["internal/bytealg.IndexByteString", "internal/bytealg.IndexString", "internal/abi.NoEscape", "internal/bytealg.MakeNoZero"], unfollowed := true, recurses := true, named := ["internal/bytealg.MaxLen"], apart := false }
def TreeFdsSaid : Prop := treeFdsRow.holds Tryz.pinned (OpenSpec.ofChange treeFdsSpec)

/-- ITS FALSE NEIGHBOUR: 'it returns false'. Refute it at one input. -/
def treeFdsWrong : ChangeSpec := { name := "treeFds", fn := fun _ => fun
  | [d1, d2] => { results := [.lit (.bool false)], args := [d1, d2] }
  | _ => none }
def TreeFdsWrongFalsely : Prop := treeFdsRow.holds Tryz.pinned (OpenSpec.ofChange treeFdsWrong)

/-- 'oriellaw5.TreeCwd': WHATEVER THE INPUT: true; the input reads as it did. -/
def treeCwdSpec : ChangeSpec := { name := "treeCwd", fn := fun _ => fun
  | [d] => { results := [.lit (.bool true)], args := [d] }
  | _ => none }
def treeCwdRow : OpenClaim := { program := "ytnaelolekokhbaagreat", sum := "c94f000224922329afd5161b90c8fa42a047bc695e8e2b49d1da86939b3f97e1", func := "oriel/oriellaw5.TreeCwd", spec := "treeCwd", inPlace := ["internal/bytealg.IndexByteString", "internal/bytealg.IndexString", "internal/abi.NoEscape", "internal/bytealg.MakeNoZero"], unfollowed := true, recurses := true, named := ["internal/bytealg.MaxLen"], apart := false }
def TreeCwdSaid : Prop := treeCwdRow.holds Tryz.pinned (OpenSpec.ofChange treeCwdSpec)

/-- ITS FALSE NEIGHBOUR: 'it returns false'. Refute it at one input. -/
def treeCwdWrong : ChangeSpec := { name := "treeCwd", fn := fun _ => fun
  | [d] => { results := [.lit (.bool false)], args := [d] }
  | _ => none }
def TreeCwdWrongFalsely : Prop := treeCwdRow.holds Tryz.pinned (OpenSpec.ofChange treeCwdWrong)

/-- 'oriellaw5.TreeNames': WHATEVER THE INPUT: true; the input reads as it did. -/
def treeNamesSpec : ChangeSpec := { name := "treeNames", fn := fun _ => fun
  | [d] => { results := [.lit (.bool true)], args := [d] }
  | _ => none }
def treeNamesRow : OpenClaim := { program := "ytnaelolekokhbaagreat", sum := "c94f000224922329afd5161b90c8fa42a047bc695e8e2b49d1da86939b3f97e1", func := "oriel/oriellaw5.TreeNames", spec := "treeNames", inPlace := ["internal/bytealg.IndexByteString", "internal/bytealg.IndexString", "internal/abi.NoEscape", "internal/bytealg.MakeNoZero"], unfollowed := true, recurses := true, named := ["internal/bytealg.MaxLen"], apart := false }
def TreeNamesSaid : Prop := treeNamesRow.holds Tryz.pinned (OpenSpec.ofChange treeNamesSpec)

/-- ITS FALSE NEIGHBOUR: 'it returns false'. Refute it at one input. -/
def treeNamesWrong : ChangeSpec := { name := "treeNames", fn := fun _ => fun
  | [d] => { results := [.lit (.bool false)], args := [d] }
  | _ => none }
def TreeNamesWrongFalsely : Prop := treeNamesRow.holds Tryz.pinned (OpenSpec.ofChange treeNamesWrong)

/-- 'oriellaw5.TreeKinds': WHATEVER THE INPUT: true; the input reads as it did. -/
def treeKindsSpec : ChangeSpec := { name := "treeKinds", fn := fun _ => fun
  | [] => { results := [.lit (.bool true)], args := [] }
  | _ => none }
def treeKindsRow : OpenClaim := { program := "ytnaelolekokhbaagreat", sum := "c94f000224922329afd5161b90c8fa42a047bc695e8e2b49d1da86939b3f97e1", func := "oriel/oriellaw5.TreeKinds", spec := "treeKinds", inPlace := ["internal/bytealg.IndexByteString", "internal/bytealg.IndexString", "internal/abi.NoEscape", "internal/bytealg.MakeNoZero"], unfollowed := true, recurses := true, named := ["internal/bytealg.MaxLen"], apart := false }
def TreeKindsSaid : Prop := treeKindsRow.holds Tryz.pinned (OpenSpec.ofChange treeKindsSpec)

/-- ITS FALSE NEIGHBOUR: 'it returns false'. Refute it at one input. -/
def treeKindsWrong : ChangeSpec := { name := "treeKinds", fn := fun _ => fun
  | [] => { results := [.lit (.bool false)], args := [] }
  | _ => none }
def TreeKindsWrongFalsely : Prop := treeKindsRow.holds Tryz.pinned (OpenSpec.ofChange treeKindsWrong)

/-- 'oriellaw5.TreeFull': WHATEVER THE INPUT: true; the input reads as it did. -/
def treeFullSpec : ChangeSpec := { name := "treeFull", fn := fun _ => fun
  | [d] => { results := [.lit (.bool true)], args := [d] }
  | _ => none }
def treeFullRow : OpenClaim := { program := "ytnaelolekokhbaagreat", sum := "c94f000224922329afd5161b90c8fa42a047bc695e8e2b49d1da86939b3f97e1", func := "oriel/oriellaw5.TreeFull", spec := "treeFull", inPlace := ["internal/bytealg.IndexByteString", "internal/bytealg.IndexString", "internal/abi.NoEscape", "internal/bytealg.MakeNoZero"], unfollowed := true, recurses := true, named := ["internal/bytealg.MaxLen"], apart := false }
def TreeFullSaid : Prop := treeFullRow.holds Tryz.pinned (OpenSpec.ofChange treeFullSpec)

/-- ITS FALSE NEIGHBOUR: 'it returns false'. Refute it at one input. -/
def treeFullWrong : ChangeSpec := { name := "treeFull", fn := fun _ => fun
  | [d] => { results := [.lit (.bool false)], args := [d] }
  | _ => none }
def TreeFullWrongFalsely : Prop := treeFullRow.holds Tryz.pinned (OpenSpec.ofChange treeFullWrong)

/-- 'oriellaw5.TreeRows': WHATEVER THE INPUT: true; the input reads as it did. -/
def treeRowsSpec : ChangeSpec := { name := "treeRows", fn := fun _ => fun
  | [d] => { results := [.lit (.bool true)], args := [d] }
  | _ => none }
def treeRowsRow : OpenClaim := { program := "ytnaelolekokhbaagreat", sum := "c94f000224922329afd5161b90c8fa42a047bc695e8e2b49d1da86939b3f97e1", func := "oriel/oriellaw5.TreeRows", spec := "treeRows", inPlace := ["internal/bytealg.IndexByteString", "internal/bytealg.IndexString", "internal/abi.NoEscape", "internal/bytealg.MakeNoZero"], unfollowed := true, recurses := true, named := ["internal/bytealg.MaxLen"], apart := false }
def TreeRowsSaid : Prop := treeRowsRow.holds Tryz.pinned (OpenSpec.ofChange treeRowsSpec)

/-- ITS FALSE NEIGHBOUR: 'it returns false'. Refute it at one input. -/
def treeRowsWrong : ChangeSpec := { name := "treeRows", fn := fun _ => fun
  | [d] => { results := [.lit (.bool false)], args := [d] }
  | _ => none }
def TreeRowsWrongFalsely : Prop := treeRowsRow.holds Tryz.pinned (OpenSpec.ofChange treeRowsWrong)

/-- 'oriellaw5.TreeDeepens': WHATEVER THE INPUT: true; the input reads as it did. -/
def treeDeepensSpec : ChangeSpec := { name := "treeDeepens", fn := fun _ => fun
  | [d1, d2] => { results := [.lit (.bool true)], args := [d1, d2] }
  | _ => none }
def treeDeepensRow : OpenClaim := { program := "ytnaelolekokhbaagreat", sum := "c94f000224922329afd5161b90c8fa42a047bc695e8e2b49d1da86939b3f97e1", func := "oriel/oriellaw5.TreeDeepens", spec := "treeDeepens", inPlace := ["internal/bytealg.IndexByteString", "internal/bytealg.IndexString", "internal/abi.NoEscape", "internal/bytealg.MakeNoZero"], unfollowed := true, recurses := true, named := ["internal/bytealg.MaxLen"], apart := false }
def TreeDeepensSaid : Prop := treeDeepensRow.holds Tryz.pinned (OpenSpec.ofChange treeDeepensSpec)

/-- ITS FALSE NEIGHBOUR: 'it returns false'. Refute it at one input. -/
def treeDeepensWrong : ChangeSpec := { name := "treeDeepens", fn := fun _ => fun
  | [d1, d2] => { results := [.lit (.bool false)], args := [d1, d2] }
  | _ => none }
def TreeDeepensWrongFalsely : Prop := treeDeepensRow.holds Tryz.pinned (OpenSpec.ofChange treeDeepensWrong)

/-- 'oriellaw5.TreeThrough': WHATEVER THE INPUT: true; the input reads as it did. -/
def treeThroughSpec : ChangeSpec := { name := "treeThrough", fn := fun _ => fun
  | [d1, d2] => { results := [.lit (.bool true)], args := [d1, d2] }
  | _ => none }
def treeThroughRow : OpenClaim := { program := "ytnaelolekokhbaagreat", sum := "c94f000224922329afd5161b90c8fa42a047bc695e8e2b49d1da86939b3f97e1", func := "oriel/oriellaw5.TreeThrough", spec := "treeThrough", inPlace := ["internal/bytealg.IndexByteString", "internal/bytealg.IndexString", "internal/abi.NoEscape", "internal/bytealg.MakeNoZero"], unfollowed := true, recurses := true, named := ["internal/bytealg.MaxLen"], apart := false }
def TreeThroughSaid : Prop := treeThroughRow.holds Tryz.pinned (OpenSpec.ofChange treeThroughSpec)

/-- ITS FALSE NEIGHBOUR: 'it returns false'. Refute it at one input. -/
def treeThroughWrong : ChangeSpec := { name := "treeThrough", fn := fun _ => fun
  | [d1, d2] => { results := [.lit (.bool false)], args := [d1, d2] }
  | _ => none }
def TreeThroughWrongFalsely : Prop := treeThroughRow.holds Tryz.pinned (OpenSpec.ofChange treeThroughWrong)

/-- 'oriellaw5.TreeOfs': WHATEVER THE INPUT: true; the input reads as it did. -/
def treeOfsSpec : ChangeSpec := { name := "treeOfs", fn := fun _ => fun
  | [d] => { results := [.lit (.bool true)], args := [d] }
  | _ => none }
def treeOfsRow : OpenClaim := { program := "ytnaelolekokhbaagreat", sum := "c94f000224922329afd5161b90c8fa42a047bc695e8e2b49d1da86939b3f97e1", func := "oriel/oriellaw5.TreeOfs", spec := "treeOfs", inPlace := ["internal/bytealg.IndexByteString", "internal/bytealg.IndexString", "internal/abi.NoEscape", "internal/bytealg.MakeNoZero"], unfollowed := true, recurses := true, named := ["internal/bytealg.MaxLen"], apart := false }
def TreeOfsSaid : Prop := treeOfsRow.holds Tryz.pinned (OpenSpec.ofChange treeOfsSpec)

/-- ITS FALSE NEIGHBOUR: 'it returns false'. Refute it at one input. -/
def treeOfsWrong : ChangeSpec := { name := "treeOfs", fn := fun _ => fun
  | [d] => { results := [.lit (.bool false)], args := [d] }
  | _ => none }
def TreeOfsWrongFalsely : Prop := treeOfsRow.holds Tryz.pinned (OpenSpec.ofChange treeOfsWrong)

/-- 'oriellaw5.TreeBack': WHATEVER THE INPUT: true; the input reads as it did. -/
def treeBackSpec : ChangeSpec := { name := "treeBack", fn := fun _ => fun
  | [d] => { results := [.lit (.bool true)], args := [d] }
  | _ => none }
def treeBackRow : OpenClaim := { program := "ytnaelolekokhbaagreat", sum := "c94f000224922329afd5161b90c8fa42a047bc695e8e2b49d1da86939b3f97e1", func := "oriel/oriellaw5.TreeBack", spec := "treeBack", inPlace := ["internal/bytealg.IndexByteString", "internal/bytealg.IndexString", "internal/abi.NoEscape", "internal/bytealg.MakeNoZero"], unfollowed := true, recurses := true, named := ["internal/bytealg.MaxLen"], apart := false }
def TreeBackSaid : Prop := treeBackRow.holds Tryz.pinned (OpenSpec.ofChange treeBackSpec)

/-- ITS FALSE NEIGHBOUR: 'it returns false'. Refute it at one input. -/
def treeBackWrong : ChangeSpec := { name := "treeBack", fn := fun _ => fun
  | [d] => { results := [.lit (.bool false)], args := [d] }
  | _ => none }
def TreeBackWrongFalsely : Prop := treeBackRow.holds Tryz.pinned (OpenSpec.ofChange treeBackWrong)

/- THE SECOND FORM. 'bulk': how many values and letters a reading holds, each counted each time it is reached (what is shared counts as often as it is met; a slice's spare places count too). A statement '..UptoSaid' is the law's where the arguments, and the package variables that the reading takes, are together of bulk at most 1048576: NARROWER than '..Said'. Prove '..Said' where nothing that the law and all that it calls make is longer than what came in: it says more and counts as full. Else prove '..UptoSaid'. A law counts once. -/
mutual
def uptoBulk {H : Type} : DataW H → Nat
  | .lit (.string bytes) => bytes.length + 1
  | .lit _ => 1
  | .nil => 1
  | .ptr d => uptoBulk d + 1
  | .slice elems spare => uptoBulkAll elems + uptoBulkAll spare + 1
  | .agg parts => uptoBulkAll parts + 1
  | .iface _ d => uptoBulk d + 1
  | .map entries => uptoBulkEntries entries + 1
  | .held _ => 1
def uptoBulkAll {H : Type} : List (DataW H) → Nat
  | [] => 0
  | d :: r => uptoBulk d + uptoBulkAll r
def uptoBulkEntries {H : Type} : List (Lit × DataW H) → Nat
  | [] => 0
  | x :: r => uptoBulkEntry x + uptoBulkEntries r
def uptoBulkEntry {H : Type} : Lit × DataW H → Nat
  | (.string bytes, d) => bytes.length + uptoBulk d + 1
  | (_, d) => uptoBulk d + 1
 end
def uptoSmall : (H : Type) → List (DataW H) → Bool := fun _ ds => decide (uptoBulkAll ds ≤ 1048576)
def OpenSpec.upto (s : _root_.Go.ChangeSpec) : _root_.Go.OpenSpec := { _root_.Go.OpenSpec.ofChange s with cond := some uptoSmall }

/-- 'oriellaw5.TreeCreates', WHERE WHAT IT READS IS OF BULK AT MOST 1048576: true; the input reads as it did. -/
def treeCreatesUptoRow : OpenClaim := { program := "ytnaelolekokhbaagreat", sum := "c94f000224922329afd5161b90c8fa42a047bc695e8e2b49d1da86939b3f97e1", func := "oriel/oriellaw5.TreeCreates", spec := "treeCreates", inPlace := ["internal/bytealg.IndexByteString", "internal/bytealg.IndexString", "internal/abi.NoEscape", "internal/bytealg.MakeNoZero"], unfollowed := true, recurses := true, named := ["internal/bytealg.MaxLen"], apart := false, narrowed := true }
def TreeCreatesUptoSaid : Prop := treeCreatesUptoRow.holds Tryz.pinned (OpenSpec.upto treeCreatesSpec)

/-- 'oriellaw5.TreeWrites', WHERE WHAT IT READS IS OF BULK AT MOST 1048576: true; the input reads as it did. -/
def treeWritesUptoRow : OpenClaim := { program := "ytnaelolekokhbaagreat", sum := "c94f000224922329afd5161b90c8fa42a047bc695e8e2b49d1da86939b3f97e1", func := "oriel/oriellaw5.TreeWrites", spec := "treeWrites", inPlace := ["internal/bytealg.IndexByteString", "internal/bytealg.IndexString", "internal/abi.NoEscape", "internal/bytealg.MakeNoZero"], unfollowed := true, recurses := true, named := ["internal/bytealg.MaxLen"], apart := false, narrowed := true }
def TreeWritesUptoSaid : Prop := treeWritesUptoRow.holds Tryz.pinned (OpenSpec.upto treeWritesSpec)

/-- 'oriellaw5.TreeSizes', WHERE WHAT IT READS IS OF BULK AT MOST 1048576: true; the input reads as it did. -/
def treeSizesUptoRow : OpenClaim := { program := "ytnaelolekokhbaagreat", sum := "c94f000224922329afd5161b90c8fa42a047bc695e8e2b49d1da86939b3f97e1", func := "oriel/oriellaw5.TreeSizes", spec := "treeSizes", inPlace := ["internal/bytealg.IndexByteString", "internal/bytealg.IndexString", "internal/abi.NoEscape", "internal/bytealg.MakeNoZero"], unfollowed := true, recurses := true, named := ["internal/bytealg.MaxLen"], apart := false, narrowed := true }
def TreeSizesUptoSaid : Prop := treeSizesUptoRow.holds Tryz.pinned (OpenSpec.upto treeSizesSpec)

/-- 'oriellaw5.TreeLinks', WHERE WHAT IT READS IS OF BULK AT MOST 1048576: true; the input reads as it did. -/
def treeLinksUptoRow : OpenClaim := { program := "ytnaelolekokhbaagreat", sum := "c94f000224922329afd5161b90c8fa42a047bc695e8e2b49d1da86939b3f97e1", func := "oriel/oriellaw5.TreeLinks", spec := "treeLinks", inPlace := ["internal/bytealg.IndexByteString", "internal/bytealg.IndexString", "internal/abi.NoEscape", "internal/bytealg.MakeNoZero"], unfollowed := true, recurses := true, named := ["internal/bytealg.MaxLen"], apart := false, narrowed := true }
def TreeLinksUptoSaid : Prop := treeLinksUptoRow.holds Tryz.pinned (OpenSpec.upto treeLinksSpec)

/-- 'oriellaw5.TreeLoops', WHERE WHAT IT READS IS OF BULK AT MOST 1048576: true; the input reads as it did. -/
def treeLoopsUptoRow : OpenClaim := { program := "ytnaelolekokhbaagreat", sum := "c94f000224922329afd5161b90c8fa42a047bc695e8e2b49d1da86939b3f97e1", func := "oriel/oriellaw5.TreeLoops", spec := "treeLoops", inPlace := ["internal/bytealg.IndexByteString", "internal/bytealg.IndexString", "internal/abi.NoEscape", "internal/bytealg.MakeNoZero"], unfollowed := true, recurses := true, named := ["internal/bytealg.MaxLen"], apart := false, narrowed := true }
def TreeLoopsUptoSaid : Prop := treeLoopsUptoRow.holds Tryz.pinned (OpenSpec.upto treeLoopsSpec)

/-- 'oriellaw5.TreeDirs', WHERE WHAT IT READS IS OF BULK AT MOST 1048576: true; the input reads as it did. -/
def treeDirsUptoRow : OpenClaim := { program := "ytnaelolekokhbaagreat", sum := "c94f000224922329afd5161b90c8fa42a047bc695e8e2b49d1da86939b3f97e1", func := "oriel/oriellaw5.TreeDirs", spec := "treeDirs", inPlace := ["internal/bytealg.IndexByteString", "internal/bytealg.IndexString", "internal/abi.NoEscape", "internal/bytealg.MakeNoZero"], unfollowed := true, recurses := true, named := ["internal/bytealg.MaxLen"], apart := false, narrowed := true }
def TreeDirsUptoSaid : Prop := treeDirsUptoRow.holds Tryz.pinned (OpenSpec.upto treeDirsSpec)

/-- 'oriellaw5.TreeRenames', WHERE WHAT IT READS IS OF BULK AT MOST 1048576: true; the input reads as it did. -/
def treeRenamesUptoRow : OpenClaim := { program := "ytnaelolekokhbaagreat", sum := "c94f000224922329afd5161b90c8fa42a047bc695e8e2b49d1da86939b3f97e1", func := "oriel/oriellaw5.TreeRenames", spec := "treeRenames", inPlace := ["internal/bytealg.IndexByteString", "internal/bytealg.IndexString", "internal/abi.NoEscape", "internal/bytealg.MakeNoZero"], unfollowed := true, recurses := true, named := ["internal/bytealg.MaxLen"], apart := false, narrowed := true }
def TreeRenamesUptoSaid : Prop := treeRenamesUptoRow.holds Tryz.pinned (OpenSpec.upto treeRenamesSpec)

/-- 'oriellaw5.TreeCycles', WHERE WHAT IT READS IS OF BULK AT MOST 1048576: true; the input reads as it did. -/
def treeCyclesUptoRow : OpenClaim := { program := "ytnaelolekokhbaagreat", sum := "c94f000224922329afd5161b90c8fa42a047bc695e8e2b49d1da86939b3f97e1", func := "oriel/oriellaw5.TreeCycles", spec := "treeCycles", inPlace := ["internal/bytealg.IndexByteString", "internal/bytealg.IndexString", "internal/abi.NoEscape", "internal/bytealg.MakeNoZero"], unfollowed := true, recurses := true, named := ["internal/bytealg.MaxLen"], apart := false, narrowed := true }
def TreeCyclesUptoSaid : Prop := treeCyclesUptoRow.holds Tryz.pinned (OpenSpec.upto treeCyclesSpec)

/-- 'oriellaw5.TreeModes', WHERE WHAT IT READS IS OF BULK AT MOST 1048576: true; the input reads as it did. -/
def treeModesUptoRow : OpenClaim := { program := "ytnaelolekokhbaagreat", sum := "c94f000224922329afd5161b90c8fa42a047bc695e8e2b49d1da86939b3f97e1", func := "oriel/oriellaw5.TreeModes", spec := "treeModes", inPlace := ["internal/bytealg.IndexByteString", "internal/bytealg.IndexString", "internal/abi.NoEscape", "internal/bytealg.MakeNoZero"], unfollowed := true, recurses := true, named := ["internal/bytealg.MaxLen"], apart := false, narrowed := true }
def TreeModesUptoSaid : Prop := treeModesUptoRow.holds Tryz.pinned (OpenSpec.upto treeModesSpec)

/-- 'oriellaw5.TreeFds', WHERE WHAT IT READS IS OF BULK AT MOST 1048576: true; the input reads as it did. -/
def treeFdsUptoRow : OpenClaim := { program := "ytnaelolekokhbaagreat", sum := "c94f000224922329afd5161b90c8fa42a047bc695e8e2b49d1da86939b3f97e1", func := "oriel/oriellaw5.TreeFds", spec := "treeFds", inPlace := ["internal/bytealg.IndexByteString", "internal/bytealg.IndexString", "internal/abi.NoEscape", "internal/bytealg.MakeNoZero"], unfollowed := true, recurses := true, named := ["internal/bytealg.MaxLen"], apart := false, narrowed := true }
def TreeFdsUptoSaid : Prop := treeFdsUptoRow.holds Tryz.pinned (OpenSpec.upto treeFdsSpec)

/-- 'oriellaw5.TreeCwd', WHERE WHAT IT READS IS OF BULK AT MOST 1048576: true; the input reads as it did. -/
def treeCwdUptoRow : OpenClaim := { program := "ytnaelolekokhbaagreat", sum := "c94f000224922329afd5161b90c8fa42a047bc695e8e2b49d1da86939b3f97e1", func := "oriel/oriellaw5.TreeCwd", spec := "treeCwd", inPlace := ["internal/bytealg.IndexByteString", "internal/bytealg.IndexString", "internal/abi.NoEscape", "internal/bytealg.MakeNoZero"], unfollowed := true, recurses := true, named := ["internal/bytealg.MaxLen"], apart := false, narrowed := true }
def TreeCwdUptoSaid : Prop := treeCwdUptoRow.holds Tryz.pinned (OpenSpec.upto treeCwdSpec)

/-- 'oriellaw5.TreeNames', WHERE WHAT IT READS IS OF BULK AT MOST 1048576: true; the input reads as it did. -/
def treeNamesUptoRow : OpenClaim := { program := "ytnaelolekokhbaagreat", sum := "c94f000224922329afd5161b90c8fa42a047bc695e8e2b49d1da86939b3f97e1", func := "oriel/oriellaw5.TreeNames", spec := "treeNames", inPlace := ["internal/bytealg.IndexByteString", "internal/bytealg.IndexString", "internal/abi.NoEscape", "internal/bytealg.MakeNoZero"], unfollowed := true, recurses := true, named := ["internal/bytealg.MaxLen"], apart := false, narrowed := true }
def TreeNamesUptoSaid : Prop := treeNamesUptoRow.holds Tryz.pinned (OpenSpec.upto treeNamesSpec)

/-- 'oriellaw5.TreeKinds', WHERE WHAT IT READS IS OF BULK AT MOST 1048576: true; the input reads as it did. -/
def treeKindsUptoRow : OpenClaim := { program := "ytnaelolekokhbaagreat", sum := "c94f000224922329afd5161b90c8fa42a047bc695e8e2b49d1da86939b3f97e1", func := "oriel/oriellaw5.TreeKinds", spec := "treeKinds", inPlace := ["internal/bytealg.IndexByteString", "internal/bytealg.IndexString", "internal/abi.NoEscape", "internal/bytealg.MakeNoZero"], unfollowed := true, recurses := true, named := ["internal/bytealg.MaxLen"], apart := false, narrowed := true }
def TreeKindsUptoSaid : Prop := treeKindsUptoRow.holds Tryz.pinned (OpenSpec.upto treeKindsSpec)

/-- 'oriellaw5.TreeFull', WHERE WHAT IT READS IS OF BULK AT MOST 1048576: true; the input reads as it did. -/
def treeFullUptoRow : OpenClaim := { program := "ytnaelolekokhbaagreat", sum := "c94f000224922329afd5161b90c8fa42a047bc695e8e2b49d1da86939b3f97e1", func := "oriel/oriellaw5.TreeFull", spec := "treeFull", inPlace := ["internal/bytealg.IndexByteString", "internal/bytealg.IndexString", "internal/abi.NoEscape", "internal/bytealg.MakeNoZero"], unfollowed := true, recurses := true, named := ["internal/bytealg.MaxLen"], apart := false, narrowed := true }
def TreeFullUptoSaid : Prop := treeFullUptoRow.holds Tryz.pinned (OpenSpec.upto treeFullSpec)

/-- 'oriellaw5.TreeRows', WHERE WHAT IT READS IS OF BULK AT MOST 1048576: true; the input reads as it did. -/
def treeRowsUptoRow : OpenClaim := { program := "ytnaelolekokhbaagreat", sum := "c94f000224922329afd5161b90c8fa42a047bc695e8e2b49d1da86939b3f97e1", func := "oriel/oriellaw5.TreeRows", spec := "treeRows", inPlace := ["internal/bytealg.IndexByteString", "internal/bytealg.IndexString", "internal/abi.NoEscape", "internal/bytealg.MakeNoZero"], unfollowed := true, recurses := true, named := ["internal/bytealg.MaxLen"], apart := false, narrowed := true }
def TreeRowsUptoSaid : Prop := treeRowsUptoRow.holds Tryz.pinned (OpenSpec.upto treeRowsSpec)

/-- 'oriellaw5.TreeDeepens', WHERE WHAT IT READS IS OF BULK AT MOST 1048576: true; the input reads as it did. -/
def treeDeepensUptoRow : OpenClaim := { program := "ytnaelolekokhbaagreat", sum := "c94f000224922329afd5161b90c8fa42a047bc695e8e2b49d1da86939b3f97e1", func := "oriel/oriellaw5.TreeDeepens", spec := "treeDeepens", inPlace := ["internal/bytealg.IndexByteString", "internal/bytealg.IndexString", "internal/abi.NoEscape", "internal/bytealg.MakeNoZero"], unfollowed := true, recurses := true, named := ["internal/bytealg.MaxLen"], apart := false, narrowed := true }
def TreeDeepensUptoSaid : Prop := treeDeepensUptoRow.holds Tryz.pinned (OpenSpec.upto treeDeepensSpec)

/-- 'oriellaw5.TreeThrough', WHERE WHAT IT READS IS OF BULK AT MOST 1048576: true; the input reads as it did. -/
def treeThroughUptoRow : OpenClaim := { program := "ytnaelolekokhbaagreat", sum := "c94f000224922329afd5161b90c8fa42a047bc695e8e2b49d1da86939b3f97e1", func := "oriel/oriellaw5.TreeThrough", spec := "treeThrough", inPlace := ["internal/bytealg.IndexByteString", "internal/bytealg.IndexString", "internal/abi.NoEscape", "internal/bytealg.MakeNoZero"], unfollowed := true, recurses := true, named := ["internal/bytealg.MaxLen"], apart := false, narrowed := true }
def TreeThroughUptoSaid : Prop := treeThroughUptoRow.holds Tryz.pinned (OpenSpec.upto treeThroughSpec)

/-- 'oriellaw5.TreeOfs', WHERE WHAT IT READS IS OF BULK AT MOST 1048576: true; the input reads as it did. -/
def treeOfsUptoRow : OpenClaim := { program := "ytnaelolekokhbaagreat", sum := "c94f000224922329afd5161b90c8fa42a047bc695e8e2b49d1da86939b3f97e1", func := "oriel/oriellaw5.TreeOfs", spec := "treeOfs", inPlace := ["internal/bytealg.IndexByteString", "internal/bytealg.IndexString", "internal/abi.NoEscape", "internal/bytealg.MakeNoZero"], unfollowed := true, recurses := true, named := ["internal/bytealg.MaxLen"], apart := false, narrowed := true }
def TreeOfsUptoSaid : Prop := treeOfsUptoRow.holds Tryz.pinned (OpenSpec.upto treeOfsSpec)

/-- 'oriellaw5.TreeBack', WHERE WHAT IT READS IS OF BULK AT MOST 1048576: true; the input reads as it did. -/
def treeBackUptoRow : OpenClaim := { program := "ytnaelolekokhbaagreat", sum := "c94f000224922329afd5161b90c8fa42a047bc695e8e2b49d1da86939b3f97e1", func := "oriel/oriellaw5.TreeBack", spec := "treeBack", inPlace := ["internal/bytealg.IndexByteString", "internal/bytealg.IndexString", "internal/abi.NoEscape", "internal/bytealg.MakeNoZero"], unfollowed := true, recurses := true, named := ["internal/bytealg.MaxLen"], apart := false, narrowed := true }
def TreeBackUptoSaid : Prop := treeBackUptoRow.holds Tryz.pinned (OpenSpec.upto treeBackSpec)

end Rows
end Go.Proofs.YtnaelolekokhbaaGreat
