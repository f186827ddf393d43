/-
  NARROWER THAN 'FOR EVERY INPUT', by the rows' own cells (each row's printed sentence says how): ProcOnly: laid · ProcCreates: laid · ProcWrites: laid · ProcSizes: laid · ProcLinks: laid · ProcLoops: laid · ProcDirs: laid · ProcRenames: laid · ProcCycles: laid · ProcModes: laid · ProcFds: laid · ProcCwd: laid · ProcNames: laid · ProcKinds: laid · ProcFull: laid · ProcBinds: laid · ProcRows: laid · ProcDeepens: laid · ProcThrough: laid.
  DERIVED. THE GIVEN ROWS OF THIS SEAT. 19 by the template 'for every input the law returns true; each argument reads behind the call as it read before'; 0 by the template 'total and deterministic' (their statements: YthkkdhjekjoalaaGreatDoorTotals.lean).
  GIVEN WITH THE SEED: the statements are not yours to turn. If you find one false, say at which input.
  Laid BY PROGRAM, IN A SANDBOX (cutbox-rows.mjs): the forced cells as the released guide's own fill.sh prints them over the translation 479afda1599841ec… (all of the seat's roots in one cut). By AI agents, Wed Nov 11 2026. No macro, syntax, notation, axiom, sorry.
-/
import Derived.Test.YthkkdhjekjoalaaGreatDoorChecked
import GoSem.PinnedTables
import GoSem.Claim
import GoSem.ClaimJoined
import GoSem.ClaimMapViews
import Derived.JoinedTies
import Derived.KernelRfl
namespace Go.Proofs.YthkkdhjekjoalaaGreatDoor
/- THE CELL 'sum', in the pinned program and in every row, IS THE sha256 OF THE DUMP (.gsa) THAT YthkkdhjekjoalaaGreatDoorProg.lean LOADS. Nothing in Lean hashes anything: it is a label: what it is worth is what the hold of that sum in a sandbox is worth. -/
noncomputable def Tryz.pinned : Pinned := { name := "ythkkdhjekjoalaagreatdoor", sum := "479afda1599841ec94ed41cf6d1f4190533076a937a37bddea8711b627d2f8ec", checked := Tryz.checked }
namespace Rows
def none {H : Type} : Left H := { results := [], args := [] }

/- WHAT THE LISTED PACKAGE-LEVEL VARIABLES READ AS WHEN THE CALL BEGINS. Each datum BY PROGRAM (the guide's laid-datum.mjs) off the statement by which the dump's own 'gosem.cut.vars' lays the variable. In a bare row this is a premise. The card (YthkkdhjekjoalaaGreatDoorCards.lean) ties it to the program's text. -/
def laid_unicode_utf8_acceptRanges {H : Type} : DataW H := .agg [.agg [.lit (.int .u8 128), .lit (.int .u8 191)], .agg [.lit (.int .u8 160), .lit (.int .u8 191)], .agg [.lit (.int .u8 128), .lit (.int .u8 159)], .agg [.lit (.int .u8 144), .lit (.int .u8 191)], .agg [.lit (.int .u8 128), .lit (.int .u8 143)], .agg [.lit (.int .u8 0), .lit (.int .u8 0)], .agg [.lit (.int .u8 0), .lit (.int .u8 0)], .agg [.lit (.int .u8 0), .lit (.int .u8 0)], .agg [.lit (.int .u8 0), .lit (.int .u8 0)], .agg [.lit (.int .u8 0), .lit (.int .u8 0)], .agg [.lit (.int .u8 0), .lit (.int .u8 0)], .agg [.lit (.int .u8 0), .lit (.int .u8 0)], .agg [.lit (.int .u8 0), .lit (.int .u8 0)], .agg [.lit (.int .u8 0), .lit (.int .u8 0)], .agg [.lit (.int .u8 0), .lit (.int .u8 0)], .agg [.lit (.int .u8 0), .lit (.int .u8 0)]]
/-- One of Go's own tables, pinned by name: the form's constant. -/
def laid_unicode_utf8_first : DataW Unit := Go.Pinned.utf8First

/-- 'oriellaw24.ProcOnly': WHATEVER THE INPUT: true; the input reads as it did. -/
def procOnlySpec : ChangeSpec := { name := "procOnly", fn := fun _ => fun
  | [d1, d2] => { results := [.lit (.bool true)], args := [d1, d2] }
  | _ => none }
def procOnlyRow : OpenClaim := { program := "ythkkdhjekjoalaagreatdoor", sum := "479afda1599841ec94ed41cf6d1f4190533076a937a37bddea8711b627d2f8ec", func := "oriel/oriellaw24.ProcOnly", spec := "procOnly", inPlace := ["math.Float64frombits", "math.Float64bits", "internal/bytealg.IndexByteString", "internal/bytealg.IndexString", "internal/abi.NoEscape", "internal/bytealg.MakeNoZero", "math.archTrunc", "slices.overlaps[oriel/api.Mount]"], unfollowed := true, recurses := true, named := ["internal/bytealg.MaxLen", "unicode/utf8.first", "unicode/utf8.acceptRanges"], apart := false, laid := [("unicode/utf8.acceptRanges", laid_unicode_utf8_acceptRanges), ("unicode/utf8.first", laid_unicode_utf8_first)] }
def ProcOnlySaid : Prop := procOnlyRow.holds Tryz.pinned (OpenSpec.ofChange procOnlySpec)

/-- ITS FALSE NEIGHBOUR: 'it returns false'. Refute it at one input. -/
def procOnlyWrong : ChangeSpec := { name := "procOnly", fn := fun _ => fun
  | [d1, d2] => { results := [.lit (.bool false)], args := [d1, d2] }
  | _ => none }
def ProcOnlyWrongFalsely : Prop := procOnlyRow.holds Tryz.pinned (OpenSpec.ofChange procOnlyWrong)

/-- 'oriellaw24.ProcCreates': WHATEVER THE INPUT: true; the input reads as it did. -/
def procCreatesSpec : ChangeSpec := { name := "procCreates", fn := fun _ => fun
  | [d] => { results := [.lit (.bool true)], args := [d] }
  | _ => none }
def procCreatesRow : OpenClaim := { program := "ythkkdhjekjoalaagreatdoor", sum := "479afda1599841ec94ed41cf6d1f4190533076a937a37bddea8711b627d2f8ec", func := "oriel/oriellaw24.ProcCreates", spec := "procCreates", inPlace := ["math.Float64frombits", "math.Float64bits", "internal/bytealg.IndexByteString", "internal/bytealg.IndexString", "internal/abi.NoEscape", "internal/bytealg.MakeNoZero", "math.archTrunc", "slices.overlaps[oriel/api.Mount]"], unfollowed := true, recurses := true, named := ["internal/bytealg.MaxLen", "unicode/utf8.first", "unicode/utf8.acceptRanges"], apart := false, laid := [("unicode/utf8.acceptRanges", laid_unicode_utf8_acceptRanges), ("unicode/utf8.first", laid_unicode_utf8_first)] }
def ProcCreatesSaid : Prop := procCreatesRow.holds Tryz.pinned (OpenSpec.ofChange procCreatesSpec)

/-- ITS FALSE NEIGHBOUR: 'it returns false'. Refute it at one input. -/
def procCreatesWrong : ChangeSpec := { name := "procCreates", fn := fun _ => fun
  | [d] => { results := [.lit (.bool false)], args := [d] }
  | _ => none }
def ProcCreatesWrongFalsely : Prop := procCreatesRow.holds Tryz.pinned (OpenSpec.ofChange procCreatesWrong)

/-- 'oriellaw24.ProcWrites': WHATEVER THE INPUT: true; the input reads as it did. -/
def procWritesSpec : ChangeSpec := { name := "procWrites", fn := fun _ => fun
  | [d1, d2] => { results := [.lit (.bool true)], args := [d1, d2] }
  | _ => none }
def procWritesRow : OpenClaim := { program := "ythkkdhjekjoalaagreatdoor", sum := "479afda1599841ec94ed41cf6d1f4190533076a937a37bddea8711b627d2f8ec", func := "oriel/oriellaw24.ProcWrites", spec := "procWrites", inPlace := ["math.Float64frombits", "math.Float64bits", "internal/bytealg.IndexByteString", "internal/bytealg.IndexString", "internal/abi.NoEscape", "internal/bytealg.MakeNoZero", "math.archTrunc", "slices.overlaps[oriel/api.Mount]"], unfollowed := true, recurses := true, named := ["internal/bytealg.MaxLen", "unicode/utf8.first", "unicode/utf8.acceptRanges"], apart := false, laid := [("unicode/utf8.acceptRanges", laid_unicode_utf8_acceptRanges), ("unicode/utf8.first", laid_unicode_utf8_first)] }
def ProcWritesSaid : Prop := procWritesRow.holds Tryz.pinned (OpenSpec.ofChange procWritesSpec)

/-- ITS FALSE NEIGHBOUR: 'it returns false'. Refute it at one input. -/
def procWritesWrong : ChangeSpec := { name := "procWrites", fn := fun _ => fun
  | [d1, d2] => { results := [.lit (.bool false)], args := [d1, d2] }
  | _ => none }
def ProcWritesWrongFalsely : Prop := procWritesRow.holds Tryz.pinned (OpenSpec.ofChange procWritesWrong)

/-- 'oriellaw24.ProcSizes': WHATEVER THE INPUT: true; the input reads as it did. -/
def procSizesSpec : ChangeSpec := { name := "procSizes", fn := fun _ => fun
  | [d1, d2] => { results := [.lit (.bool true)], args := [d1, d2] }
  | _ => none }
def procSizesRow : OpenClaim := { program := "ythkkdhjekjoalaagreatdoor", sum := "479afda1599841ec94ed41cf6d1f4190533076a937a37bddea8711b627d2f8ec", func := "oriel/oriellaw24.ProcSizes", spec := "procSizes", inPlace := ["math.Float64frombits", "math.Float64bits", "internal/bytealg.IndexByteString", "internal/bytealg.IndexString", "internal/abi.NoEscape", "internal/bytealg.MakeNoZero", "math.archTrunc", "slices.overlaps[oriel/api.Mount]"], unfollowed := true, recurses := true, named := ["internal/bytealg.MaxLen", "unicode/utf8.first", "unicode/utf8.acceptRanges"], apart := false, laid := [("unicode/utf8.acceptRanges", laid_unicode_utf8_acceptRanges), ("unicode/utf8.first", laid_unicode_utf8_first)] }
def ProcSizesSaid : Prop := procSizesRow.holds Tryz.pinned (OpenSpec.ofChange procSizesSpec)

/-- ITS FALSE NEIGHBOUR: 'it returns false'. Refute it at one input. -/
def procSizesWrong : ChangeSpec := { name := "procSizes", fn := fun _ => fun
  | [d1, d2] => { results := [.lit (.bool false)], args := [d1, d2] }
  | _ => none }
def ProcSizesWrongFalsely : Prop := procSizesRow.holds Tryz.pinned (OpenSpec.ofChange procSizesWrong)

/-- 'oriellaw24.ProcLinks': WHATEVER THE INPUT: true; the input reads as it did. -/
def procLinksSpec : ChangeSpec := { name := "procLinks", fn := fun _ => fun
  | [d1, d2] => { results := [.lit (.bool true)], args := [d1, d2] }
  | _ => none }
def procLinksRow : OpenClaim := { program := "ythkkdhjekjoalaagreatdoor", sum := "479afda1599841ec94ed41cf6d1f4190533076a937a37bddea8711b627d2f8ec", func := "oriel/oriellaw24.ProcLinks", spec := "procLinks", inPlace := ["math.Float64frombits", "math.Float64bits", "internal/bytealg.IndexByteString", "internal/bytealg.IndexString", "internal/abi.NoEscape", "internal/bytealg.MakeNoZero", "math.archTrunc", "slices.overlaps[oriel/api.Mount]"], unfollowed := true, recurses := true, named := ["internal/bytealg.MaxLen", "unicode/utf8.first", "unicode/utf8.acceptRanges"], apart := false, laid := [("unicode/utf8.acceptRanges", laid_unicode_utf8_acceptRanges), ("unicode/utf8.first", laid_unicode_utf8_first)] }
def ProcLinksSaid : Prop := procLinksRow.holds Tryz.pinned (OpenSpec.ofChange procLinksSpec)

/-- ITS FALSE NEIGHBOUR: 'it returns false'. Refute it at one input. -/
def procLinksWrong : ChangeSpec := { name := "procLinks", fn := fun _ => fun
  | [d1, d2] => { results := [.lit (.bool false)], args := [d1, d2] }
  | _ => none }
def ProcLinksWrongFalsely : Prop := procLinksRow.holds Tryz.pinned (OpenSpec.ofChange procLinksWrong)

/-- 'oriellaw24.ProcLoops': WHATEVER THE INPUT: true; the input reads as it did. -/
def procLoopsSpec : ChangeSpec := { name := "procLoops", fn := fun _ => fun
  | [d] => { results := [.lit (.bool true)], args := [d] }
  | _ => none }
def procLoopsRow : OpenClaim := { program := "ythkkdhjekjoalaagreatdoor", sum := "479afda1599841ec94ed41cf6d1f4190533076a937a37bddea8711b627d2f8ec", func := "oriel/oriellaw24.ProcLoops", spec := "procLoops", inPlace := ["math.Float64frombits", "math.Float64bits", "internal/bytealg.IndexByteString", "internal/bytealg.IndexString", "internal/abi.NoEscape", "internal/bytealg.MakeNoZero", "math.archTrunc", "slices.overlaps[oriel/api.Mount]"], unfollowed := true, recurses := true, named := ["internal/bytealg.MaxLen", "unicode/utf8.first", "unicode/utf8.acceptRanges"], apart := false, laid := [("unicode/utf8.acceptRanges", laid_unicode_utf8_acceptRanges), ("unicode/utf8.first", laid_unicode_utf8_first)] }
def ProcLoopsSaid : Prop := procLoopsRow.holds Tryz.pinned (OpenSpec.ofChange procLoopsSpec)

/-- ITS FALSE NEIGHBOUR: 'it returns false'. Refute it at one input. -/
def procLoopsWrong : ChangeSpec := { name := "procLoops", fn := fun _ => fun
  | [d] => { results := [.lit (.bool false)], args := [d] }
  | _ => none }
def ProcLoopsWrongFalsely : Prop := procLoopsRow.holds Tryz.pinned (OpenSpec.ofChange procLoopsWrong)

/-- 'oriellaw24.ProcDirs': WHATEVER THE INPUT: true; the input reads as it did. -/
def procDirsSpec : ChangeSpec := { name := "procDirs", fn := fun _ => fun
  | [d] => { results := [.lit (.bool true)], args := [d] }
  | _ => none }
def procDirsRow : OpenClaim := { program := "ythkkdhjekjoalaagreatdoor", sum := "479afda1599841ec94ed41cf6d1f4190533076a937a37bddea8711b627d2f8ec", func := "oriel/oriellaw24.ProcDirs", spec := "procDirs", inPlace := ["math.Float64frombits", "math.Float64bits", "internal/bytealg.IndexByteString", "internal/bytealg.IndexString", "internal/abi.NoEscape", "internal/bytealg.MakeNoZero", "math.archTrunc", "slices.overlaps[oriel/api.Mount]"], unfollowed := true, recurses := true, named := ["internal/bytealg.MaxLen", "unicode/utf8.first", "unicode/utf8.acceptRanges"], apart := false, laid := [("unicode/utf8.acceptRanges", laid_unicode_utf8_acceptRanges), ("unicode/utf8.first", laid_unicode_utf8_first)] }
def ProcDirsSaid : Prop := procDirsRow.holds Tryz.pinned (OpenSpec.ofChange procDirsSpec)

/-- ITS FALSE NEIGHBOUR: 'it returns false'. Refute it at one input. -/
def procDirsWrong : ChangeSpec := { name := "procDirs", fn := fun _ => fun
  | [d] => { results := [.lit (.bool false)], args := [d] }
  | _ => none }
def ProcDirsWrongFalsely : Prop := procDirsRow.holds Tryz.pinned (OpenSpec.ofChange procDirsWrong)

/-- 'oriellaw24.ProcRenames': WHATEVER THE INPUT: true; the input reads as it did. -/
def procRenamesSpec : ChangeSpec := { name := "procRenames", fn := fun _ => fun
  | [d1, d2, d3] => { results := [.lit (.bool true)], args := [d1, d2, d3] }
  | _ => none }
def procRenamesRow : OpenClaim := { program := "ythkkdhjekjoalaagreatdoor", sum := "479afda1599841ec94ed41cf6d1f4190533076a937a37bddea8711b627d2f8ec", func := "oriel/oriellaw24.ProcRenames", spec := "procRenames", inPlace := ["math.Float64frombits", "math.Float64bits", "internal/bytealg.IndexByteString", "internal/bytealg.IndexString", "internal/abi.NoEscape", "internal/bytealg.MakeNoZero", "math.archTrunc", "slices.overlaps[oriel/api.Mount]"], unfollowed := true, recurses := true, named := ["internal/bytealg.MaxLen", "unicode/utf8.first", "unicode/utf8.acceptRanges"], apart := false, laid := [("unicode/utf8.acceptRanges", laid_unicode_utf8_acceptRanges), ("unicode/utf8.first", laid_unicode_utf8_first)] }
def ProcRenamesSaid : Prop := procRenamesRow.holds Tryz.pinned (OpenSpec.ofChange procRenamesSpec)

/-- ITS FALSE NEIGHBOUR: 'it returns false'. Refute it at one input. -/
def procRenamesWrong : ChangeSpec := { name := "procRenames", fn := fun _ => fun
  | [d1, d2, d3] => { results := [.lit (.bool false)], args := [d1, d2, d3] }
  | _ => none }
def ProcRenamesWrongFalsely : Prop := procRenamesRow.holds Tryz.pinned (OpenSpec.ofChange procRenamesWrong)

/-- 'oriellaw24.ProcCycles': WHATEVER THE INPUT: true; the input reads as it did. -/
def procCyclesSpec : ChangeSpec := { name := "procCycles", fn := fun _ => fun
  | [d1, d2] => { results := [.lit (.bool true)], args := [d1, d2] }
  | _ => none }
def procCyclesRow : OpenClaim := { program := "ythkkdhjekjoalaagreatdoor", sum := "479afda1599841ec94ed41cf6d1f4190533076a937a37bddea8711b627d2f8ec", func := "oriel/oriellaw24.ProcCycles", spec := "procCycles", inPlace := ["math.Float64frombits", "math.Float64bits", "internal/bytealg.IndexByteString", "internal/bytealg.IndexString", "internal/abi.NoEscape", "internal/bytealg.MakeNoZero", "math.archTrunc", "slices.overlaps[oriel/api.Mount]"], unfollowed := true, recurses := true, named := ["internal/bytealg.MaxLen", "unicode/utf8.first", "unicode/utf8.acceptRanges"], apart := false, laid := [("unicode/utf8.acceptRanges", laid_unicode_utf8_acceptRanges), ("unicode/utf8.first", laid_unicode_utf8_first)] }
def ProcCyclesSaid : Prop := procCyclesRow.holds Tryz.pinned (OpenSpec.ofChange procCyclesSpec)

/-- ITS FALSE NEIGHBOUR: 'it returns false'. Refute it at one input. -/
def procCyclesWrong : ChangeSpec := { name := "procCycles", fn := fun _ => fun
  | [d1, d2] => { results := [.lit (.bool false)], args := [d1, d2] }
  | _ => none }
def ProcCyclesWrongFalsely : Prop := procCyclesRow.holds Tryz.pinned (OpenSpec.ofChange procCyclesWrong)

/-- 'oriellaw24.ProcModes': WHATEVER THE INPUT: true; the input reads as it did. -/
def procModesSpec : ChangeSpec := { name := "procModes", fn := fun _ => fun
  | [d] => { results := [.lit (.bool true)], args := [d] }
  | _ => none }
def procModesRow : OpenClaim := { program := "ythkkdhjekjoalaagreatdoor", sum := "479afda1599841ec94ed41cf6d1f4190533076a937a37bddea8711b627d2f8ec", func := "oriel/oriellaw24.ProcModes", spec := "procModes", inPlace := ["math.Float64frombits", "math.Float64bits", "internal/bytealg.IndexByteString", "internal/bytealg.IndexString", "internal/abi.NoEscape", "internal/bytealg.MakeNoZero", "math.archTrunc", "slices.overlaps[oriel/api.Mount]"], unfollowed := true, recurses := true, named := ["internal/bytealg.MaxLen", "unicode/utf8.first", "unicode/utf8.acceptRanges"], apart := false, laid := [("unicode/utf8.acceptRanges", laid_unicode_utf8_acceptRanges), ("unicode/utf8.first", laid_unicode_utf8_first)] }
def ProcModesSaid : Prop := procModesRow.holds Tryz.pinned (OpenSpec.ofChange procModesSpec)

/-- ITS FALSE NEIGHBOUR: 'it returns false'. Refute it at one input. -/
def procModesWrong : ChangeSpec := { name := "procModes", fn := fun _ => fun
  | [d] => { results := [.lit (.bool false)], args := [d] }
  | _ => none }
def ProcModesWrongFalsely : Prop := procModesRow.holds Tryz.pinned (OpenSpec.ofChange procModesWrong)

/-- 'oriellaw24.ProcFds': WHATEVER THE INPUT: true; the input reads as it did. -/
def procFdsSpec : ChangeSpec := { name := "procFds", fn := fun _ => fun
  | [d1, d2] => { results := [.lit (.bool true)], args := [d1, d2] }
  | _ => none }
def procFdsRow : OpenClaim := { program := "ythkkdhjekjoalaagreatdoor", sum := "479afda1599841ec94ed41cf6d1f4190533076a937a37bddea8711b627d2f8ec", func := "oriel/oriellaw24.ProcFds", spec := "procFds", inPlace := ["math.Float64frombits", "math.Float64bits", "internal/bytealg.IndexByteString", "internal/bytealg.IndexString", "internal/abi.NoEscape", "internal/bytealg.MakeNoZero", "math.archTrunc", "slices.overlaps[oriel/api.Mount]"], unfollowed := true, recurses := true, named := ["internal/bytealg.MaxLen", "unicode/utf8.first", "unicode/utf8.acceptRanges"], apart := false, laid := [("unicode/utf8.acceptRanges", laid_unicode_utf8_acceptRanges), ("unicode/utf8.first", laid_unicode_utf8_first)] }
def ProcFdsSaid : Prop := procFdsRow.holds Tryz.pinned (OpenSpec.ofChange procFdsSpec)

/-- ITS FALSE NEIGHBOUR: 'it returns false'. Refute it at one input. -/
def procFdsWrong : ChangeSpec := { name := "procFds", fn := fun _ => fun
  | [d1, d2] => { results := [.lit (.bool false)], args := [d1, d2] }
  | _ => none }
def ProcFdsWrongFalsely : Prop := procFdsRow.holds Tryz.pinned (OpenSpec.ofChange procFdsWrong)

/-- 'oriellaw24.ProcCwd': WHATEVER THE INPUT: true; the input reads as it did. -/
def procCwdSpec : ChangeSpec := { name := "procCwd", fn := fun _ => fun
  | [d] => { results := [.lit (.bool true)], args := [d] }
  | _ => none }
def procCwdRow : OpenClaim := { program := "ythkkdhjekjoalaagreatdoor", sum := "479afda1599841ec94ed41cf6d1f4190533076a937a37bddea8711b627d2f8ec", func := "oriel/oriellaw24.ProcCwd", spec := "procCwd", inPlace := ["math.Float64frombits", "math.Float64bits", "internal/bytealg.IndexByteString", "internal/bytealg.IndexString", "internal/abi.NoEscape", "internal/bytealg.MakeNoZero", "math.archTrunc", "slices.overlaps[oriel/api.Mount]"], unfollowed := true, recurses := true, named := ["internal/bytealg.MaxLen", "unicode/utf8.first", "unicode/utf8.acceptRanges"], apart := false, laid := [("unicode/utf8.acceptRanges", laid_unicode_utf8_acceptRanges), ("unicode/utf8.first", laid_unicode_utf8_first)] }
def ProcCwdSaid : Prop := procCwdRow.holds Tryz.pinned (OpenSpec.ofChange procCwdSpec)

/-- ITS FALSE NEIGHBOUR: 'it returns false'. Refute it at one input. -/
def procCwdWrong : ChangeSpec := { name := "procCwd", fn := fun _ => fun
  | [d] => { results := [.lit (.bool false)], args := [d] }
  | _ => none }
def ProcCwdWrongFalsely : Prop := procCwdRow.holds Tryz.pinned (OpenSpec.ofChange procCwdWrong)

/-- 'oriellaw24.ProcNames': WHATEVER THE INPUT: true; the input reads as it did. -/
def procNamesSpec : ChangeSpec := { name := "procNames", fn := fun _ => fun
  | [d] => { results := [.lit (.bool true)], args := [d] }
  | _ => none }
def procNamesRow : OpenClaim := { program := "ythkkdhjekjoalaagreatdoor", sum := "479afda1599841ec94ed41cf6d1f4190533076a937a37bddea8711b627d2f8ec", func := "oriel/oriellaw24.ProcNames", spec := "procNames", inPlace := ["math.Float64frombits", "math.Float64bits", "internal/bytealg.IndexByteString", "internal/bytealg.IndexString", "internal/abi.NoEscape", "internal/bytealg.MakeNoZero", "math.archTrunc", "slices.overlaps[oriel/api.Mount]"], unfollowed := true, recurses := true, named := ["internal/bytealg.MaxLen", "unicode/utf8.first", "unicode/utf8.acceptRanges"], apart := false, laid := [("unicode/utf8.acceptRanges", laid_unicode_utf8_acceptRanges), ("unicode/utf8.first", laid_unicode_utf8_first)] }
def ProcNamesSaid : Prop := procNamesRow.holds Tryz.pinned (OpenSpec.ofChange procNamesSpec)

/-- ITS FALSE NEIGHBOUR: 'it returns false'. Refute it at one input. -/
def procNamesWrong : ChangeSpec := { name := "procNames", fn := fun _ => fun
  | [d] => { results := [.lit (.bool false)], args := [d] }
  | _ => none }
def ProcNamesWrongFalsely : Prop := procNamesRow.holds Tryz.pinned (OpenSpec.ofChange procNamesWrong)

/-- 'oriellaw24.ProcKinds': WHATEVER THE INPUT: true; the input reads as it did. -/
def procKindsSpec : ChangeSpec := { name := "procKinds", fn := fun _ => fun
  | [] => { results := [.lit (.bool true)], args := [] }
  | _ => none }
def procKindsRow : OpenClaim := { program := "ythkkdhjekjoalaagreatdoor", sum := "479afda1599841ec94ed41cf6d1f4190533076a937a37bddea8711b627d2f8ec", func := "oriel/oriellaw24.ProcKinds", spec := "procKinds", inPlace := ["math.Float64frombits", "math.Float64bits", "internal/bytealg.IndexByteString", "internal/bytealg.IndexString", "internal/abi.NoEscape", "internal/bytealg.MakeNoZero", "math.archTrunc", "slices.overlaps[oriel/api.Mount]"], unfollowed := true, recurses := true, named := ["internal/bytealg.MaxLen", "unicode/utf8.first", "unicode/utf8.acceptRanges"], apart := false, laid := [("unicode/utf8.acceptRanges", laid_unicode_utf8_acceptRanges), ("unicode/utf8.first", laid_unicode_utf8_first)] }
def ProcKindsSaid : Prop := procKindsRow.holds Tryz.pinned (OpenSpec.ofChange procKindsSpec)

/-- ITS FALSE NEIGHBOUR: 'it returns false'. Refute it at one input. -/
def procKindsWrong : ChangeSpec := { name := "procKinds", fn := fun _ => fun
  | [] => { results := [.lit (.bool false)], args := [] }
  | _ => none }
def ProcKindsWrongFalsely : Prop := procKindsRow.holds Tryz.pinned (OpenSpec.ofChange procKindsWrong)

/-- 'oriellaw24.ProcFull': WHATEVER THE INPUT: true; the input reads as it did. -/
def procFullSpec : ChangeSpec := { name := "procFull", fn := fun _ => fun
  | [d] => { results := [.lit (.bool true)], args := [d] }
  | _ => none }
def procFullRow : OpenClaim := { program := "ythkkdhjekjoalaagreatdoor", sum := "479afda1599841ec94ed41cf6d1f4190533076a937a37bddea8711b627d2f8ec", func := "oriel/oriellaw24.ProcFull", spec := "procFull", inPlace := ["math.Float64frombits", "math.Float64bits", "internal/bytealg.IndexByteString", "internal/bytealg.IndexString", "internal/abi.NoEscape", "internal/bytealg.MakeNoZero", "math.archTrunc", "slices.overlaps[oriel/api.Mount]"], unfollowed := true, recurses := true, named := ["internal/bytealg.MaxLen", "unicode/utf8.first", "unicode/utf8.acceptRanges"], apart := false, laid := [("unicode/utf8.acceptRanges", laid_unicode_utf8_acceptRanges), ("unicode/utf8.first", laid_unicode_utf8_first)] }
def ProcFullSaid : Prop := procFullRow.holds Tryz.pinned (OpenSpec.ofChange procFullSpec)

/-- ITS FALSE NEIGHBOUR: 'it returns false'. Refute it at one input. -/
def procFullWrong : ChangeSpec := { name := "procFull", fn := fun _ => fun
  | [d] => { results := [.lit (.bool false)], args := [d] }
  | _ => none }
def ProcFullWrongFalsely : Prop := procFullRow.holds Tryz.pinned (OpenSpec.ofChange procFullWrong)

/-- 'oriellaw24.ProcBinds': WHATEVER THE INPUT: true; the input reads as it did. -/
def procBindsSpec : ChangeSpec := { name := "procBinds", fn := fun _ => fun
  | [d1, d2] => { results := [.lit (.bool true)], args := [d1, d2] }
  | _ => none }
def procBindsRow : OpenClaim := { program := "ythkkdhjekjoalaagreatdoor", sum := "479afda1599841ec94ed41cf6d1f4190533076a937a37bddea8711b627d2f8ec", func := "oriel/oriellaw24.ProcBinds", spec := "procBinds", inPlace := ["math.Float64frombits", "math.Float64bits", "internal/bytealg.IndexByteString", "internal/bytealg.IndexString", "internal/abi.NoEscape", "internal/bytealg.MakeNoZero", "math.archTrunc", "slices.overlaps[oriel/api.Mount]"], unfollowed := true, recurses := true, named := ["internal/bytealg.MaxLen", "unicode/utf8.first", "unicode/utf8.acceptRanges"], apart := false, laid := [("unicode/utf8.acceptRanges", laid_unicode_utf8_acceptRanges), ("unicode/utf8.first", laid_unicode_utf8_first)] }
def ProcBindsSaid : Prop := procBindsRow.holds Tryz.pinned (OpenSpec.ofChange procBindsSpec)

/-- ITS FALSE NEIGHBOUR: 'it returns false'. Refute it at one input. -/
def procBindsWrong : ChangeSpec := { name := "procBinds", fn := fun _ => fun
  | [d1, d2] => { results := [.lit (.bool false)], args := [d1, d2] }
  | _ => none }
def ProcBindsWrongFalsely : Prop := procBindsRow.holds Tryz.pinned (OpenSpec.ofChange procBindsWrong)

/-- 'oriellaw24.ProcRows': WHATEVER THE INPUT: true; the input reads as it did. -/
def procRowsSpec : ChangeSpec := { name := "procRows", fn := fun _ => fun
  | [d] => { results := [.lit (.bool true)], args := [d] }
  | _ => none }
def procRowsRow : OpenClaim := { program := "ythkkdhjekjoalaagreatdoor", sum := "479afda1599841ec94ed41cf6d1f4190533076a937a37bddea8711b627d2f8ec", func := "oriel/oriellaw24.ProcRows", spec := "procRows", inPlace := ["math.Float64frombits", "math.Float64bits", "internal/bytealg.IndexByteString", "internal/bytealg.IndexString", "internal/abi.NoEscape", "internal/bytealg.MakeNoZero", "math.archTrunc", "slices.overlaps[oriel/api.Mount]"], unfollowed := true, recurses := true, named := ["internal/bytealg.MaxLen", "unicode/utf8.first", "unicode/utf8.acceptRanges"], apart := false, laid := [("unicode/utf8.acceptRanges", laid_unicode_utf8_acceptRanges), ("unicode/utf8.first", laid_unicode_utf8_first)] }
def ProcRowsSaid : Prop := procRowsRow.holds Tryz.pinned (OpenSpec.ofChange procRowsSpec)

/-- ITS FALSE NEIGHBOUR: 'it returns false'. Refute it at one input. -/
def procRowsWrong : ChangeSpec := { name := "procRows", fn := fun _ => fun
  | [d] => { results := [.lit (.bool false)], args := [d] }
  | _ => none }
def ProcRowsWrongFalsely : Prop := procRowsRow.holds Tryz.pinned (OpenSpec.ofChange procRowsWrong)

/-- 'oriellaw24.ProcDeepens': WHATEVER THE INPUT: true; the input reads as it did. -/
def procDeepensSpec : ChangeSpec := { name := "procDeepens", fn := fun _ => fun
  | [d1, d2] => { results := [.lit (.bool true)], args := [d1, d2] }
  | _ => none }
def procDeepensRow : OpenClaim := { program := "ythkkdhjekjoalaagreatdoor", sum := "479afda1599841ec94ed41cf6d1f4190533076a937a37bddea8711b627d2f8ec", func := "oriel/oriellaw24.ProcDeepens", spec := "procDeepens", inPlace := ["math.Float64frombits", "math.Float64bits", "internal/bytealg.IndexByteString", "internal/bytealg.IndexString", "internal/abi.NoEscape", "internal/bytealg.MakeNoZero", "math.archTrunc", "slices.overlaps[oriel/api.Mount]"], unfollowed := true, recurses := true, named := ["internal/bytealg.MaxLen", "unicode/utf8.first", "unicode/utf8.acceptRanges"], apart := false, laid := [("unicode/utf8.acceptRanges", laid_unicode_utf8_acceptRanges), ("unicode/utf8.first", laid_unicode_utf8_first)] }
def ProcDeepensSaid : Prop := procDeepensRow.holds Tryz.pinned (OpenSpec.ofChange procDeepensSpec)

/-- ITS FALSE NEIGHBOUR: 'it returns false'. Refute it at one input. -/
def procDeepensWrong : ChangeSpec := { name := "procDeepens", fn := fun _ => fun
  | [d1, d2] => { results := [.lit (.bool false)], args := [d1, d2] }
  | _ => none }
def ProcDeepensWrongFalsely : Prop := procDeepensRow.holds Tryz.pinned (OpenSpec.ofChange procDeepensWrong)

/-- 'oriellaw24.ProcThrough': WHATEVER THE INPUT: true; the input reads as it did. -/
def procThroughSpec : ChangeSpec := { name := "procThrough", fn := fun _ => fun
  | [d1, d2] => { results := [.lit (.bool true)], args := [d1, d2] }
  | _ => none }
def procThroughRow : OpenClaim := { program := "ythkkdhjekjoalaagreatdoor", sum := "479afda1599841ec94ed41cf6d1f4190533076a937a37bddea8711b627d2f8ec", func := "oriel/oriellaw24.ProcThrough", spec := "procThrough", inPlace := ["math.Float64frombits", "math.Float64bits", "internal/bytealg.IndexByteString", "internal/bytealg.IndexString", "internal/abi.NoEscape", "internal/bytealg.MakeNoZero", "math.archTrunc", "slices.overlaps[oriel/api.Mount]"], unfollowed := true, recurses := true, named := ["internal/bytealg.MaxLen", "unicode/utf8.first", "unicode/utf8.acceptRanges"], apart := false, laid := [("unicode/utf8.acceptRanges", laid_unicode_utf8_acceptRanges), ("unicode/utf8.first", laid_unicode_utf8_first)] }
def ProcThroughSaid : Prop := procThroughRow.holds Tryz.pinned (OpenSpec.ofChange procThroughSpec)

/-- ITS FALSE NEIGHBOUR: 'it returns false'. Refute it at one input. -/
def procThroughWrong : ChangeSpec := { name := "procThrough", fn := fun _ => fun
  | [d1, d2] => { results := [.lit (.bool false)], args := [d1, d2] }
  | _ => none }
def ProcThroughWrongFalsely : Prop := procThroughRow.holds Tryz.pinned (OpenSpec.ofChange procThroughWrong)

/- THE SECOND FORM. 'bulk': how many values and letters a reading holds, each counted each time it is reached (what is shared counts as often as it is met; a slice's spare places count too). A statement '..UptoSaid' is the law's where the arguments, and the package variables that the reading takes, are together of bulk at most 1048576: NARROWER than '..Said'. Prove '..Said' where nothing that the law and all that it calls make is longer than what came in: it says more and counts as full. Else prove '..UptoSaid'. A law counts once. -/
mutual
def uptoBulk {H : Type} : DataW H → Nat
  | .lit (.string bytes) => bytes.length + 1
  | .lit _ => 1
  | .nil => 1
  | .ptr d => uptoBulk d + 1
  | .slice elems spare => uptoBulkAll elems + uptoBulkAll spare + 1
  | .agg parts => uptoBulkAll parts + 1
  | .iface _ d => uptoBulk d + 1
  | .map entries => uptoBulkEntries entries + 1
  | .held _ => 1
def uptoBulkAll {H : Type} : List (DataW H) → Nat
  | [] => 0
  | d :: r => uptoBulk d + uptoBulkAll r
def uptoBulkEntries {H : Type} : List (Lit × DataW H) → Nat
  | [] => 0
  | x :: r => uptoBulkEntry x + uptoBulkEntries r
def uptoBulkEntry {H : Type} : Lit × DataW H → Nat
  | (.string bytes, d) => bytes.length + uptoBulk d + 1
  | (_, d) => uptoBulk d + 1
 end
def uptoSmall : (H : Type) → List (DataW H) → Bool := fun _ ds => decide (uptoBulkAll ds ≤ 1048576)
def OpenSpec.upto (s : _root_.Go.ChangeSpec) : _root_.Go.OpenSpec := { _root_.Go.OpenSpec.ofChange s with cond := some uptoSmall }

/-- 'oriellaw24.ProcOnly', WHERE WHAT IT READS IS OF BULK AT MOST 1048576: true; the input reads as it did. -/
def procOnlyUptoRow : OpenClaim := { program := "ythkkdhjekjoalaagreatdoor", sum := "479afda1599841ec94ed41cf6d1f4190533076a937a37bddea8711b627d2f8ec", func := "oriel/oriellaw24.ProcOnly", spec := "procOnly", inPlace := ["math.Float64frombits", "math.Float64bits", "internal/bytealg.IndexByteString", "internal/bytealg.IndexString", "internal/abi.NoEscape", "internal/bytealg.MakeNoZero", "math.archTrunc", "slices.overlaps[oriel/api.Mount]"], unfollowed := true, recurses := true, named := ["internal/bytealg.MaxLen", "unicode/utf8.first", "unicode/utf8.acceptRanges"], apart := false, laid := [("unicode/utf8.acceptRanges", laid_unicode_utf8_acceptRanges), ("unicode/utf8.first", laid_unicode_utf8_first)], narrowed := true }
def ProcOnlyUptoSaid : Prop := procOnlyUptoRow.holds Tryz.pinned (OpenSpec.upto procOnlySpec)

/-- 'oriellaw24.ProcCreates', WHERE WHAT IT READS IS OF BULK AT MOST 1048576: true; the input reads as it did. -/
def procCreatesUptoRow : OpenClaim := { program := "ythkkdhjekjoalaagreatdoor", sum := "479afda1599841ec94ed41cf6d1f4190533076a937a37bddea8711b627d2f8ec", func := "oriel/oriellaw24.ProcCreates", spec := "procCreates", inPlace := ["math.Float64frombits", "math.Float64bits", "internal/bytealg.IndexByteString", "internal/bytealg.IndexString", "internal/abi.NoEscape", "internal/bytealg.MakeNoZero", "math.archTrunc", "slices.overlaps[oriel/api.Mount]"], unfollowed := true, recurses := true, named := ["internal/bytealg.MaxLen", "unicode/utf8.first", "unicode/utf8.acceptRanges"], apart := false, laid := [("unicode/utf8.acceptRanges", laid_unicode_utf8_acceptRanges), ("unicode/utf8.first", laid_unicode_utf8_first)], narrowed := true }
def ProcCreatesUptoSaid : Prop := procCreatesUptoRow.holds Tryz.pinned (OpenSpec.upto procCreatesSpec)

/-- 'oriellaw24.ProcWrites', WHERE WHAT IT READS IS OF BULK AT MOST 1048576: true; the input reads as it did. -/
def procWritesUptoRow : OpenClaim := { program := "ythkkdhjekjoalaagreatdoor", sum := "479afda1599841ec94ed41cf6d1f4190533076a937a37bddea8711b627d2f8ec", func := "oriel/oriellaw24.ProcWrites", spec := "procWrites", inPlace := ["math.Float64frombits", "math.Float64bits", "internal/bytealg.IndexByteString", "internal/bytealg.IndexString", "internal/abi.NoEscape", "internal/bytealg.MakeNoZero", "math.archTrunc", "slices.overlaps[oriel/api.Mount]"], unfollowed := true, recurses := true, named := ["internal/bytealg.MaxLen", "unicode/utf8.first", "unicode/utf8.acceptRanges"], apart := false, laid := [("unicode/utf8.acceptRanges", laid_unicode_utf8_acceptRanges), ("unicode/utf8.first", laid_unicode_utf8_first)], narrowed := true }
def ProcWritesUptoSaid : Prop := procWritesUptoRow.holds Tryz.pinned (OpenSpec.upto procWritesSpec)

/-- 'oriellaw24.ProcSizes', WHERE WHAT IT READS IS OF BULK AT MOST 1048576: true; the input reads as it did. -/
def procSizesUptoRow : OpenClaim := { program := "ythkkdhjekjoalaagreatdoor", sum := "479afda1599841ec94ed41cf6d1f4190533076a937a37bddea8711b627d2f8ec", func := "oriel/oriellaw24.ProcSizes", spec := "procSizes", inPlace := ["math.Float64frombits", "math.Float64bits", "internal/bytealg.IndexByteString", "internal/bytealg.IndexString", "internal/abi.NoEscape", "internal/bytealg.MakeNoZero", "math.archTrunc", "slices.overlaps[oriel/api.Mount]"], unfollowed := true, recurses := true, named := ["internal/bytealg.MaxLen", "unicode/utf8.first", "unicode/utf8.acceptRanges"], apart := false, laid := [("unicode/utf8.acceptRanges", laid_unicode_utf8_acceptRanges), ("unicode/utf8.first", laid_unicode_utf8_first)], narrowed := true }
def ProcSizesUptoSaid : Prop := procSizesUptoRow.holds Tryz.pinned (OpenSpec.upto procSizesSpec)

/-- 'oriellaw24.ProcLinks', WHERE WHAT IT READS IS OF BULK AT MOST 1048576: true; the input reads as it did. -/
def procLinksUptoRow : OpenClaim := { program := "ythkkdhjekjoalaagreatdoor", sum := "479afda1599841ec94ed41cf6d1f4190533076a937a37bddea8711b627d2f8ec", func := "oriel/oriellaw24.ProcLinks", spec := "procLinks", inPlace := ["math.Float64frombits", "math.Float64bits", "internal/bytealg.IndexByteString", "internal/bytealg.IndexString", "internal/abi.NoEscape", "internal/bytealg.MakeNoZero", "math.archTrunc", "slices.overlaps[oriel/api.Mount]"], unfollowed := true, recurses := true, named := ["internal/bytealg.MaxLen", "unicode/utf8.first", "unicode/utf8.acceptRanges"], apart := false, laid := [("unicode/utf8.acceptRanges", laid_unicode_utf8_acceptRanges), ("unicode/utf8.first", laid_unicode_utf8_first)], narrowed := true }
def ProcLinksUptoSaid : Prop := procLinksUptoRow.holds Tryz.pinned (OpenSpec.upto procLinksSpec)

/-- 'oriellaw24.ProcLoops', WHERE WHAT IT READS IS OF BULK AT MOST 1048576: true; the input reads as it did. -/
def procLoopsUptoRow : OpenClaim := { program := "ythkkdhjekjoalaagreatdoor", sum := "479afda1599841ec94ed41cf6d1f4190533076a937a37bddea8711b627d2f8ec", func := "oriel/oriellaw24.ProcLoops", spec := "procLoops", inPlace := ["math.Float64frombits", "math.Float64bits", "internal/bytealg.IndexByteString", "internal/bytealg.IndexString", "internal/abi.NoEscape", "internal/bytealg.MakeNoZero", "math.archTrunc", "slices.overlaps[oriel/api.Mount]"], unfollowed := true, recurses := true, named := ["internal/bytealg.MaxLen", "unicode/utf8.first", "unicode/utf8.acceptRanges"], apart := false, laid := [("unicode/utf8.acceptRanges", laid_unicode_utf8_acceptRanges), ("unicode/utf8.first", laid_unicode_utf8_first)], narrowed := true }
def ProcLoopsUptoSaid : Prop := procLoopsUptoRow.holds Tryz.pinned (OpenSpec.upto procLoopsSpec)

/-- 'oriellaw24.ProcDirs', WHERE WHAT IT READS IS OF BULK AT MOST 1048576: true; the input reads as it did. -/
def procDirsUptoRow : OpenClaim := { program := "ythkkdhjekjoalaagreatdoor", sum := "479afda1599841ec94ed41cf6d1f4190533076a937a37bddea8711b627d2f8ec", func := "oriel/oriellaw24.ProcDirs", spec := "procDirs", inPlace := ["math.Float64frombits", "math.Float64bits", "internal/bytealg.IndexByteString", "internal/bytealg.IndexString", "internal/abi.NoEscape", "internal/bytealg.MakeNoZero", "math.archTrunc", "slices.overlaps[oriel/api.Mount]"], unfollowed := true, recurses := true, named := ["internal/bytealg.MaxLen", "unicode/utf8.first", "unicode/utf8.acceptRanges"], apart := false, laid := [("unicode/utf8.acceptRanges", laid_unicode_utf8_acceptRanges), ("unicode/utf8.first", laid_unicode_utf8_first)], narrowed := true }
def ProcDirsUptoSaid : Prop := procDirsUptoRow.holds Tryz.pinned (OpenSpec.upto procDirsSpec)

/-- 'oriellaw24.ProcRenames', WHERE WHAT IT READS IS OF BULK AT MOST 1048576: true; the input reads as it did. -/
def procRenamesUptoRow : OpenClaim := { program := "ythkkdhjekjoalaagreatdoor", sum := "479afda1599841ec94ed41cf6d1f4190533076a937a37bddea8711b627d2f8ec", func := "oriel/oriellaw24.ProcRenames", spec := "procRenames", inPlace := ["math.Float64frombits", "math.Float64bits", "internal/bytealg.IndexByteString", "internal/bytealg.IndexString", "internal/abi.NoEscape", "internal/bytealg.MakeNoZero", "math.archTrunc", "slices.overlaps[oriel/api.Mount]"], unfollowed := true, recurses := true, named := ["internal/bytealg.MaxLen", "unicode/utf8.first", "unicode/utf8.acceptRanges"], apart := false, laid := [("unicode/utf8.acceptRanges", laid_unicode_utf8_acceptRanges), ("unicode/utf8.first", laid_unicode_utf8_first)], narrowed := true }
def ProcRenamesUptoSaid : Prop := procRenamesUptoRow.holds Tryz.pinned (OpenSpec.upto procRenamesSpec)

/-- 'oriellaw24.ProcCycles', WHERE WHAT IT READS IS OF BULK AT MOST 1048576: true; the input reads as it did. -/
def procCyclesUptoRow : OpenClaim := { program := "ythkkdhjekjoalaagreatdoor", sum := "479afda1599841ec94ed41cf6d1f4190533076a937a37bddea8711b627d2f8ec", func := "oriel/oriellaw24.ProcCycles", spec := "procCycles", inPlace := ["math.Float64frombits", "math.Float64bits", "internal/bytealg.IndexByteString", "internal/bytealg.IndexString", "internal/abi.NoEscape", "internal/bytealg.MakeNoZero", "math.archTrunc", "slices.overlaps[oriel/api.Mount]"], unfollowed := true, recurses := true, named := ["internal/bytealg.MaxLen", "unicode/utf8.first", "unicode/utf8.acceptRanges"], apart := false, laid := [("unicode/utf8.acceptRanges", laid_unicode_utf8_acceptRanges), ("unicode/utf8.first", laid_unicode_utf8_first)], narrowed := true }
def ProcCyclesUptoSaid : Prop := procCyclesUptoRow.holds Tryz.pinned (OpenSpec.upto procCyclesSpec)

/-- 'oriellaw24.ProcModes', WHERE WHAT IT READS IS OF BULK AT MOST 1048576: true; the input reads as it did. -/
def procModesUptoRow : OpenClaim := { program := "ythkkdhjekjoalaagreatdoor", sum := "479afda1599841ec94ed41cf6d1f4190533076a937a37bddea8711b627d2f8ec", func := "oriel/oriellaw24.ProcModes", spec := "procModes", inPlace := ["math.Float64frombits", "math.Float64bits", "internal/bytealg.IndexByteString", "internal/bytealg.IndexString", "internal/abi.NoEscape", "internal/bytealg.MakeNoZero", "math.archTrunc", "slices.overlaps[oriel/api.Mount]"], unfollowed := true, recurses := true, named := ["internal/bytealg.MaxLen", "unicode/utf8.first", "unicode/utf8.acceptRanges"], apart := false, laid := [("unicode/utf8.acceptRanges", laid_unicode_utf8_acceptRanges), ("unicode/utf8.first", laid_unicode_utf8_first)], narrowed := true }
def ProcModesUptoSaid : Prop := procModesUptoRow.holds Tryz.pinned (OpenSpec.upto procModesSpec)

/-- 'oriellaw24.ProcFds', WHERE WHAT IT READS IS OF BULK AT MOST 1048576: true; the input reads as it did. -/
def procFdsUptoRow : OpenClaim := { program := "ythkkdhjekjoalaagreatdoor", sum := "479afda1599841ec94ed41cf6d1f4190533076a937a37bddea8711b627d2f8ec", func := "oriel/oriellaw24.ProcFds", spec := "procFds", inPlace := ["math.Float64frombits", "math.Float64bits", "internal/bytealg.IndexByteString", "internal/bytealg.IndexString", "internal/abi.NoEscape", "internal/bytealg.MakeNoZero", "math.archTrunc", "slices.overlaps[oriel/api.Mount]"], unfollowed := true, recurses := true, named := ["internal/bytealg.MaxLen", "unicode/utf8.first", "unicode/utf8.acceptRanges"], apart := false, laid := [("unicode/utf8.acceptRanges", laid_unicode_utf8_acceptRanges), ("unicode/utf8.first", laid_unicode_utf8_first)], narrowed := true }
def ProcFdsUptoSaid : Prop := procFdsUptoRow.holds Tryz.pinned (OpenSpec.upto procFdsSpec)

/-- 'oriellaw24.ProcCwd', WHERE WHAT IT READS IS OF BULK AT MOST 1048576: true; the input reads as it did. -/
def procCwdUptoRow : OpenClaim := { program := "ythkkdhjekjoalaagreatdoor", sum := "479afda1599841ec94ed41cf6d1f4190533076a937a37bddea8711b627d2f8ec", func := "oriel/oriellaw24.ProcCwd", spec := "procCwd", inPlace := ["math.Float64frombits", "math.Float64bits", "internal/bytealg.IndexByteString", "internal/bytealg.IndexString", "internal/abi.NoEscape", "internal/bytealg.MakeNoZero", "math.archTrunc", "slices.overlaps[oriel/api.Mount]"], unfollowed := true, recurses := true, named := ["internal/bytealg.MaxLen", "unicode/utf8.first", "unicode/utf8.acceptRanges"], apart := false, laid := [("unicode/utf8.acceptRanges", laid_unicode_utf8_acceptRanges), ("unicode/utf8.first", laid_unicode_utf8_first)], narrowed := true }
def ProcCwdUptoSaid : Prop := procCwdUptoRow.holds Tryz.pinned (OpenSpec.upto procCwdSpec)

/-- 'oriellaw24.ProcNames', WHERE WHAT IT READS IS OF BULK AT MOST 1048576: true; the input reads as it did. -/
def procNamesUptoRow : OpenClaim := { program := "ythkkdhjekjoalaagreatdoor", sum := "479afda1599841ec94ed41cf6d1f4190533076a937a37bddea8711b627d2f8ec", func := "oriel/oriellaw24.ProcNames", spec := "procNames", inPlace := ["math.Float64frombits", "math.Float64bits", "internal/bytealg.IndexByteString", "internal/bytealg.IndexString", "internal/abi.NoEscape", "internal/bytealg.MakeNoZero", "math.archTrunc", "slices.overlaps[oriel/api.Mount]"], unfollowed := true, recurses := true, named := ["internal/bytealg.MaxLen", "unicode/utf8.first", "unicode/utf8.acceptRanges"], apart := false, laid := [("unicode/utf8.acceptRanges", laid_unicode_utf8_acceptRanges), ("unicode/utf8.first", laid_unicode_utf8_first)], narrowed := true }
def ProcNamesUptoSaid : Prop := procNamesUptoRow.holds Tryz.pinned (OpenSpec.upto procNamesSpec)

/-- 'oriellaw24.ProcKinds', WHERE WHAT IT READS IS OF BULK AT MOST 1048576: true; the input reads as it did. -/
def procKindsUptoRow : OpenClaim := { program := "ythkkdhjekjoalaagreatdoor", sum := "479afda1599841ec94ed41cf6d1f4190533076a937a37bddea8711b627d2f8ec", func := "oriel/oriellaw24.ProcKinds", spec := "procKinds", inPlace := ["math.Float64frombits", "math.Float64bits", "internal/bytealg.IndexByteString", "internal/bytealg.IndexString", "internal/abi.NoEscape", "internal/bytealg.MakeNoZero", "math.archTrunc", "slices.overlaps[oriel/api.Mount]"], unfollowed := true, recurses := true, named := ["internal/bytealg.MaxLen", "unicode/utf8.first", "unicode/utf8.acceptRanges"], apart := false, laid := [("unicode/utf8.acceptRanges", laid_unicode_utf8_acceptRanges), ("unicode/utf8.first", laid_unicode_utf8_first)], narrowed := true }
def ProcKindsUptoSaid : Prop := procKindsUptoRow.holds Tryz.pinned (OpenSpec.upto procKindsSpec)

/-- 'oriellaw24.ProcFull', WHERE WHAT IT READS IS OF BULK AT MOST 1048576: true; the input reads as it did. -/
def procFullUptoRow : OpenClaim := { program := "ythkkdhjekjoalaagreatdoor", sum := "479afda1599841ec94ed41cf6d1f4190533076a937a37bddea8711b627d2f8ec", func := "oriel/oriellaw24.ProcFull", spec := "procFull", inPlace := ["math.Float64frombits", "math.Float64bits", "internal/bytealg.IndexByteString", "internal/bytealg.IndexString", "internal/abi.NoEscape", "internal/bytealg.MakeNoZero", "math.archTrunc", "slices.overlaps[oriel/api.Mount]"], unfollowed := true, recurses := true, named := ["internal/bytealg.MaxLen", "unicode/utf8.first", "unicode/utf8.acceptRanges"], apart := false, laid := [("unicode/utf8.acceptRanges", laid_unicode_utf8_acceptRanges), ("unicode/utf8.first", laid_unicode_utf8_first)], narrowed := true }
def ProcFullUptoSaid : Prop := procFullUptoRow.holds Tryz.pinned (OpenSpec.upto procFullSpec)

/-- 'oriellaw24.ProcBinds', WHERE WHAT IT READS IS OF BULK AT MOST 1048576: true; the input reads as it did. -/
def procBindsUptoRow : OpenClaim := { program := "ythkkdhjekjoalaagreatdoor", sum := "479afda1599841ec94ed41cf6d1f4190533076a937a37bddea8711b627d2f8ec", func := "oriel/oriellaw24.ProcBinds", spec := "procBinds", inPlace := ["math.Float64frombits", "math.Float64bits", "internal/bytealg.IndexByteString", "internal/bytealg.IndexString", "internal/abi.NoEscape", "internal/bytealg.MakeNoZero", "math.archTrunc", "slices.overlaps[oriel/api.Mount]"], unfollowed := true, recurses := true, named := ["internal/bytealg.MaxLen", "unicode/utf8.first", "unicode/utf8.acceptRanges"], apart := false, laid := [("unicode/utf8.acceptRanges", laid_unicode_utf8_acceptRanges), ("unicode/utf8.first", laid_unicode_utf8_first)], narrowed := true }
def ProcBindsUptoSaid : Prop := procBindsUptoRow.holds Tryz.pinned (OpenSpec.upto procBindsSpec)

/-- 'oriellaw24.ProcRows', WHERE WHAT IT READS IS OF BULK AT MOST 1048576: true; the input reads as it did. -/
def procRowsUptoRow : OpenClaim := { program := "ythkkdhjekjoalaagreatdoor", sum := "479afda1599841ec94ed41cf6d1f4190533076a937a37bddea8711b627d2f8ec", func := "oriel/oriellaw24.ProcRows", spec := "procRows", inPlace := ["math.Float64frombits", "math.Float64bits", "internal/bytealg.IndexByteString", "internal/bytealg.IndexString", "internal/abi.NoEscape", "internal/bytealg.MakeNoZero", "math.archTrunc", "slices.overlaps[oriel/api.Mount]"], unfollowed := true, recurses := true, named := ["internal/bytealg.MaxLen", "unicode/utf8.first", "unicode/utf8.acceptRanges"], apart := false, laid := [("unicode/utf8.acceptRanges", laid_unicode_utf8_acceptRanges), ("unicode/utf8.first", laid_unicode_utf8_first)], narrowed := true }
def ProcRowsUptoSaid : Prop := procRowsUptoRow.holds Tryz.pinned (OpenSpec.upto procRowsSpec)

/-- 'oriellaw24.ProcDeepens', WHERE WHAT IT READS IS OF BULK AT MOST 1048576: true; the input reads as it did. -/
def procDeepensUptoRow : OpenClaim := { program := "ythkkdhjekjoalaagreatdoor", sum := "479afda1599841ec94ed41cf6d1f4190533076a937a37bddea8711b627d2f8ec", func := "oriel/oriellaw24.ProcDeepens", spec := "procDeepens", inPlace := ["math.Float64frombits", "math.Float64bits", "internal/bytealg.IndexByteString", "internal/bytealg.IndexString", "internal/abi.NoEscape", "internal/bytealg.MakeNoZero", "math.archTrunc", "slices.overlaps[oriel/api.Mount]"], unfollowed := true, recurses := true, named := ["internal/bytealg.MaxLen", "unicode/utf8.first", "unicode/utf8.acceptRanges"], apart := false, laid := [("unicode/utf8.acceptRanges", laid_unicode_utf8_acceptRanges), ("unicode/utf8.first", laid_unicode_utf8_first)], narrowed := true }
def ProcDeepensUptoSaid : Prop := procDeepensUptoRow.holds Tryz.pinned (OpenSpec.upto procDeepensSpec)

/-- 'oriellaw24.ProcThrough', WHERE WHAT IT READS IS OF BULK AT MOST 1048576: true; the input reads as it did. -/
def procThroughUptoRow : OpenClaim := { program := "ythkkdhjekjoalaagreatdoor", sum := "479afda1599841ec94ed41cf6d1f4190533076a937a37bddea8711b627d2f8ec", func := "oriel/oriellaw24.ProcThrough", spec := "procThrough", inPlace := ["math.Float64frombits", "math.Float64bits", "internal/bytealg.IndexByteString", "internal/bytealg.IndexString", "internal/abi.NoEscape", "internal/bytealg.MakeNoZero", "math.archTrunc", "slices.overlaps[oriel/api.Mount]"], unfollowed := true, recurses := true, named := ["internal/bytealg.MaxLen", "unicode/utf8.first", "unicode/utf8.acceptRanges"], apart := false, laid := [("unicode/utf8.acceptRanges", laid_unicode_utf8_acceptRanges), ("unicode/utf8.first", laid_unicode_utf8_first)], narrowed := true }
def ProcThroughUptoSaid : Prop := procThroughUptoRow.holds Tryz.pinned (OpenSpec.upto procThroughSpec)

end Rows
end Go.Proofs.YthkkdhjekjoalaaGreatDoor
