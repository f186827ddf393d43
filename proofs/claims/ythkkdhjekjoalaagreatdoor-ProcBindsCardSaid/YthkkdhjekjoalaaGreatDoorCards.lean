/-
  DERIVED. GIVEN WITH THE SEED: THE CARDS: each row of YthkkdhjekjoalaaGreatDoorRows.lean that lists a variable, with what it lists TIED to the program's text (the seventh form; the later family's looks); each row that meets fmt, with fmt's text TOLD by the authors' own Lean function (tested against real Go, not proved from fmt's source: count such statements apart). THE CARD IS WHAT COUNTS. Prove the row's statement (the work); the ties are given (YthkkdhjekjoalaaGreatDoorTie.lean); close each card by the builder's one call (the guide's Derived/Test/ToyasCard.lean, 'card_holds'). Laid BY PROGRAM, IN A SANDBOX (cutbox-door.mjs). By AI agents, Wed Nov 11 2026. No macro, syntax, notation, axiom, sorry.
-/
import Derived.Test.YthkkdhjekjoalaaGreatDoorRows
import GoSem.ClaimSeven
namespace Go.Proofs.YthkkdhjekjoalaaGreatDoor
namespace Rows

/-- THE TIED CARD OF 'oriellaw24.ProcOnly'. -/
def procOnlyCard : Claim7 := { stood := { row := procOnlyRow, standIns := [], harness := (true, "d0a7098eca320b6306fee5170973a2423aff83ed4cdd1f274b2350a741014835"), looks := true }, kinds := [], alts := [], laidByText := true, laidKinds := [.data, .pinned], laidTests := true, laidLooks := .later }
def ProcOnlyCardSaid : Prop := Claim7.holds Tryz.pinned (.plain (OpenSpec.ofChange procOnlySpec)) procOnlyCard

/-- THE TIED CARD OF 'oriellaw24.ProcCreates'. -/
def procCreatesCard : Claim7 := { stood := { row := procCreatesRow, standIns := [], harness := (true, "d0a7098eca320b6306fee5170973a2423aff83ed4cdd1f274b2350a741014835"), looks := true }, kinds := [], alts := [], laidByText := true, laidKinds := [.data, .pinned], laidTests := true, laidLooks := .later }
def ProcCreatesCardSaid : Prop := Claim7.holds Tryz.pinned (.plain (OpenSpec.ofChange procCreatesSpec)) procCreatesCard

/-- THE TIED CARD OF 'oriellaw24.ProcWrites'. -/
def procWritesCard : Claim7 := { stood := { row := procWritesRow, standIns := [], harness := (true, "d0a7098eca320b6306fee5170973a2423aff83ed4cdd1f274b2350a741014835"), looks := true }, kinds := [], alts := [], laidByText := true, laidKinds := [.data, .pinned], laidTests := true, laidLooks := .later }
def ProcWritesCardSaid : Prop := Claim7.holds Tryz.pinned (.plain (OpenSpec.ofChange procWritesSpec)) procWritesCard

/-- THE TIED CARD OF 'oriellaw24.ProcSizes'. -/
def procSizesCard : Claim7 := { stood := { row := procSizesRow, standIns := [], harness := (true, "d0a7098eca320b6306fee5170973a2423aff83ed4cdd1f274b2350a741014835"), looks := true }, kinds := [], alts := [], laidByText := true, laidKinds := [.data, .pinned], laidTests := true, laidLooks := .later }
def ProcSizesCardSaid : Prop := Claim7.holds Tryz.pinned (.plain (OpenSpec.ofChange procSizesSpec)) procSizesCard

/-- THE TIED CARD OF 'oriellaw24.ProcLinks'. -/
def procLinksCard : Claim7 := { stood := { row := procLinksRow, standIns := [], harness := (true, "d0a7098eca320b6306fee5170973a2423aff83ed4cdd1f274b2350a741014835"), looks := true }, kinds := [], alts := [], laidByText := true, laidKinds := [.data, .pinned], laidTests := true, laidLooks := .later }
def ProcLinksCardSaid : Prop := Claim7.holds Tryz.pinned (.plain (OpenSpec.ofChange procLinksSpec)) procLinksCard

/-- THE TIED CARD OF 'oriellaw24.ProcLoops'. -/
def procLoopsCard : Claim7 := { stood := { row := procLoopsRow, standIns := [], harness := (true, "d0a7098eca320b6306fee5170973a2423aff83ed4cdd1f274b2350a741014835"), looks := true }, kinds := [], alts := [], laidByText := true, laidKinds := [.data, .pinned], laidTests := true, laidLooks := .later }
def ProcLoopsCardSaid : Prop := Claim7.holds Tryz.pinned (.plain (OpenSpec.ofChange procLoopsSpec)) procLoopsCard

/-- THE TIED CARD OF 'oriellaw24.ProcDirs'. -/
def procDirsCard : Claim7 := { stood := { row := procDirsRow, standIns := [], harness := (true, "d0a7098eca320b6306fee5170973a2423aff83ed4cdd1f274b2350a741014835"), looks := true }, kinds := [], alts := [], laidByText := true, laidKinds := [.data, .pinned], laidTests := true, laidLooks := .later }
def ProcDirsCardSaid : Prop := Claim7.holds Tryz.pinned (.plain (OpenSpec.ofChange procDirsSpec)) procDirsCard

/-- THE TIED CARD OF 'oriellaw24.ProcRenames'. -/
def procRenamesCard : Claim7 := { stood := { row := procRenamesRow, standIns := [], harness := (true, "d0a7098eca320b6306fee5170973a2423aff83ed4cdd1f274b2350a741014835"), looks := true }, kinds := [], alts := [], laidByText := true, laidKinds := [.data, .pinned], laidTests := true, laidLooks := .later }
def ProcRenamesCardSaid : Prop := Claim7.holds Tryz.pinned (.plain (OpenSpec.ofChange procRenamesSpec)) procRenamesCard

/-- THE TIED CARD OF 'oriellaw24.ProcCycles'. -/
def procCyclesCard : Claim7 := { stood := { row := procCyclesRow, standIns := [], harness := (true, "d0a7098eca320b6306fee5170973a2423aff83ed4cdd1f274b2350a741014835"), looks := true }, kinds := [], alts := [], laidByText := true, laidKinds := [.data, .pinned], laidTests := true, laidLooks := .later }
def ProcCyclesCardSaid : Prop := Claim7.holds Tryz.pinned (.plain (OpenSpec.ofChange procCyclesSpec)) procCyclesCard

/-- THE TIED CARD OF 'oriellaw24.ProcModes'. -/
def procModesCard : Claim7 := { stood := { row := procModesRow, standIns := [], harness := (true, "d0a7098eca320b6306fee5170973a2423aff83ed4cdd1f274b2350a741014835"), looks := true }, kinds := [], alts := [], laidByText := true, laidKinds := [.data, .pinned], laidTests := true, laidLooks := .later }
def ProcModesCardSaid : Prop := Claim7.holds Tryz.pinned (.plain (OpenSpec.ofChange procModesSpec)) procModesCard

/-- THE TIED CARD OF 'oriellaw24.ProcFds'. -/
def procFdsCard : Claim7 := { stood := { row := procFdsRow, standIns := [], harness := (true, "d0a7098eca320b6306fee5170973a2423aff83ed4cdd1f274b2350a741014835"), looks := true }, kinds := [], alts := [], laidByText := true, laidKinds := [.data, .pinned], laidTests := true, laidLooks := .later }
def ProcFdsCardSaid : Prop := Claim7.holds Tryz.pinned (.plain (OpenSpec.ofChange procFdsSpec)) procFdsCard

/-- THE TIED CARD OF 'oriellaw24.ProcCwd'. -/
def procCwdCard : Claim7 := { stood := { row := procCwdRow, standIns := [], harness := (true, "d0a7098eca320b6306fee5170973a2423aff83ed4cdd1f274b2350a741014835"), looks := true }, kinds := [], alts := [], laidByText := true, laidKinds := [.data, .pinned], laidTests := true, laidLooks := .later }
def ProcCwdCardSaid : Prop := Claim7.holds Tryz.pinned (.plain (OpenSpec.ofChange procCwdSpec)) procCwdCard

/-- THE TIED CARD OF 'oriellaw24.ProcNames'. -/
def procNamesCard : Claim7 := { stood := { row := procNamesRow, standIns := [], harness := (true, "d0a7098eca320b6306fee5170973a2423aff83ed4cdd1f274b2350a741014835"), looks := true }, kinds := [], alts := [], laidByText := true, laidKinds := [.data, .pinned], laidTests := true, laidLooks := .later }
def ProcNamesCardSaid : Prop := Claim7.holds Tryz.pinned (.plain (OpenSpec.ofChange procNamesSpec)) procNamesCard

/-- THE TIED CARD OF 'oriellaw24.ProcKinds'. -/
def procKindsCard : Claim7 := { stood := { row := procKindsRow, standIns := [], harness := (true, "d0a7098eca320b6306fee5170973a2423aff83ed4cdd1f274b2350a741014835"), looks := true }, kinds := [], alts := [], laidByText := true, laidKinds := [.data, .pinned], laidTests := true, laidLooks := .later }
def ProcKindsCardSaid : Prop := Claim7.holds Tryz.pinned (.plain (OpenSpec.ofChange procKindsSpec)) procKindsCard

/-- THE TIED CARD OF 'oriellaw24.ProcFull'. -/
def procFullCard : Claim7 := { stood := { row := procFullRow, standIns := [], harness := (true, "d0a7098eca320b6306fee5170973a2423aff83ed4cdd1f274b2350a741014835"), looks := true }, kinds := [], alts := [], laidByText := true, laidKinds := [.data, .pinned], laidTests := true, laidLooks := .later }
def ProcFullCardSaid : Prop := Claim7.holds Tryz.pinned (.plain (OpenSpec.ofChange procFullSpec)) procFullCard

/-- THE TIED CARD OF 'oriellaw24.ProcBinds'. -/
def procBindsCard : Claim7 := { stood := { row := procBindsRow, standIns := [], harness := (true, "d0a7098eca320b6306fee5170973a2423aff83ed4cdd1f274b2350a741014835"), looks := true }, kinds := [], alts := [], laidByText := true, laidKinds := [.data, .pinned], laidTests := true, laidLooks := .later }
def ProcBindsCardSaid : Prop := Claim7.holds Tryz.pinned (.plain (OpenSpec.ofChange procBindsSpec)) procBindsCard

/-- THE TIED CARD OF 'oriellaw24.ProcRows'. -/
def procRowsCard : Claim7 := { stood := { row := procRowsRow, standIns := [], harness := (true, "d0a7098eca320b6306fee5170973a2423aff83ed4cdd1f274b2350a741014835"), looks := true }, kinds := [], alts := [], laidByText := true, laidKinds := [.data, .pinned], laidTests := true, laidLooks := .later }
def ProcRowsCardSaid : Prop := Claim7.holds Tryz.pinned (.plain (OpenSpec.ofChange procRowsSpec)) procRowsCard

/-- THE TIED CARD OF 'oriellaw24.ProcDeepens'. -/
def procDeepensCard : Claim7 := { stood := { row := procDeepensRow, standIns := [], harness := (true, "d0a7098eca320b6306fee5170973a2423aff83ed4cdd1f274b2350a741014835"), looks := true }, kinds := [], alts := [], laidByText := true, laidKinds := [.data, .pinned], laidTests := true, laidLooks := .later }
def ProcDeepensCardSaid : Prop := Claim7.holds Tryz.pinned (.plain (OpenSpec.ofChange procDeepensSpec)) procDeepensCard

/-- THE TIED CARD OF 'oriellaw24.ProcThrough'. -/
def procThroughCard : Claim7 := { stood := { row := procThroughRow, standIns := [], harness := (true, "d0a7098eca320b6306fee5170973a2423aff83ed4cdd1f274b2350a741014835"), looks := true }, kinds := [], alts := [], laidByText := true, laidKinds := [.data, .pinned], laidTests := true, laidLooks := .later }
def ProcThroughCardSaid : Prop := Claim7.holds Tryz.pinned (.plain (OpenSpec.ofChange procThroughSpec)) procThroughCard

/-- THE SECOND FORM's CARD OF 'oriellaw24.ProcOnly'. -/
def procOnlyUptoCard : Claim7 := { stood := { row := procOnlyUptoRow, standIns := [], harness := (true, "d0a7098eca320b6306fee5170973a2423aff83ed4cdd1f274b2350a741014835"), looks := true }, kinds := [], alts := [], laidByText := true, laidKinds := [.data, .pinned], laidTests := true, laidLooks := .later }
def ProcOnlyUptoCardSaid : Prop := Claim7.holds Tryz.pinned (.plain (OpenSpec.upto procOnlySpec)) procOnlyUptoCard

/-- THE SECOND FORM's CARD OF 'oriellaw24.ProcCreates'. -/
def procCreatesUptoCard : Claim7 := { stood := { row := procCreatesUptoRow, standIns := [], harness := (true, "d0a7098eca320b6306fee5170973a2423aff83ed4cdd1f274b2350a741014835"), looks := true }, kinds := [], alts := [], laidByText := true, laidKinds := [.data, .pinned], laidTests := true, laidLooks := .later }
def ProcCreatesUptoCardSaid : Prop := Claim7.holds Tryz.pinned (.plain (OpenSpec.upto procCreatesSpec)) procCreatesUptoCard

/-- THE SECOND FORM's CARD OF 'oriellaw24.ProcWrites'. -/
def procWritesUptoCard : Claim7 := { stood := { row := procWritesUptoRow, standIns := [], harness := (true, "d0a7098eca320b6306fee5170973a2423aff83ed4cdd1f274b2350a741014835"), looks := true }, kinds := [], alts := [], laidByText := true, laidKinds := [.data, .pinned], laidTests := true, laidLooks := .later }
def ProcWritesUptoCardSaid : Prop := Claim7.holds Tryz.pinned (.plain (OpenSpec.upto procWritesSpec)) procWritesUptoCard

/-- THE SECOND FORM's CARD OF 'oriellaw24.ProcSizes'. -/
def procSizesUptoCard : Claim7 := { stood := { row := procSizesUptoRow, standIns := [], harness := (true, "d0a7098eca320b6306fee5170973a2423aff83ed4cdd1f274b2350a741014835"), looks := true }, kinds := [], alts := [], laidByText := true, laidKinds := [.data, .pinned], laidTests := true, laidLooks := .later }
def ProcSizesUptoCardSaid : Prop := Claim7.holds Tryz.pinned (.plain (OpenSpec.upto procSizesSpec)) procSizesUptoCard

/-- THE SECOND FORM's CARD OF 'oriellaw24.ProcLinks'. -/
def procLinksUptoCard : Claim7 := { stood := { row := procLinksUptoRow, standIns := [], harness := (true, "d0a7098eca320b6306fee5170973a2423aff83ed4cdd1f274b2350a741014835"), looks := true }, kinds := [], alts := [], laidByText := true, laidKinds := [.data, .pinned], laidTests := true, laidLooks := .later }
def ProcLinksUptoCardSaid : Prop := Claim7.holds Tryz.pinned (.plain (OpenSpec.upto procLinksSpec)) procLinksUptoCard

/-- THE SECOND FORM's CARD OF 'oriellaw24.ProcLoops'. -/
def procLoopsUptoCard : Claim7 := { stood := { row := procLoopsUptoRow, standIns := [], harness := (true, "d0a7098eca320b6306fee5170973a2423aff83ed4cdd1f274b2350a741014835"), looks := true }, kinds := [], alts := [], laidByText := true, laidKinds := [.data, .pinned], laidTests := true, laidLooks := .later }
def ProcLoopsUptoCardSaid : Prop := Claim7.holds Tryz.pinned (.plain (OpenSpec.upto procLoopsSpec)) procLoopsUptoCard

/-- THE SECOND FORM's CARD OF 'oriellaw24.ProcDirs'. -/
def procDirsUptoCard : Claim7 := { stood := { row := procDirsUptoRow, standIns := [], harness := (true, "d0a7098eca320b6306fee5170973a2423aff83ed4cdd1f274b2350a741014835"), looks := true }, kinds := [], alts := [], laidByText := true, laidKinds := [.data, .pinned], laidTests := true, laidLooks := .later }
def ProcDirsUptoCardSaid : Prop := Claim7.holds Tryz.pinned (.plain (OpenSpec.upto procDirsSpec)) procDirsUptoCard

/-- THE SECOND FORM's CARD OF 'oriellaw24.ProcRenames'. -/
def procRenamesUptoCard : Claim7 := { stood := { row := procRenamesUptoRow, standIns := [], harness := (true, "d0a7098eca320b6306fee5170973a2423aff83ed4cdd1f274b2350a741014835"), looks := true }, kinds := [], alts := [], laidByText := true, laidKinds := [.data, .pinned], laidTests := true, laidLooks := .later }
def ProcRenamesUptoCardSaid : Prop := Claim7.holds Tryz.pinned (.plain (OpenSpec.upto procRenamesSpec)) procRenamesUptoCard

/-- THE SECOND FORM's CARD OF 'oriellaw24.ProcCycles'. -/
def procCyclesUptoCard : Claim7 := { stood := { row := procCyclesUptoRow, standIns := [], harness := (true, "d0a7098eca320b6306fee5170973a2423aff83ed4cdd1f274b2350a741014835"), looks := true }, kinds := [], alts := [], laidByText := true, laidKinds := [.data, .pinned], laidTests := true, laidLooks := .later }
def ProcCyclesUptoCardSaid : Prop := Claim7.holds Tryz.pinned (.plain (OpenSpec.upto procCyclesSpec)) procCyclesUptoCard

/-- THE SECOND FORM's CARD OF 'oriellaw24.ProcModes'. -/
def procModesUptoCard : Claim7 := { stood := { row := procModesUptoRow, standIns := [], harness := (true, "d0a7098eca320b6306fee5170973a2423aff83ed4cdd1f274b2350a741014835"), looks := true }, kinds := [], alts := [], laidByText := true, laidKinds := [.data, .pinned], laidTests := true, laidLooks := .later }
def ProcModesUptoCardSaid : Prop := Claim7.holds Tryz.pinned (.plain (OpenSpec.upto procModesSpec)) procModesUptoCard

/-- THE SECOND FORM's CARD OF 'oriellaw24.ProcFds'. -/
def procFdsUptoCard : Claim7 := { stood := { row := procFdsUptoRow, standIns := [], harness := (true, "d0a7098eca320b6306fee5170973a2423aff83ed4cdd1f274b2350a741014835"), looks := true }, kinds := [], alts := [], laidByText := true, laidKinds := [.data, .pinned], laidTests := true, laidLooks := .later }
def ProcFdsUptoCardSaid : Prop := Claim7.holds Tryz.pinned (.plain (OpenSpec.upto procFdsSpec)) procFdsUptoCard

/-- THE SECOND FORM's CARD OF 'oriellaw24.ProcCwd'. -/
def procCwdUptoCard : Claim7 := { stood := { row := procCwdUptoRow, standIns := [], harness := (true, "d0a7098eca320b6306fee5170973a2423aff83ed4cdd1f274b2350a741014835"), looks := true }, kinds := [], alts := [], laidByText := true, laidKinds := [.data, .pinned], laidTests := true, laidLooks := .later }
def ProcCwdUptoCardSaid : Prop := Claim7.holds Tryz.pinned (.plain (OpenSpec.upto procCwdSpec)) procCwdUptoCard

/-- THE SECOND FORM's CARD OF 'oriellaw24.ProcNames'. -/
def procNamesUptoCard : Claim7 := { stood := { row := procNamesUptoRow, standIns := [], harness := (true, "d0a7098eca320b6306fee5170973a2423aff83ed4cdd1f274b2350a741014835"), looks := true }, kinds := [], alts := [], laidByText := true, laidKinds := [.data, .pinned], laidTests := true, laidLooks := .later }
def ProcNamesUptoCardSaid : Prop := Claim7.holds Tryz.pinned (.plain (OpenSpec.upto procNamesSpec)) procNamesUptoCard

/-- THE SECOND FORM's CARD OF 'oriellaw24.ProcKinds'. -/
def procKindsUptoCard : Claim7 := { stood := { row := procKindsUptoRow, standIns := [], harness := (true, "d0a7098eca320b6306fee5170973a2423aff83ed4cdd1f274b2350a741014835"), looks := true }, kinds := [], alts := [], laidByText := true, laidKinds := [.data, .pinned], laidTests := true, laidLooks := .later }
def ProcKindsUptoCardSaid : Prop := Claim7.holds Tryz.pinned (.plain (OpenSpec.upto procKindsSpec)) procKindsUptoCard

/-- THE SECOND FORM's CARD OF 'oriellaw24.ProcFull'. -/
def procFullUptoCard : Claim7 := { stood := { row := procFullUptoRow, standIns := [], harness := (true, "d0a7098eca320b6306fee5170973a2423aff83ed4cdd1f274b2350a741014835"), looks := true }, kinds := [], alts := [], laidByText := true, laidKinds := [.data, .pinned], laidTests := true, laidLooks := .later }
def ProcFullUptoCardSaid : Prop := Claim7.holds Tryz.pinned (.plain (OpenSpec.upto procFullSpec)) procFullUptoCard

/-- THE SECOND FORM's CARD OF 'oriellaw24.ProcBinds'. -/
def procBindsUptoCard : Claim7 := { stood := { row := procBindsUptoRow, standIns := [], harness := (true, "d0a7098eca320b6306fee5170973a2423aff83ed4cdd1f274b2350a741014835"), looks := true }, kinds := [], alts := [], laidByText := true, laidKinds := [.data, .pinned], laidTests := true, laidLooks := .later }
def ProcBindsUptoCardSaid : Prop := Claim7.holds Tryz.pinned (.plain (OpenSpec.upto procBindsSpec)) procBindsUptoCard

/-- THE SECOND FORM's CARD OF 'oriellaw24.ProcRows'. -/
def procRowsUptoCard : Claim7 := { stood := { row := procRowsUptoRow, standIns := [], harness := (true, "d0a7098eca320b6306fee5170973a2423aff83ed4cdd1f274b2350a741014835"), looks := true }, kinds := [], alts := [], laidByText := true, laidKinds := [.data, .pinned], laidTests := true, laidLooks := .later }
def ProcRowsUptoCardSaid : Prop := Claim7.holds Tryz.pinned (.plain (OpenSpec.upto procRowsSpec)) procRowsUptoCard

/-- THE SECOND FORM's CARD OF 'oriellaw24.ProcDeepens'. -/
def procDeepensUptoCard : Claim7 := { stood := { row := procDeepensUptoRow, standIns := [], harness := (true, "d0a7098eca320b6306fee5170973a2423aff83ed4cdd1f274b2350a741014835"), looks := true }, kinds := [], alts := [], laidByText := true, laidKinds := [.data, .pinned], laidTests := true, laidLooks := .later }
def ProcDeepensUptoCardSaid : Prop := Claim7.holds Tryz.pinned (.plain (OpenSpec.upto procDeepensSpec)) procDeepensUptoCard

/-- THE SECOND FORM's CARD OF 'oriellaw24.ProcThrough'. -/
def procThroughUptoCard : Claim7 := { stood := { row := procThroughUptoRow, standIns := [], harness := (true, "d0a7098eca320b6306fee5170973a2423aff83ed4cdd1f274b2350a741014835"), looks := true }, kinds := [], alts := [], laidByText := true, laidKinds := [.data, .pinned], laidTests := true, laidLooks := .later }
def ProcThroughUptoCardSaid : Prop := Claim7.holds Tryz.pinned (.plain (OpenSpec.upto procThroughSpec)) procThroughUptoCard
end Rows
end Go.Proofs.YthkkdhjekjoalaaGreatDoor
