/-
  DERIVED. GIVEN WITH THE SEED: THE CARDS: each row of YtnkhohbgihfapaaGreatDoorRows.lean that lists a variable, with what it lists TIED to the program's text (the seventh form; the later family's looks); each row that meets fmt, with fmt's text TOLD by the authors' own Lean function (tested against real Go, not proved from fmt's source: count such statements apart). THE CARD IS WHAT COUNTS. Prove the row's statement (the work); the ties are given (YtnkhohbgihfapaaGreatDoorTie.lean); close each card by the builder's one call (the guide's Derived/Test/ToyasCard.lean, 'card_holds'). Laid BY PROGRAM, IN A SANDBOX (cutbox-door.mjs). By AI agents, Wed Nov 11 2026. No macro, syntax, notation, axiom, sorry.
-/
import Derived.Test.YtnkhohbgihfapaaGreatDoorRows
import GoSem.ClaimSeven
namespace Go.Proofs.YtnkhohbgihfapaaGreatDoor
namespace Rows

/-- THE TIED CARD OF 'oriellaw24.ProcOnly'. -/
def procOnlyCard : Claim7 := { stood := { row := procOnlyRow, standIns := [], harness := (true, "5fd5ee559db3fa08cd7c72c2e8803744ebf60ab58485f6a1e66a197547ed7efc"), looks := true }, kinds := [], alts := [], laidByText := true, laidKinds := [.data, .pinned], laidTests := true, laidLooks := .later }
def ProcOnlyCardSaid : Prop := Claim7.holds Tryz.pinned (.plain (OpenSpec.ofChange procOnlySpec)) procOnlyCard

/-- THE SECOND FORM's CARD OF 'oriellaw24.ProcOnly'. -/
def procOnlyUptoCard : Claim7 := { stood := { row := procOnlyUptoRow, standIns := [], harness := (true, "5fd5ee559db3fa08cd7c72c2e8803744ebf60ab58485f6a1e66a197547ed7efc"), looks := true }, kinds := [], alts := [], laidByText := true, laidKinds := [.data, .pinned], laidTests := true, laidLooks := .later }
def ProcOnlyUptoCardSaid : Prop := Claim7.holds Tryz.pinned (.plain (OpenSpec.upto procOnlySpec)) procOnlyUptoCard
end Rows
end Go.Proofs.YtnkhohbgihfapaaGreatDoor
