/-
  DERIVED. GIVEN WITH THE SEED: THE CARDS: each row of YtkgflongbanbgaaGreatDoorRows.lean that lists a variable, with what it lists TIED to the program's text (the seventh form; the later family's looks); each row that meets fmt, with fmt's text TOLD by the authors' own Lean function (tested against real Go, not proved from fmt's source: count such statements apart). THE CARD IS WHAT COUNTS. Prove the row's statement (the work); the ties are given (YtkgflongbanbgaaGreatDoorTie.lean); close each card by the builder's one call (the guide's Derived/Test/ToyasCard.lean, 'card_holds'). Laid BY PROGRAM, IN A SANDBOX (cutbox-door.mjs). By AI agents, Wed Nov 11 2026. No macro, syntax, notation, axiom, sorry.
-/
import Derived.Test.YtkgflongbanbgaaGreatDoorRows
import GoSem.ClaimSeven
namespace Go.Proofs.YtkgflongbanbgaaGreatDoor
namespace Rows

/-- THE TIED CARD OF 'publisherlaw18.MacroVariable'. -/
def macroVariableCard : Claim7 := { stood := { row := macroVariableRow, standIns := [], harness := (true, "1c5c372f25ae76067109511fd50a3634a21dc2e399af71e17585ee9752f3c826"), looks := true }, kinds := [], alts := [], laidByText := true, laidKinds := [.data, .data, .data, .data, .sentinel, .sentinel, .pinned], laidTests := true, laidLooks := .later }
def MacroVariableCardSaid : Prop := Claim7.holds Tryz.pinned (.plain (OpenSpec.ofChange macroVariableSpec)) macroVariableCard

/-- THE SECOND FORM's CARD OF 'publisherlaw18.MacroVariable'. -/
def macroVariableUptoCard : Claim7 := { stood := { row := macroVariableUptoRow, standIns := [], harness := (true, "1c5c372f25ae76067109511fd50a3634a21dc2e399af71e17585ee9752f3c826"), looks := true }, kinds := [], alts := [], laidByText := true, laidKinds := [.data, .data, .data, .data, .sentinel, .sentinel, .pinned], laidTests := true, laidLooks := .later }
def MacroVariableUptoCardSaid : Prop := Claim7.holds Tryz.pinned (.plain (OpenSpec.upto macroVariableSpec)) macroVariableUptoCard
end Rows
end Go.Proofs.YtkgflongbanbgaaGreatDoor
