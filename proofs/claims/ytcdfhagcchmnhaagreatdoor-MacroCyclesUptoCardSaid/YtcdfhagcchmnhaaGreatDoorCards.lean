/-
  DERIVED. GIVEN WITH THE SEED: THE CARDS: each row of YtcdfhagcchmnhaaGreatDoorRows.lean that lists a variable, with what it lists TIED to the program's text (the seventh form; the later family's looks); each row that meets fmt, with fmt's text TOLD by the authors' own Lean function (tested against real Go, not proved from fmt's source: count such statements apart). THE CARD IS WHAT COUNTS. Prove the row's statement (the work); the ties are given (YtcdfhagcchmnhaaGreatDoorTie.lean); close each card by the builder's one call (the guide's Derived/Test/ToyasCard.lean, 'card_holds'). Laid BY PROGRAM, IN A SANDBOX (cutbox-door.mjs). By AI agents, Wed Nov 11 2026. No macro, syntax, notation, axiom, sorry.
-/
import Derived.Test.YtcdfhagcchmnhaaGreatDoorRows
import GoSem.ClaimSeven
namespace Go.Proofs.YtcdfhagcchmnhaaGreatDoor
namespace Rows

/-- THE TIED CARD OF 'publisherlaw18.MacroTables'. -/
def macroTablesCard : Claim7 := { stood := { row := macroTablesRow, standIns := [], harness := (true, "63dc28e754d8d61d494d894fec6b0850732267687b8abed0c2a745d93fd91966"), looks := true }, kinds := [], alts := [], laidByText := true, laidKinds := [.data, .data, .data, .data, .sentinel, .sentinel, .pinned], laidTests := true, laidLooks := .later }
def MacroTablesCardSaid : Prop := Claim7.holds Tryz.pinned (.plain (OpenSpec.ofChange macroTablesSpec)) macroTablesCard

/-- THE TIED CARD OF 'publisherlaw18.MacroCycles'. -/
def macroCyclesCard : Claim7 := { stood := { row := macroCyclesRow, standIns := [], harness := (true, "63dc28e754d8d61d494d894fec6b0850732267687b8abed0c2a745d93fd91966"), looks := true }, kinds := [], alts := [], laidByText := true, laidKinds := [.data, .data, .data, .data, .sentinel, .sentinel, .pinned], laidTests := true, laidLooks := .later }
def MacroCyclesCardSaid : Prop := Claim7.holds Tryz.pinned (.plain (OpenSpec.ofChange macroCyclesSpec)) macroCyclesCard

/-- THE SECOND FORM's CARD OF 'publisherlaw18.MacroTables'. -/
def macroTablesUptoCard : Claim7 := { stood := { row := macroTablesUptoRow, standIns := [], harness := (true, "63dc28e754d8d61d494d894fec6b0850732267687b8abed0c2a745d93fd91966"), looks := true }, kinds := [], alts := [], laidByText := true, laidKinds := [.data, .data, .data, .data, .sentinel, .sentinel, .pinned], laidTests := true, laidLooks := .later }
def MacroTablesUptoCardSaid : Prop := Claim7.holds Tryz.pinned (.plain (OpenSpec.upto macroTablesSpec)) macroTablesUptoCard

/-- THE SECOND FORM's CARD OF 'publisherlaw18.MacroCycles'. -/
def macroCyclesUptoCard : Claim7 := { stood := { row := macroCyclesUptoRow, standIns := [], harness := (true, "63dc28e754d8d61d494d894fec6b0850732267687b8abed0c2a745d93fd91966"), looks := true }, kinds := [], alts := [], laidByText := true, laidKinds := [.data, .data, .data, .data, .sentinel, .sentinel, .pinned], laidTests := true, laidLooks := .later }
def MacroCyclesUptoCardSaid : Prop := Claim7.holds Tryz.pinned (.plain (OpenSpec.upto macroCyclesSpec)) macroCyclesUptoCard
end Rows
end Go.Proofs.YtcdfhagcchmnhaaGreatDoor
