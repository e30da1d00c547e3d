/-
  DERIVED. GIVEN WITH THE SEED: THE CARDS: each row of YthocambhbkjpcaaGreatDoorRows.lean that lists a variable, with what it lists TIED to the program's text (the seventh form; the later family's looks); each row that meets fmt, with fmt's text TOLD by the authors' own Lean function (tested against real Go, not proved from fmt's source: count such statements apart). THE CARD IS WHAT COUNTS. Prove the row's statement (the work); the ties are given (YthocambhbkjpcaaGreatDoorTie.lean); close each card by the builder's one call (the guide's Derived/Test/ToyasCard.lean, 'card_holds'). Laid BY PROGRAM, IN A SANDBOX (cutbox-door.mjs). By AI agents, Wed Nov 11 2026. No macro, syntax, notation, axiom, sorry.
-/
import Derived.Test.YthocambhbkjpcaaGreatDoorRows
import GoSem.ClaimSeven
namespace Go.Proofs.YthocambhbkjpcaaGreatDoor
namespace Rows

/-- THE TIED CARD OF 'publisherlaw12.ParseMetas'. -/
def parseMetasCard : Claim7 := { stood := { row := parseMetasRow, standIns := [], harness := (true, "f422266a4dde705909a9e769a7cdd00782a43b9d229f4f28a79c6b7d14c728e8"), looks := true }, kinds := [], alts := [], laidByText := true, laidKinds := [.data, .data, .data, .data, .sentinel, .sentinel, .pinned], laidTests := true, laidLooks := .later }
def ParseMetasCardSaid : Prop := Claim7.holds Tryz.pinned (.plain (OpenSpec.ofChange parseMetasSpec)) parseMetasCard

/-- THE SECOND FORM's CARD OF 'publisherlaw12.ParseMetas'. -/
def parseMetasUptoCard : Claim7 := { stood := { row := parseMetasUptoRow, standIns := [], harness := (true, "f422266a4dde705909a9e769a7cdd00782a43b9d229f4f28a79c6b7d14c728e8"), looks := true }, kinds := [], alts := [], laidByText := true, laidKinds := [.data, .data, .data, .data, .sentinel, .sentinel, .pinned], laidTests := true, laidLooks := .later }
def ParseMetasUptoCardSaid : Prop := Claim7.holds Tryz.pinned (.plain (OpenSpec.upto parseMetasSpec)) parseMetasUptoCard
end Rows
end Go.Proofs.YthocambhbkjpcaaGreatDoor
