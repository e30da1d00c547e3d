/-
  DERIVED. GIVEN WITH THE SEED: THE CARDS: each row of YtbihjejjekeoiaaGreatDoorRows.lean that lists a variable, with what it lists TIED to the program's text (the seventh form; the later family's looks); each row that meets fmt, with fmt's text TOLD by the authors' own Lean function (tested against real Go, not proved from fmt's source: count such statements apart). THE CARD IS WHAT COUNTS. Prove the row's statement (the work); the ties are given (YtbihjejjekeoiaaGreatDoorTie.lean); close each card by the builder's one call (the guide's Derived/Test/ToyasCard.lean, 'card_holds'). Laid BY PROGRAM, IN A SANDBOX (cutbox-door.mjs). By AI agents, Wed Nov 11 2026. No macro, syntax, notation, axiom, sorry.
-/
import Derived.Test.YtbihjejjekeoiaaGreatDoorRows
import GoSem.ClaimSeven
namespace Go.Proofs.YtbihjejjekeoiaaGreatDoor
namespace Rows

/-- THE TIED CARD OF 'publisherlaw19.IncludeShifts'. -/
def includeShiftsCard : Claim7 := { stood := { row := includeShiftsRow, standIns := [], harness := (true, "d3751e2b9fc0249bb14d8407878284bac4eb413f41d44ac96bd1569a5d8d3e9a"), looks := true }, kinds := [], alts := [], laidByText := true, laidKinds := [.data, .data, .data, .data, .sentinel, .sentinel, .pinned], laidTests := true, laidLooks := .later }
def IncludeShiftsCardSaid : Prop := Claim7.holds Tryz.pinned (.plain (OpenSpec.ofChange includeShiftsSpec)) includeShiftsCard

/-- THE TIED CARD OF 'publisherlaw19.IncludeNames'. -/
def includeNamesCard : Claim7 := { stood := { row := includeNamesRow, standIns := [], harness := (true, "d3751e2b9fc0249bb14d8407878284bac4eb413f41d44ac96bd1569a5d8d3e9a"), looks := true }, kinds := [], alts := [], laidByText := true, laidKinds := [.data, .data, .data, .data, .sentinel, .sentinel, .pinned], laidTests := true, laidLooks := .later }
def IncludeNamesCardSaid : Prop := Claim7.holds Tryz.pinned (.plain (OpenSpec.ofChange includeNamesSpec)) includeNamesCard

/-- THE SECOND FORM's CARD OF 'publisherlaw19.IncludeShifts'. -/
def includeShiftsUptoCard : Claim7 := { stood := { row := includeShiftsUptoRow, standIns := [], harness := (true, "d3751e2b9fc0249bb14d8407878284bac4eb413f41d44ac96bd1569a5d8d3e9a"), looks := true }, kinds := [], alts := [], laidByText := true, laidKinds := [.data, .data, .data, .data, .sentinel, .sentinel, .pinned], laidTests := true, laidLooks := .later }
def IncludeShiftsUptoCardSaid : Prop := Claim7.holds Tryz.pinned (.plain (OpenSpec.upto includeShiftsSpec)) includeShiftsUptoCard

/-- THE SECOND FORM's CARD OF 'publisherlaw19.IncludeNames'. -/
def includeNamesUptoCard : Claim7 := { stood := { row := includeNamesUptoRow, standIns := [], harness := (true, "d3751e2b9fc0249bb14d8407878284bac4eb413f41d44ac96bd1569a5d8d3e9a"), looks := true }, kinds := [], alts := [], laidByText := true, laidKinds := [.data, .data, .data, .data, .sentinel, .sentinel, .pinned], laidTests := true, laidLooks := .later }
def IncludeNamesUptoCardSaid : Prop := Claim7.holds Tryz.pinned (.plain (OpenSpec.upto includeNamesSpec)) includeNamesUptoCard
end Rows
end Go.Proofs.YtbihjejjekeoiaaGreatDoor
