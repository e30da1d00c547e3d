/-
  DERIVED. GIVEN WITH THE SEED: THE CARDS: each row of YthbpjmogdonlkaaGreatDoorRows.lean that lists a variable, with what it lists TIED to the program's text (the seventh form; the later family's looks); each row that meets fmt, with fmt's text TOLD by the authors' own Lean function (tested against real Go, not proved from fmt's source: count such statements apart). THE CARD IS WHAT COUNTS. Prove the row's statement (the work); the ties are given (YthbpjmogdonlkaaGreatDoorTie.lean); close each card by the builder's one call (the guide's Derived/Test/ToyasCard.lean, 'card_holds'). Laid BY PROGRAM, IN A SANDBOX (cutbox-door.mjs). By AI agents, Wed Nov 11 2026. No macro, syntax, notation, axiom, sorry.
-/
import Derived.Test.YthbpjmogdonlkaaGreatDoorRows
import GoSem.ClaimSeven
namespace Go.Proofs.YthbpjmogdonlkaaGreatDoor
namespace Rows

/-- THE TIED CARD OF 'publisherlaw11.InlineParse'. -/
def inlineParseCard : Claim7 := { stood := { row := inlineParseRow, standIns := [], harness := (true, "55d251d9f5ad619cbdebfea0e68b962cfe396939b7be08bf46b1a58e49a84a19"), looks := true }, kinds := [], alts := [], laidByText := true, laidKinds := [.data, .data, .data, .data, .sentinel, .sentinel, .pinned], laidTests := true, laidLooks := .later }
def InlineParseCardSaid : Prop := Claim7.holds Tryz.pinned (.plain (OpenSpec.ofChange inlineParseSpec)) inlineParseCard

/-- THE TIED CARD OF 'publisherlaw11.InlineWhite'. -/
def inlineWhiteCard : Claim7 := { stood := { row := inlineWhiteRow, standIns := [], harness := (true, "55d251d9f5ad619cbdebfea0e68b962cfe396939b7be08bf46b1a58e49a84a19"), looks := true }, kinds := [], alts := [], laidByText := true, laidKinds := [.data, .data, .data, .data, .sentinel, .sentinel, .pinned], laidTests := true, laidLooks := .later }
def InlineWhiteCardSaid : Prop := Claim7.holds Tryz.pinned (.plain (OpenSpec.ofChange inlineWhiteSpec)) inlineWhiteCard

/-- THE TIED CARD OF 'publisherlaw11.InlineLinks'. -/
def inlineLinksCard : Claim7 := { stood := { row := inlineLinksRow, standIns := [], harness := (true, "55d251d9f5ad619cbdebfea0e68b962cfe396939b7be08bf46b1a58e49a84a19"), looks := true }, kinds := [], alts := [], laidByText := true, laidKinds := [.data, .data, .data, .data, .sentinel, .sentinel, .pinned], laidTests := true, laidLooks := .later }
def InlineLinksCardSaid : Prop := Claim7.holds Tryz.pinned (.plain (OpenSpec.ofChange inlineLinksSpec)) inlineLinksCard

/-- THE TIED CARD OF 'publisherlaw11.InlineWords'. -/
def inlineWordsCard : Claim7 := { stood := { row := inlineWordsRow, standIns := [], harness := (true, "55d251d9f5ad619cbdebfea0e68b962cfe396939b7be08bf46b1a58e49a84a19"), looks := true }, kinds := [], alts := [], laidByText := true, laidKinds := [.data, .data, .data, .data, .sentinel, .sentinel, .pinned], laidTests := true, laidLooks := .later }
def InlineWordsCardSaid : Prop := Claim7.holds Tryz.pinned (.plain (OpenSpec.ofChange inlineWordsSpec)) inlineWordsCard

/-- THE TIED CARD OF 'publisherlaw11.InlineDeep'. -/
def inlineDeepCard : Claim7 := { stood := { row := inlineDeepRow, standIns := [], harness := (true, "55d251d9f5ad619cbdebfea0e68b962cfe396939b7be08bf46b1a58e49a84a19"), looks := true }, kinds := [], alts := [], laidByText := true, laidKinds := [.data, .data, .data, .data, .sentinel, .sentinel, .pinned], laidTests := true, laidLooks := .later }
def InlineDeepCardSaid : Prop := Claim7.holds Tryz.pinned (.plain (OpenSpec.ofChange inlineDeepSpec)) inlineDeepCard

/-- THE TIED CARD OF 'publisherlaw11.InlineWell'. -/
def inlineWellCard : Claim7 := { stood := { row := inlineWellRow, standIns := [], harness := (true, "55d251d9f5ad619cbdebfea0e68b962cfe396939b7be08bf46b1a58e49a84a19"), looks := true }, kinds := [], alts := [], laidByText := true, laidKinds := [.data, .data, .data, .data, .sentinel, .sentinel, .pinned], laidTests := true, laidLooks := .later }
def InlineWellCardSaid : Prop := Claim7.holds Tryz.pinned (.plain (OpenSpec.ofChange inlineWellSpec)) inlineWellCard

/-- THE SECOND FORM's CARD OF 'publisherlaw11.InlineParse'. -/
def inlineParseUptoCard : Claim7 := { stood := { row := inlineParseUptoRow, standIns := [], harness := (true, "55d251d9f5ad619cbdebfea0e68b962cfe396939b7be08bf46b1a58e49a84a19"), looks := true }, kinds := [], alts := [], laidByText := true, laidKinds := [.data, .data, .data, .data, .sentinel, .sentinel, .pinned], laidTests := true, laidLooks := .later }
def InlineParseUptoCardSaid : Prop := Claim7.holds Tryz.pinned (.plain (OpenSpec.upto inlineParseSpec)) inlineParseUptoCard

/-- THE SECOND FORM's CARD OF 'publisherlaw11.InlineWhite'. -/
def inlineWhiteUptoCard : Claim7 := { stood := { row := inlineWhiteUptoRow, standIns := [], harness := (true, "55d251d9f5ad619cbdebfea0e68b962cfe396939b7be08bf46b1a58e49a84a19"), looks := true }, kinds := [], alts := [], laidByText := true, laidKinds := [.data, .data, .data, .data, .sentinel, .sentinel, .pinned], laidTests := true, laidLooks := .later }
def InlineWhiteUptoCardSaid : Prop := Claim7.holds Tryz.pinned (.plain (OpenSpec.upto inlineWhiteSpec)) inlineWhiteUptoCard

/-- THE SECOND FORM's CARD OF 'publisherlaw11.InlineLinks'. -/
def inlineLinksUptoCard : Claim7 := { stood := { row := inlineLinksUptoRow, standIns := [], harness := (true, "55d251d9f5ad619cbdebfea0e68b962cfe396939b7be08bf46b1a58e49a84a19"), looks := true }, kinds := [], alts := [], laidByText := true, laidKinds := [.data, .data, .data, .data, .sentinel, .sentinel, .pinned], laidTests := true, laidLooks := .later }
def InlineLinksUptoCardSaid : Prop := Claim7.holds Tryz.pinned (.plain (OpenSpec.upto inlineLinksSpec)) inlineLinksUptoCard

/-- THE SECOND FORM's CARD OF 'publisherlaw11.InlineWords'. -/
def inlineWordsUptoCard : Claim7 := { stood := { row := inlineWordsUptoRow, standIns := [], harness := (true, "55d251d9f5ad619cbdebfea0e68b962cfe396939b7be08bf46b1a58e49a84a19"), looks := true }, kinds := [], alts := [], laidByText := true, laidKinds := [.data, .data, .data, .data, .sentinel, .sentinel, .pinned], laidTests := true, laidLooks := .later }
def InlineWordsUptoCardSaid : Prop := Claim7.holds Tryz.pinned (.plain (OpenSpec.upto inlineWordsSpec)) inlineWordsUptoCard

/-- THE SECOND FORM's CARD OF 'publisherlaw11.InlineDeep'. -/
def inlineDeepUptoCard : Claim7 := { stood := { row := inlineDeepUptoRow, standIns := [], harness := (true, "55d251d9f5ad619cbdebfea0e68b962cfe396939b7be08bf46b1a58e49a84a19"), looks := true }, kinds := [], alts := [], laidByText := true, laidKinds := [.data, .data, .data, .data, .sentinel, .sentinel, .pinned], laidTests := true, laidLooks := .later }
def InlineDeepUptoCardSaid : Prop := Claim7.holds Tryz.pinned (.plain (OpenSpec.upto inlineDeepSpec)) inlineDeepUptoCard

/-- THE SECOND FORM's CARD OF 'publisherlaw11.InlineWell'. -/
def inlineWellUptoCard : Claim7 := { stood := { row := inlineWellUptoRow, standIns := [], harness := (true, "55d251d9f5ad619cbdebfea0e68b962cfe396939b7be08bf46b1a58e49a84a19"), looks := true }, kinds := [], alts := [], laidByText := true, laidKinds := [.data, .data, .data, .data, .sentinel, .sentinel, .pinned], laidTests := true, laidLooks := .later }
def InlineWellUptoCardSaid : Prop := Claim7.holds Tryz.pinned (.plain (OpenSpec.upto inlineWellSpec)) inlineWellUptoCard
end Rows
end Go.Proofs.YthbpjmogdonlkaaGreatDoor
