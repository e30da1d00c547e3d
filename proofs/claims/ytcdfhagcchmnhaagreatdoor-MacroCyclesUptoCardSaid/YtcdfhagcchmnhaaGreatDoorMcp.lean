/- MacroCycles: for every input that is of bulk at most 1048576 the law returns true, and the argument reads afterwards as it read before. Conditions: that bound (the second form); the listed package-level variables hold what the program's text lays (tied by the card). -/
import Derived.Test.YtcdfhagcchmnhaaGreatDoorMcn
import Derived.Test.YtcdfhagcchmnhaaGreatDoorMco
set_option linter.unusedSimpArgs false
set_option linter.unusedVariables false
namespace Go.Proofs.YtcdfhagcchmnhaaGreatDoor
open Go Go.Eng Go.ChangeShapes Go.WideShapes Go.ChangeAt Go.RowKit Go.ChangeMaps
theorem macroCycles_card : Rows.MacroCyclesUptoCardSaid :=
  Claim7.holds_tied_plain_at .later [] _ _ _ _ macroCycles_upto (fun _ h => by cases h) card_wf2 (fun _ h => by cases h) macroCyclesUpto_row_tie rfl ⟨rfl, rfl⟩ card_main2 rfl in_plain2 card_goes2
#print axioms macroCycles_card
end Go.Proofs.YtcdfhagcchmnhaaGreatDoor
