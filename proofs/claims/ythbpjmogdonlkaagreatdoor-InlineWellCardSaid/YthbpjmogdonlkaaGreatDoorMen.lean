/- InlineWell: for every input the law returns true, and the arguments read afterwards as they read before. Conditions: the listed package-level variables hold what the program's text lays (tied by the card). -/
import Derived.Test.YthbpjmogdonlkaaGreatDoorMel
import Derived.Test.YthbpjmogdonlkaaGreatDoorMem
set_option linter.unusedSimpArgs false
set_option linter.unusedVariables false
namespace Go.Proofs.YthbpjmogdonlkaaGreatDoor
open Go Go.Eng Go.ChangeShapes Go.WideShapes Go.ChangeAt Go.RowKit Go.ChangeMaps
theorem inlineWell_card:Rows.InlineWellCardSaid:=
 Claim7.holds_tied_plain_at .later [] _ _ _ _ Vlh (λ_ h=>by cases h) card_wf (λ_ h=>by cases h) inlineWell_row_tie rfl ⟨rfl,rfl⟩ card_main rfl in_plain card_goes
#print axioms inlineWell_card
end Go.Proofs.YthbpjmogdonlkaaGreatDoor
