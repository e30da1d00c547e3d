/- ParseWords: for every input the law returns true, and the arguments read afterwards as they read before. Conditions: the listed package-level variables hold what the program's text lays (tied by the card). -/
import Derived.Test.YtnpedjbgchdkbaaGreatDoorMpp
import Derived.Test.YtnpedjbgchdkbaaGreatDoorMpq
set_option linter.unusedSimpArgs false
set_option linter.unusedVariables false
namespace Go.Proofs.YtnpedjbgchdkbaaGreatDoor
open Go Go.Eng Go.ChangeShapes Go.WideShapes Go.ChangeAt Go.RowKit Go.ChangeMaps
theorem parseWords_card : Rows.ParseWordsCardSaid :=
 Claim7.holds_tied_plain_at .later [] _ _ _ _ Vjz (fun _ h => by cases h) card_wf (fun _ h => by cases h) parseWords_row_tie rfl ⟨rfl, rfl⟩ card_main rfl in_plain card_goes
#print axioms parseWords_card
end Go.Proofs.YtnpedjbgchdkbaaGreatDoor
