/- ExpandPlain: for every input that is of bulk at most 1048576 the law returns true, and the argument reads afterwards as it read before. Conditions: that bound (the second form); the listed package-level variables hold what the program's text lays (tied by the card). -/
import Derived.Test.YtclkkkpkbpdmdaaGreatDoorMen
import Derived.Test.YtclkkkpkbpdmdaaGreatDoorMeo
set_option linter.unusedSimpArgs false
set_option linter.unusedVariables false
namespace Go.Proofs.YtclkkkpkbpdmdaaGreatDoor
open Go Go.Eng Go.ChangeShapes Go.WideShapes Go.ChangeAt Go.RowKit Go.ChangeMaps
theorem expandPlain_card : Rows.ExpandPlainUptoCardSaid :=
  Claim7.holds_tied_plain_at .later [] _ _ _ _ expandPlain_upto (fun _ h => by cases h) card_wf (fun _ h => by cases h) expandPlainUpto_row_tie rfl ⟨rfl, rfl⟩ card_main rfl in_plain card_goes
#print axioms expandPlain_card
end Go.Proofs.YtclkkkpkbpdmdaaGreatDoor
