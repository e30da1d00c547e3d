/- MacroVariable: for every input that is of bulk at most 1048576 the law returns true, and the argument reads afterwards as it read before. Conditions: that bound (the second form); the listed package-level variables hold what the program's text lays (tied by the card). -/
import Derived.Test.YtkgflongbanbgaaGreatDoorMvq
import Derived.Test.YtkgflongbanbgaaGreatDoorMvr
set_option linter.unusedSimpArgs false
set_option linter.unusedVariables false
namespace Go.Proofs.YtkgflongbanbgaaGreatDoor
open Go Go.Eng Go.ChangeShapes Go.WideShapes Go.ChangeAt Go.RowKit Go.ChangeMaps
theorem macroVariable_card : Rows.MacroVariableUptoCardSaid :=
 Claim7.holds_tied_plain_at .later [] _ _ _ _ macroVariable_upto (fun _ h => by cases h) card_wf (fun _ h => by cases h) macroVariableUpto_row_tie rfl ⟨rfl, rfl⟩ card_main rfl in_plain card_goes
#print axioms macroVariable_card
end Go.Proofs.YtkgflongbanbgaaGreatDoor
