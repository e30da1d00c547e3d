/- Texts joined by a program (merge.py). -/
import Derived.Test.YtkgflongbanbgaaGreatDoorMvp
set_option linter.unusedSimpArgs false
set_option linter.unusedVariables false
namespace Go.Proofs.YtkgflongbanbgaaGreatDoor
open Go Go.Eng Go.ChangeShapes Go.WideShapes Go.ChangeAt Go.RowKit Go.ChangeMaps
theorem card_wf : Rows.macroVariableUptoRow.wfByText (Rows.OpenSpec.upto Rows.macroVariableSpec) = true := by kernel_rfl
end Go.Proofs.YtkgflongbanbgaaGreatDoor
