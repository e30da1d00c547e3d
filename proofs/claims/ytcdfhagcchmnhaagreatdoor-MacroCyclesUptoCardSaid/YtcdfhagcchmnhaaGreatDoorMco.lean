/- Texts joined by a program (merge.py). -/
import Derived.Test.YtcdfhagcchmnhaaGreatDoorMcm
set_option linter.unusedSimpArgs false
set_option linter.unusedVariables false
namespace Go.Proofs.YtcdfhagcchmnhaaGreatDoor
open Go Go.Eng Go.ChangeShapes Go.WideShapes Go.ChangeAt Go.RowKit Go.ChangeMaps
theorem card_wf2 : Rows.macroCyclesUptoRow.wfByText (Rows.OpenSpec.upto Rows.macroCyclesSpec) = true := by kernel_rfl
end Go.Proofs.YtcdfhagcchmnhaaGreatDoor
