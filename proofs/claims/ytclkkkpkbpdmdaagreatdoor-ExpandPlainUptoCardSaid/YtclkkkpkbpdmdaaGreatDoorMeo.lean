/- Texts joined by a program (merge.py). -/
import Derived.Test.YtclkkkpkbpdmdaaGreatDoorMem
set_option linter.unusedSimpArgs false
set_option linter.unusedVariables false
namespace Go.Proofs.YtclkkkpkbpdmdaaGreatDoor
open Go Go.Eng Go.ChangeShapes Go.WideShapes Go.ChangeAt Go.RowKit Go.ChangeMaps
theorem card_wf : Rows.expandPlainUptoRow.wfByText (Rows.OpenSpec.upto Rows.expandPlainSpec) = true := by kernel_rfl
end Go.Proofs.YtclkkkpkbpdmdaaGreatDoor
