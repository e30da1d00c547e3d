/- Texts joined by a program (merge.py). -/
import Derived.Test.YtnpedjbgchdkbaaGreatDoorMpo
set_option linter.unusedSimpArgs false
set_option linter.unusedVariables false
namespace Go.Proofs.YtnpedjbgchdkbaaGreatDoor
open Go Go.Eng Go.ChangeShapes Go.WideShapes Go.ChangeAt Go.RowKit Go.ChangeMaps
theorem card_wf : Rows.parseWordsRow.wfByText (OpenSpec.ofChange Rows.parseWordsSpec) = true := by kernel_rfl
end Go.Proofs.YtnpedjbgchdkbaaGreatDoor
