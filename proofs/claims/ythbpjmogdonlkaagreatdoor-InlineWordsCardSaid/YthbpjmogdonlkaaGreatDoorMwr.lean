/- Texts joined by a program (merge.py). -/
import Derived.Test.YthbpjmogdonlkaaGreatDoorMwp
set_option linter.unusedSimpArgs false
set_option linter.unusedVariables false
namespace Go.Proofs.YthbpjmogdonlkaaGreatDoor
open Go Go.Eng Go.ChangeShapes Go.WideShapes Go.ChangeAt Go.RowKit Go.ChangeMaps
theorem card_wf : Rows.inlineWordsRow.wfByText (OpenSpec.ofChange Rows.inlineWordsSpec) = true := by kernel_rfl
end Go.Proofs.YthbpjmogdonlkaaGreatDoor
