/- Texts joined by a program (merge.py). -/
import Derived.Test.YthbpjmogdonlkaaGreatDoorMll
set_option linter.unusedSimpArgs false
set_option linter.unusedVariables false
namespace Go.Proofs.YthbpjmogdonlkaaGreatDoor
open Go Go.Eng Go.ChangeShapes Go.WideShapes Go.ChangeAt Go.RowKit Go.ChangeMaps
theorem card_wf:Rows.inlineLinksRow.wfByText (OpenSpec.ofChange Rows.inlineLinksSpec)=true:=by kernel_rfl
end Go.Proofs.YthbpjmogdonlkaaGreatDoor
