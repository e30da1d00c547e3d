/- Texts joined by a program (merge.py). -/
import Derived.Test.YthbpjmogdonlkaaGreatDoorMek
set_option linter.unusedSimpArgs false
set_option linter.unusedVariables false
namespace Go.Proofs.YthbpjmogdonlkaaGreatDoor
open Go Go.Eng Go.ChangeShapes Go.WideShapes Go.ChangeAt Go.RowKit Go.ChangeMaps
theorem card_wf:Rows.inlineWellRow.wfByText (OpenSpec.ofChange Rows.inlineWellSpec)=true:=kx
end Go.Proofs.YthbpjmogdonlkaaGreatDoor
