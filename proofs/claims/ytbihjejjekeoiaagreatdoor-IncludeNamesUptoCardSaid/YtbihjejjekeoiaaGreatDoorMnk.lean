/- Texts joined by a program (merge.py). -/
import Derived.Test.YtbihjejjekeoiaaGreatDoorMnj
set_option linter.unusedSimpArgs false
set_option linter.unusedVariables false
namespace Go.Proofs.YtbihjejjekeoiaaGreatDoor
open Go
set_option maxRecDepth 1000000 in
theorem inf_all : joinedFacts Tryz.pinned.checked.prog 4 Tryz.f4 ((Rows.OpenSpec.upto Rows.includeNamesSpec)).bare Rows.includeNamesUptoRow = true := by
  unfold joinedFacts
  simp only [Bool.and_eq_true]
  exact ⟨⟨⟨⟨⟨⟨⟨⟨⟨⟨⟨⟨⟨⟨⟨⟨⟨⟨⟨⟨⟨⟨⟨⟨⟨⟨⟨⟨⟨⟨⟨inf0, inf1⟩, inf2⟩, inf3⟩, inf4⟩, inf5⟩, inf6⟩, inf7⟩, inf8⟩, inf9⟩, inf10⟩, inf11⟩, inf12⟩, inf13⟩, inf14⟩, inf15⟩, inf16⟩, inf17⟩, inf18⟩, inf19⟩, inf20⟩, inf21⟩, inf22⟩, inf23⟩, inf24⟩, inf25⟩, inf26⟩, inf27⟩, inf28⟩, inf29⟩, inf30⟩, inf31⟩
end Go.Proofs.YtbihjejjekeoiaaGreatDoor
