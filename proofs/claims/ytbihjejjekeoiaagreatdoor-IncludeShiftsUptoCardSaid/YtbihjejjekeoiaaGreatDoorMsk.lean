/- Texts joined by a program (merge.py). -/
import Derived.Test.YtbihjejjekeoiaaGreatDoorMsj
set_option linter.unusedSimpArgs false
set_option linter.unusedVariables false
namespace Go.Proofs.YtbihjejjekeoiaaGreatDoor
open Go
set_option maxRecDepth 1000000 in
theorem isf_all : joinedFacts Tryz.pinned.checked.prog 3 Tryz.f3 ((Rows.OpenSpec.upto Rows.includeShiftsSpec)).bare Rows.includeShiftsUptoRow = true := by
  unfold joinedFacts
  simp only [Bool.and_eq_true]
  exact ⟨⟨⟨⟨⟨⟨⟨⟨⟨⟨⟨⟨⟨⟨⟨⟨⟨⟨⟨⟨⟨⟨⟨⟨⟨⟨⟨⟨⟨⟨⟨isf0, isf1⟩, isf2⟩, isf3⟩, isf4⟩, isf5⟩, isf6⟩, isf7⟩, isf8⟩, isf9⟩, isf10⟩, isf11⟩, isf12⟩, isf13⟩, isf14⟩, isf15⟩, isf16⟩, isf17⟩, isf18⟩, isf19⟩, isf20⟩, isf21⟩, isf22⟩, isf23⟩, isf24⟩, isf25⟩, isf26⟩, isf27⟩, isf28⟩, isf29⟩, isf30⟩, isf31⟩
end Go.Proofs.YtbihjejjekeoiaaGreatDoor
