/- Texts joined by a program (merge.py). -/
import Derived.Test.YtclkkkpkbpdmdaaGreatDoorMek
set_option linter.unusedSimpArgs false
set_option linter.unusedVariables false
namespace Go.Proofs.YtclkkkpkbpdmdaaGreatDoor
open Go
set_option maxRecDepth 1000000 in
theorem epf_all : joinedFacts Tryz.pinned.checked.prog 3 Tryz.f3 (Rows.OpenSpec.upto Rows.expandPlainSpec).bare Rows.expandPlainUptoRow = true := by
  unfold joinedFacts
  simp only [Bool.and_eq_true]
  exact ⟨⟨⟨⟨⟨⟨⟨⟨⟨⟨⟨⟨⟨⟨⟨⟨⟨⟨⟨⟨⟨⟨⟨⟨⟨⟨⟨⟨⟨⟨⟨epf0, epf1⟩, epf2⟩, epf3⟩, epf4⟩, epf5⟩, epf6⟩, epf7⟩, epf8⟩, epf9⟩, epf10⟩, epf11⟩, epf12⟩, epf13⟩, epf14⟩, epf15⟩, epf16⟩, epf17⟩, epf18⟩, epf19⟩, epf20⟩, epf21⟩, epf22⟩, epf23⟩, epf24⟩, epf25⟩, epf26⟩, epf27⟩, epf28⟩, epf29⟩, epf30⟩, epf31⟩
end Go.Proofs.YtclkkkpkbpdmdaaGreatDoor
