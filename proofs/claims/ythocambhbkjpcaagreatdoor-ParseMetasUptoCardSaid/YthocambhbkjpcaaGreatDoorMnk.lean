/- Texts joined by a program (merge.py). -/
import Derived.Test.YthocambhbkjpcaaGreatDoorMnj
set_option linter.unusedSimpArgs false
set_option linter.unusedVariables false
namespace Go.Proofs.YthocambhbkjpcaaGreatDoor
open Go
set_option maxRecDepth 1000000 in
theorem pmf_all : joinedFacts Tryz.pinned.checked.prog 3 Tryz.f3 (Rows.OpenSpec.upto Rows.parseMetasSpec).bare Rows.parseMetasUptoRow = true := by
  unfold joinedFacts
  simp only [Bool.and_eq_true]
  exact ⟨⟨⟨⟨⟨⟨⟨⟨⟨⟨⟨⟨⟨⟨⟨⟨⟨⟨⟨⟨⟨⟨⟨⟨⟨⟨⟨⟨⟨⟨⟨pmf0, pmf1⟩, pmf2⟩, pmf3⟩, pmf4⟩, pmf5⟩, pmf6⟩, pmf7⟩, pmf8⟩, pmf9⟩, pmf10⟩, pmf11⟩, pmf12⟩, pmf13⟩, pmf14⟩, pmf15⟩, pmf16⟩, pmf17⟩, pmf18⟩, pmf19⟩, pmf20⟩, pmf21⟩, pmf22⟩, pmf23⟩, pmf24⟩, pmf25⟩, pmf26⟩, pmf27⟩, pmf28⟩, pmf29⟩, pmf30⟩, pmf31⟩
end Go.Proofs.YthocambhbkjpcaaGreatDoor
