/- Texts joined by a program (merge.py). -/
import Derived.Test.YtcdfhagcchmnhaaGreatDoorMck
set_option linter.unusedSimpArgs false
set_option linter.unusedVariables false
namespace Go.Proofs.YtcdfhagcchmnhaaGreatDoor
open Go
set_option maxRecDepth 1000000 in
theorem mcf_all : joinedFacts Tryz.pinned.checked.prog 4 Tryz.f4 (Rows.OpenSpec.upto Rows.macroCyclesSpec).bare Rows.macroCyclesUptoRow = true := by
  unfold joinedFacts
  simp only [Bool.and_eq_true]
  exact ⟨⟨⟨⟨⟨⟨⟨⟨⟨⟨⟨⟨⟨⟨⟨⟨⟨⟨⟨⟨⟨⟨⟨⟨⟨⟨⟨⟨⟨⟨⟨mcf0, mcf1⟩, mcf2⟩, mcf3⟩, mcf4⟩, mcf5⟩, mcf6⟩, mcf7⟩, mcf8⟩, mcf9⟩, mcf10⟩, mcf11⟩, mcf12⟩, mcf13⟩, mcf14⟩, mcf15⟩, mcf16⟩, mcf17⟩, mcf18⟩, mcf19⟩, mcf20⟩, mcf21⟩, mcf22⟩, mcf23⟩, mcf24⟩, mcf25⟩, mcf26⟩, mcf27⟩, mcf28⟩, mcf29⟩, mcf30⟩, mcf31⟩
end Go.Proofs.YtcdfhagcchmnhaaGreatDoor
