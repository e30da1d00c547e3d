/- Texts joined by a program (merge.py). -/
import Derived.Test.YtcdfhagcchmnhaaGreatDoorMtk
set_option linter.unusedSimpArgs false
set_option linter.unusedVariables false
namespace Go.Proofs.YtcdfhagcchmnhaaGreatDoor
open Go
set_option maxRecDepth 1000000 in
theorem mtf_all : joinedFacts Tryz.pinned.checked.prog 3 Tryz.f3 (Rows.OpenSpec.upto Rows.macroTablesSpec).bare Rows.macroTablesUptoRow = true := by
  unfold joinedFacts
  simp only [Bool.and_eq_true]
  exact ⟨⟨⟨⟨⟨⟨⟨⟨⟨⟨⟨⟨⟨⟨⟨⟨⟨⟨⟨⟨⟨⟨⟨⟨⟨⟨⟨⟨⟨⟨⟨mtf0, mtf1⟩, mtf2⟩, mtf3⟩, mtf4⟩, mtf5⟩, mtf6⟩, mtf7⟩, mtf8⟩, mtf9⟩, mtf10⟩, mtf11⟩, mtf12⟩, mtf13⟩, mtf14⟩, mtf15⟩, mtf16⟩, mtf17⟩, mtf18⟩, mtf19⟩, mtf20⟩, mtf21⟩, mtf22⟩, mtf23⟩, mtf24⟩, mtf25⟩, mtf26⟩, mtf27⟩, mtf28⟩, mtf29⟩, mtf30⟩, mtf31⟩
end Go.Proofs.YtcdfhagcchmnhaaGreatDoor
