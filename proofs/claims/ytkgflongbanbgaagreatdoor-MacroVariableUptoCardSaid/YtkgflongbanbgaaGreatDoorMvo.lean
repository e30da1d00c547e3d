/- Texts joined by a program (merge.py). -/
import Derived.Test.YtkgflongbanbgaaGreatDoorMvn
set_option linter.unusedSimpArgs false
set_option linter.unusedVariables false
namespace Go.Proofs.YtkgflongbanbgaaGreatDoor
open Go
set_option maxRecDepth 1000000 in
theorem mvf_all : joinedFacts Tryz.pinned.checked.prog 3 Tryz.f3 (Rows.OpenSpec.upto Rows.macroVariableSpec).bare Rows.macroVariableUptoRow = true := by
 unfold joinedFacts
 simp only [Bool.and_eq_true]
 exact ⟨⟨⟨⟨⟨⟨⟨⟨⟨⟨⟨⟨⟨⟨⟨⟨⟨⟨⟨⟨⟨⟨⟨⟨⟨⟨⟨⟨⟨⟨⟨mvf0, mvf1⟩, mvf2⟩, mvf3⟩, mvf4⟩, mvf5⟩, mvf6⟩, mvf7⟩, mvf8⟩, mvf9⟩, mvf10⟩, mvf11⟩, mvf12⟩, mvf13⟩, mvf14⟩, mvf15⟩, mvf16⟩, mvf17⟩, mvf18⟩, mvf19⟩, mvf20⟩, mvf21⟩, mvf22⟩, mvf23⟩, mvf24⟩, mvf25⟩, mvf26⟩, mvf27⟩, mvf28⟩, mvf29⟩, mvf30⟩, mvf31⟩
end Go.Proofs.YtkgflongbanbgaaGreatDoor
