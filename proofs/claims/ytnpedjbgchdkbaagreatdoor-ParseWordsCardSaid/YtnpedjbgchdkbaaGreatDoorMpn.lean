/- Texts joined by a program (merge.py). -/
import Derived.Test.YtnpedjbgchdkbaaGreatDoorMpm
set_option linter.unusedSimpArgs false
set_option linter.unusedVariables false
namespace Go.Proofs.YtnpedjbgchdkbaaGreatDoor
open Go
set_option maxRecDepth 1000000 in
theorem pwf_all : joinedFacts Tryz.pinned.checked.prog 3 Tryz.f3 (OpenSpec.ofChange Rows.parseWordsSpec).bare Rows.parseWordsRow = true := by
 unfold joinedFacts; simp only [Bool.and_eq_true]; exact ⟨⟨⟨⟨⟨⟨⟨⟨⟨⟨⟨⟨⟨⟨⟨⟨⟨⟨⟨⟨⟨⟨⟨⟨⟨⟨⟨⟨⟨⟨⟨pwf0, pwf1⟩, pwf2⟩, pwf3⟩, pwf4⟩, pwf5⟩, pwf6⟩, pwf7⟩, pwf8⟩, pwf9⟩, pwf10⟩, pwf11⟩, pwf12⟩, pwf13⟩, pwf14⟩, pwf15⟩, pwf16⟩, pwf17⟩, pwf18⟩, pwf19⟩, pwf20⟩, pwf21⟩, pwf22⟩, pwf23⟩, pwf24⟩, pwf25⟩, pwf26⟩, pwf27⟩, pwf28⟩, pwf29⟩, pwf30⟩, pwf31⟩
end Go.Proofs.YtnpedjbgchdkbaaGreatDoor
