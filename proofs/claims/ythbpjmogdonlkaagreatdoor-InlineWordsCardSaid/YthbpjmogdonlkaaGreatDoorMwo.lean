/- Texts joined by a program (merge.py). -/
import Derived.Test.YthbpjmogdonlkaaGreatDoorMwn
set_option linter.unusedSimpArgs false
set_option linter.unusedVariables false
namespace Go.Proofs.YthbpjmogdonlkaaGreatDoor
open Go
set_option maxRecDepth 1000000 in
theorem iwf_all : joinedFacts Tryz.pinned.checked.prog 6 Tryz.f6 (OpenSpec.ofChange Rows.inlineWordsSpec).bare Rows.inlineWordsRow = true := by
 unfold joinedFacts; simp only [Bool.and_eq_true]; exact ⟨⟨⟨⟨⟨⟨⟨⟨⟨⟨⟨⟨⟨⟨⟨⟨⟨⟨⟨⟨⟨⟨⟨⟨⟨⟨⟨⟨⟨⟨⟨iwf0, iwf1⟩, iwf2⟩, iwf3⟩, iwf4⟩, iwf5⟩, iwf6⟩, iwf7⟩, iwf8⟩, iwf9⟩, iwf10⟩, iwf11⟩, iwf12⟩, iwf13⟩, iwf14⟩, iwf15⟩, iwf16⟩, iwf17⟩, iwf18⟩, iwf19⟩, iwf20⟩, iwf21⟩, iwf22⟩, iwf23⟩, iwf24⟩, iwf25⟩, iwf26⟩, iwf27⟩, iwf28⟩, iwf29⟩, iwf30⟩, iwf31⟩
end Go.Proofs.YthbpjmogdonlkaaGreatDoor
