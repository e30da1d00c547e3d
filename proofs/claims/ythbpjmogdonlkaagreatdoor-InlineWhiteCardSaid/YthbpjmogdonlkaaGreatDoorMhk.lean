/- Texts joined by a program (merge.py). -/
import Derived.Test.YthbpjmogdonlkaaGreatDoorMhj
set_option linter.unusedSimpArgs false
set_option linter.unusedVariables false
namespace Go.Proofs.YthbpjmogdonlkaaGreatDoor
open Go
set_option maxRecDepth 1000000 in
theorem ihf_all:joinedFacts Tryz.pinned.checked.prog 4 Tryz.f4 (OpenSpec.ofChange Rows.inlineWhiteSpec).bare Rows.inlineWhiteRow=true:=by
 unfold joinedFacts;simp only[Bool.and_eq_true];exact⟨⟨⟨⟨⟨⟨⟨⟨⟨⟨⟨⟨⟨⟨⟨⟨⟨⟨⟨⟨⟨⟨⟨⟨⟨⟨⟨⟨⟨⟨⟨ihf0,ihf1⟩,ihf2⟩,ihf3⟩,ihf4⟩,ihf5⟩,ihf6⟩,ihf7⟩,ihf8⟩,ihf9⟩,ihf10⟩,ihf11⟩,ihf12⟩,ihf13⟩,ihf14⟩,ihf15⟩,ihf16⟩,ihf17⟩,ihf18⟩,ihf19⟩,ihf20⟩,ihf21⟩,ihf22⟩,ihf23⟩,ihf24⟩,ihf25⟩,ihf26⟩,ihf27⟩,ihf28⟩,ihf29⟩,ihf30⟩,ihf31⟩
end Go.Proofs.YthbpjmogdonlkaaGreatDoor
