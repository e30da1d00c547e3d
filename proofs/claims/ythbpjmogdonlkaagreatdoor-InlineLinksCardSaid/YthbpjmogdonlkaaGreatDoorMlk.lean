/- Texts joined by a program (merge.py). -/
import Derived.Test.YthbpjmogdonlkaaGreatDoorMlj
set_option linter.unusedSimpArgs false
set_option linter.unusedVariables false
namespace Go.Proofs.YthbpjmogdonlkaaGreatDoor
open Go
set_option maxRecDepth 1000000 in
theorem ilf_all:joinedFacts Tryz.pinned.checked.prog 5 Tryz.f5 (OpenSpec.ofChange Rows.inlineLinksSpec).bare Rows.inlineLinksRow=true:=by
 unfold joinedFacts;simp only[Bool.and_eq_true];exact⟨⟨⟨⟨⟨⟨⟨⟨⟨⟨⟨⟨⟨⟨⟨⟨⟨⟨⟨⟨⟨⟨⟨⟨⟨⟨⟨⟨⟨⟨⟨ilf0,ilf1⟩,ilf2⟩,ilf3⟩,ilf4⟩,ilf5⟩,ilf6⟩,ilf7⟩,ilf8⟩,ilf9⟩,ilf10⟩,ilf11⟩,ilf12⟩,ilf13⟩,ilf14⟩,ilf15⟩,ilf16⟩,ilf17⟩,ilf18⟩,ilf19⟩,ilf20⟩,ilf21⟩,ilf22⟩,ilf23⟩,ilf24⟩,ilf25⟩,ilf26⟩,ilf27⟩,ilf28⟩,ilf29⟩,ilf30⟩,ilf31⟩
end Go.Proofs.YthbpjmogdonlkaaGreatDoor
