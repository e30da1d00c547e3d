/- Texts joined by a program (merge.py). -/
import Derived.Test.YthbpjmogdonlkaaGreatDoorMei
set_option linter.unusedSimpArgs false
set_option linter.unusedVariables false
namespace Go.Proofs.YthbpjmogdonlkaaGreatDoor
open Go
set_option maxRecDepth 1000000 in
theorem iwlf_all:joinedFacts Tryz.pinned.checked.prog 8 Tryz.f8 (OpenSpec.ofChange Rows.inlineWellSpec).bare Rows.inlineWellRow=true:=by
 unfold joinedFacts;simp only[Bool.and_eq_true];exact⟨⟨⟨⟨⟨⟨⟨⟨⟨⟨⟨⟨⟨⟨⟨⟨⟨⟨⟨⟨⟨⟨⟨⟨⟨⟨⟨⟨⟨⟨⟨iwlf0,iwlf1⟩,iwlf2⟩,iwlf3⟩,iwlf4⟩,iwlf5⟩,iwlf6⟩,iwlf7⟩,iwlf8⟩,iwlf9⟩,iwlf10⟩,iwlf11⟩,iwlf12⟩,iwlf13⟩,iwlf14⟩,iwlf15⟩,iwlf16⟩,iwlf17⟩,iwlf18⟩,iwlf19⟩,iwlf20⟩,iwlf21⟩,iwlf22⟩,iwlf23⟩,iwlf24⟩,iwlf25⟩,iwlf26⟩,iwlf27⟩,iwlf28⟩,iwlf29⟩,iwlf30⟩,iwlf31⟩
end Go.Proofs.YthbpjmogdonlkaaGreatDoor
