/- Texts joined by a program (merge.py). -/
import Derived.Test.YthbpjmogdonlkaaGreatDoorMdn
set_option linter.unusedSimpArgs false
set_option linter.unusedVariables false
namespace Go.Proofs.YthbpjmogdonlkaaGreatDoor
open Go
set_option maxRecDepth 1000000 in
theorem idf_all : joinedFacts Tryz.pinned.checked.prog 7 Tryz.f7 (OpenSpec.ofChange Rows.inlineDeepSpec).bare Rows.inlineDeepRow = true := by
 unfold joinedFacts
 simp only [Bool.and_eq_true]
 exact ⟨⟨⟨⟨⟨⟨⟨⟨⟨⟨⟨⟨⟨⟨⟨⟨⟨⟨⟨⟨⟨⟨⟨⟨⟨⟨⟨⟨⟨⟨⟨idf0, idf1⟩, idf2⟩, idf3⟩, idf4⟩, idf5⟩, idf6⟩, idf7⟩, idf8⟩, idf9⟩, idf10⟩, idf11⟩, idf12⟩, idf13⟩, idf14⟩, idf15⟩, idf16⟩, idf17⟩, idf18⟩, idf19⟩, idf20⟩, idf21⟩, idf22⟩, idf23⟩, idf24⟩, idf25⟩, idf26⟩, idf27⟩, idf28⟩, idf29⟩, idf30⟩, idf31⟩
end Go.Proofs.YthbpjmogdonlkaaGreatDoor
