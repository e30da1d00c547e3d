/- Texts joined by a program (merge.py). -/
import Derived.Test.YtcdfhagcchmnhaaGreatDoorProg
import Derived.Test.YtcdfhagcchmnhaaGreatDoorMcc
import Derived.KernelRfl
set_option linter.unusedSimpArgs false
set_option linter.unusedVariables false
namespace Go.Proofs.YtcdfhagcchmnhaaGreatDoor
open Go Go.CE
set_option maxRecDepth 1000000
noncomputable def lib (f : Nat) : Option LibF := bc (Nat.beq f 104) (some libString) (bc (Nat.beq f 122) (some libCheck) (bc (Nat.beq f 141) (some libCount) (bc (Nat.beq f 109) (some libIndexByte) none)))
theorem awake_runs : okB (callF Tryz.prog lib 60 (.f 6) [] h0 ⟨.d0,.d0,.d0,.d0,.d0⟩) = true := by kernel_rfl
end Go.Proofs.YtcdfhagcchmnhaaGreatDoor
