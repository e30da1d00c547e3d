/- Texts joined by a program (merge.py). -/
import Derived.Test.YthbpjmogdonlkaaGreatDoorProg
import Derived.Test.YthbpjmogdonlkaaGreatDoorMwg
import Derived.KernelRfl
set_option linter.unusedSimpArgs false
set_option linter.unusedVariables false
namespace Go.Proofs.YthbpjmogdonlkaaGreatDoor
open Go Go.CE
set_option maxRecDepth 1000000
noncomputable def lib (f : Nat) : Option LibF := bc (Nat.beq f 38) (some libString) (bc (Nat.beq f 83) (some libCheck) (bc (Nat.beq f 312) (some libCount) (bc (Nat.beq f 267) (some libIndexByte) (bc (Nat.beq f 149) (some libAtoi) none))))
theorem awake_runs : okB (callF Tryz.prog lib 60 (.f 10) [] h0 ⟨.d0,.d0,.d0,.d0,.d0⟩) = true := by kernel_rfl
end Go.Proofs.YthbpjmogdonlkaaGreatDoor
