/- Texts joined by a program (merge.py). -/
import Derived.Test.YtkgflongbanbgaaGreatDoorProg
import Derived.Test.YtkgflongbanbgaaGreatDoorMvg
import Derived.KernelRfl
set_option linter.unusedSimpArgs false
set_option linter.unusedVariables false
namespace Go.Proofs.YtkgflongbanbgaaGreatDoor
open Go Go.CE
set_option maxRecDepth 1000000
noncomputable def lib (f : Nat) : Option LibF := bc (Nat.beq f 80) (some libString) (bc (Nat.beq f 98) (some libCheck) (bc (Nat.beq f 143) (some libCount) (bc (Nat.beq f 85) (some libIndexByte) none)))
theorem awake_runs : okB (callF Tryz.prog lib 60 (.f 5) [] h0 ⟨.d0,.d0,.d0,.d0,.d0⟩) = true := by kernel_rfl
end Go.Proofs.YtkgflongbanbgaaGreatDoor
