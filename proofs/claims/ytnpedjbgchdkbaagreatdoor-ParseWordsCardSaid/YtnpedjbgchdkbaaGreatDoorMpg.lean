/- Texts joined by a program (merge.py). -/
import Derived.Test.YtnpedjbgchdkbaaGreatDoorProg
import Derived.Test.YtnpedjbgchdkbaaGreatDoorMpf
import Derived.KernelRfl
set_option linter.unusedSimpArgs false
set_option linter.unusedVariables false
namespace Go.Proofs.YtnpedjbgchdkbaaGreatDoor
open Go Go.CE
set_option maxRecDepth 1000000
noncomputable def lib (f : Nat) : Option LibF := bc (Nat.beq f 26) (some libString) (bc (Nat.beq f 37) (some libCheck) (bc (Nat.beq f 267) (some libCount) (bc (Nat.beq f 41) (some libIndexByte) (bc (Nat.beq f 122) (some libAtoi) none))))
theorem awake_runs : okB (callF Tryz.prog lib 60 (.f 4) [] h0 ⟨.d0,.d0,.d0,.d0,.d0⟩) = true := by kernel_rfl
end Go.Proofs.YtnpedjbgchdkbaaGreatDoor
