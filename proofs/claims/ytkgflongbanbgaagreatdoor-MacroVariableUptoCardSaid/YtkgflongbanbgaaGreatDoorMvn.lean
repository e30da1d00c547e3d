/- Texts joined by a program (merge.py). -/
import Derived.Test.YtkgflongbanbgaaGreatDoorRows
import Derived.JoinedOf
import Derived.KernelRfl
set_option linter.unusedSimpArgs false
set_option linter.unusedVariables false
namespace Go.Proofs.YtkgflongbanbgaaGreatDoor
open Go
theorem mvf0 : (Rows.macroVariableUptoRow.wf (OpenSpec.ofChange (Rows.OpenSpec.upto Rows.macroVariableSpec).bare)) = true := by kernel_rfl
theorem mvf1 : (laidOutB Tryz.pinned.checked.prog) = true := by kernel_rfl
theorem mvf2 : (mapsRowed Tryz.pinned.checked.prog) = true := by kernel_rfl
theorem mvf3 : (Tryz.f3.params.all (Tryz.pinned.checked.prog.readableRec ·)) = true := by kernel_rfl
theorem mvf4 : (namedTie Tryz.pinned.checked.prog Rows.macroVariableUptoRow.named (Rows.OpenSpec.upto Rows.macroVariableSpec).bare.vars) = true := by kernel_rfl
theorem mvf5 : (Rows.macroVariableUptoRow.stops == []) = true := by kernel_rfl
theorem mvf6 : (Tryz.pinned.checked.prog.stops == []) = true := by kernel_rfl
theorem mvf7 : (Rows.macroVariableUptoRow.knobs == []) = true := by kernel_rfl
theorem mvf8 : (Tryz.pinned.checked.prog.stopKnobs == []) = true := by kernel_rfl
theorem mvf9 : (Rows.macroVariableUptoRow.inPlace == Tryz.pinned.checked.prog.inPlace 3) = true := by kernel_rfl
theorem mvf10 : (Rows.macroVariableUptoRow.unfollowed == Tryz.pinned.checked.prog.unfollowed 3) = true := by kernel_rfl
theorem mvf11 : (Rows.macroVariableUptoRow.recurses == Tryz.pinned.checked.prog.recurses 3) = true := by kernel_rfl
theorem mvf12 : (Rows.macroVariableUptoRow.named == Tryz.pinned.checked.prog.varsNamed 3) = true := by kernel_rfl
theorem mvf13 : (Rows.macroVariableUptoRow.maps == (Tryz.f3.params.toList ++ (Rows.OpenSpec.upto Rows.macroVariableSpec).bare.plain.varTypes Tryz.pinned.checked.prog).any (Tryz.pinned.checked.prog.mapsRec ·)) = true := by kernel_rfl
theorem mvf14 : (Rows.macroVariableUptoRow.ifaces == (Tryz.f3.params.toList ++ (Rows.OpenSpec.upto Rows.macroVariableSpec).bare.plain.varTypes Tryz.pinned.checked.prog).any (Tryz.pinned.checked.prog.ifacesRec ·)) = true := by kernel_rfl
theorem mvf15 : (Rows.macroVariableUptoRow.mapsOut == Tryz.pinned.checked.prog.mapsAmong Tryz.f3.resultTypes.toList) = true := by kernel_rfl
theorem mvf16 : (Rows.macroVariableUptoRow.loops == (Tryz.f3.params.toList ++ (Rows.OpenSpec.upto Rows.macroVariableSpec).bare.plain.varTypes Tryz.pinned.checked.prog).any (Tryz.pinned.checked.prog.loopsFrom ·)) = true := by kernel_rfl
theorem mvf17 : (Rows.macroVariableUptoRow.wideKeys == (Tryz.f3.params.toList ++ (Rows.OpenSpec.upto Rows.macroVariableSpec).bare.plain.varTypes Tryz.pinned.checked.prog ++ Tryz.f3.resultTypes.toList).any (Tryz.pinned.checked.prog.wideKeysFrom ·)) = true := by kernel_rfl
theorem mvf18 : ((Rows.OpenSpec.upto Rows.macroVariableSpec).bare.vars.all (Tryz.pinned.checked.prog.varReadable ·)) = true := by kernel_rfl
theorem mvf19 : (Tryz.f3.resultTypes.all (fun t => Tryz.pinned.checked.prog.readableRec t && decide (t < Tryz.pinned.checked.prog.types.size))) = true := by kernel_rfl
theorem mvf20 : (Rows.macroVariableUptoRow.ifacesOut == Tryz.f3.resultTypes.toList.any (Tryz.pinned.checked.prog.ifacesRec ·)) = true := by kernel_rfl
theorem mvf21 : (Rows.macroVariableUptoRow.loopsOut == Tryz.f3.resultTypes.toList.any (Tryz.pinned.checked.prog.loopsFrom ·)) = true := by kernel_rfl
theorem mvf22 : (Rows.macroVariableUptoRow.plainKeys == Tryz.pinned.checked.prog.plainKeys) = true := by kernel_rfl
theorem mvf23 : Rows.macroVariableUptoRow.shortTexts.isNone = true := by kernel_rfl
theorem mvf24 : Tryz.pinned.checked.prog.stopsHeard = true := by kernel_rfl
theorem mvf25 : Tryz.pinned.checked.prog.mayEnter = true := by kernel_rfl
theorem mvf26 : (Rows.macroVariableUptoRow.lifted == Tryz.pinned.checked.prog.liftsFinal) = true := by kernel_rfl
theorem mvf27 : (Tryz.pinned.checked.prog.make == some Rows.macroVariableUptoRow.make) = true := by kernel_rfl
theorem mvf28 : (Rows.macroVariableUptoRow.kinds == (if Rows.macroVariableUptoRow.domain.isEmpty then [] else Tryz.f3.params.toList.map fun t => match Tryz.pinned.checked.prog.underlying t with | some (.int k) => some k | _ => none)) = true := by kernel_rfl
theorem mvf29 : (Rows.macroVariableUptoRow.pinned == Rows.macroVariableUptoRow.pinnedBy) = true := by kernel_rfl
theorem mvf30 : (Rows.macroVariableUptoRow.veiled == (Tryz.f3.params.toList ++ (Rows.OpenSpec.upto Rows.macroVariableSpec).bare.plain.varTypes Tryz.pinned.checked.prog ++ Tryz.f3.resultTypes.toList).any (Tryz.pinned.checked.prog.veiledRec ·)) = true := by kernel_rfl
theorem mvf31 : (Rows.macroVariableUptoRow.veiledFits Tryz.pinned.checked.prog Tryz.f3.params.toList (Tryz.f3.params.toList ++ (Rows.OpenSpec.upto Rows.macroVariableSpec).bare.plain.varTypes Tryz.pinned.checked.prog ++ Tryz.f3.resultTypes.toList)) = true := by kernel_rfl
end Go.Proofs.YtkgflongbanbgaaGreatDoor
