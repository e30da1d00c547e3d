/- Texts joined by a program (merge.py). -/
import Derived.Test.YtcdfhagcchmnhaaGreatDoorRows
import Derived.JoinedOf
import Derived.KernelRfl
set_option linter.unusedSimpArgs false
set_option linter.unusedVariables false
namespace Go.Proofs.YtcdfhagcchmnhaaGreatDoor
open Go
theorem mtf0 : (Rows.macroTablesUptoRow.wf (OpenSpec.ofChange (Rows.OpenSpec.upto Rows.macroTablesSpec).bare)) = true := by kernel_rfl
theorem mtf1 : (laidOutB Tryz.pinned.checked.prog) = true := by kernel_rfl
theorem mtf2 : (mapsRowed Tryz.pinned.checked.prog) = true := by kernel_rfl
theorem mtf3 : (Tryz.f3.params.all (Tryz.pinned.checked.prog.readableRec ·)) = true := by kernel_rfl
theorem mtf4 : (namedTie Tryz.pinned.checked.prog Rows.macroTablesUptoRow.named (Rows.OpenSpec.upto Rows.macroTablesSpec).bare.vars) = true := by kernel_rfl
theorem mtf5 : ((Rows.macroTablesUptoRow.stops == [])) = true := by kernel_rfl
theorem mtf6 : ((Tryz.pinned.checked.prog.stops == [])) = true := by kernel_rfl
theorem mtf7 : ((Rows.macroTablesUptoRow.knobs == [])) = true := by kernel_rfl
theorem mtf8 : ((Tryz.pinned.checked.prog.stopKnobs == [])) = true := by kernel_rfl
theorem mtf9 : ((Rows.macroTablesUptoRow.inPlace == Tryz.pinned.checked.prog.inPlace 3)) = true := by kernel_rfl
theorem mtf10 : ((Rows.macroTablesUptoRow.unfollowed == Tryz.pinned.checked.prog.unfollowed 3)) = true := by kernel_rfl
theorem mtf11 : ((Rows.macroTablesUptoRow.recurses == Tryz.pinned.checked.prog.recurses 3)) = true := by kernel_rfl
theorem mtf12 : ((Rows.macroTablesUptoRow.named == Tryz.pinned.checked.prog.varsNamed 3)) = true := by kernel_rfl
theorem mtf13 : ((Rows.macroTablesUptoRow.maps == (Tryz.f3.params.toList ++ (Rows.OpenSpec.upto Rows.macroTablesSpec).bare.plain.varTypes Tryz.pinned.checked.prog).any (Tryz.pinned.checked.prog.mapsRec ·))) = true := by kernel_rfl
theorem mtf14 : ((Rows.macroTablesUptoRow.ifaces == (Tryz.f3.params.toList ++ (Rows.OpenSpec.upto Rows.macroTablesSpec).bare.plain.varTypes Tryz.pinned.checked.prog).any (Tryz.pinned.checked.prog.ifacesRec ·))) = true := by kernel_rfl
theorem mtf15 : ((Rows.macroTablesUptoRow.mapsOut == Tryz.pinned.checked.prog.mapsAmong Tryz.f3.resultTypes.toList)) = true := by kernel_rfl
theorem mtf16 : ((Rows.macroTablesUptoRow.loops == (Tryz.f3.params.toList ++ (Rows.OpenSpec.upto Rows.macroTablesSpec).bare.plain.varTypes Tryz.pinned.checked.prog).any (Tryz.pinned.checked.prog.loopsFrom ·))) = true := by kernel_rfl
theorem mtf17 : ((Rows.macroTablesUptoRow.wideKeys == (Tryz.f3.params.toList ++ (Rows.OpenSpec.upto Rows.macroTablesSpec).bare.plain.varTypes Tryz.pinned.checked.prog ++ Tryz.f3.resultTypes.toList).any (Tryz.pinned.checked.prog.wideKeysFrom ·))) = true := by kernel_rfl
theorem mtf18 : ((Rows.OpenSpec.upto Rows.macroTablesSpec).bare.vars.all (Tryz.pinned.checked.prog.varReadable ·)) = true := by kernel_rfl
theorem mtf19 : (Tryz.f3.resultTypes.all (fun t => Tryz.pinned.checked.prog.readableRec t && decide (t < Tryz.pinned.checked.prog.types.size))) = true := by kernel_rfl
theorem mtf20 : ((Rows.macroTablesUptoRow.ifacesOut == Tryz.f3.resultTypes.toList.any (Tryz.pinned.checked.prog.ifacesRec ·))) = true := by kernel_rfl
theorem mtf21 : ((Rows.macroTablesUptoRow.loopsOut == Tryz.f3.resultTypes.toList.any (Tryz.pinned.checked.prog.loopsFrom ·))) = true := by kernel_rfl
theorem mtf22 : ((Rows.macroTablesUptoRow.plainKeys == Tryz.pinned.checked.prog.plainKeys)) = true := by kernel_rfl
theorem mtf23 : (Rows.macroTablesUptoRow.shortTexts.isNone) = true := by kernel_rfl
theorem mtf24 : (Tryz.pinned.checked.prog.stopsHeard) = true := by kernel_rfl
theorem mtf25 : (Tryz.pinned.checked.prog.mayEnter) = true := by kernel_rfl
theorem mtf26 : ((Rows.macroTablesUptoRow.lifted == Tryz.pinned.checked.prog.liftsFinal)) = true := by kernel_rfl
theorem mtf27 : ((Tryz.pinned.checked.prog.make == some Rows.macroTablesUptoRow.make)) = true := by kernel_rfl
theorem mtf28 : ((Rows.macroTablesUptoRow.kinds == (if Rows.macroTablesUptoRow.domain.isEmpty then [] else Tryz.f3.params.toList.map fun t => match Tryz.pinned.checked.prog.underlying t with | some (.int k) => some k | _ => none))) = true := by kernel_rfl
theorem mtf29 : ((Rows.macroTablesUptoRow.pinned == Rows.macroTablesUptoRow.pinnedBy)) = true := by kernel_rfl
theorem mtf30 : ((Rows.macroTablesUptoRow.veiled == (Tryz.f3.params.toList ++ (Rows.OpenSpec.upto Rows.macroTablesSpec).bare.plain.varTypes Tryz.pinned.checked.prog ++ Tryz.f3.resultTypes.toList).any (Tryz.pinned.checked.prog.veiledRec ·))) = true := by kernel_rfl
theorem mtf31 : (Rows.macroTablesUptoRow.veiledFits Tryz.pinned.checked.prog Tryz.f3.params.toList (Tryz.f3.params.toList ++ (Rows.OpenSpec.upto Rows.macroTablesSpec).bare.plain.varTypes Tryz.pinned.checked.prog ++ Tryz.f3.resultTypes.toList)) = true := by kernel_rfl
end Go.Proofs.YtcdfhagcchmnhaaGreatDoor
