/- Texts joined by a program (merge.py). -/
import Derived.Test.YtcdfhagcchmnhaaGreatDoorRows
import Derived.JoinedOf
import Derived.KernelRfl
set_option linter.unusedSimpArgs false
set_option linter.unusedVariables false
namespace Go.Proofs.YtcdfhagcchmnhaaGreatDoor
open Go
theorem mcf0 : (Rows.macroCyclesUptoRow.wf (OpenSpec.ofChange (Rows.OpenSpec.upto Rows.macroCyclesSpec).bare)) = true := by kernel_rfl
theorem mcf1 : (laidOutB Tryz.pinned.checked.prog) = true := by kernel_rfl
theorem mcf2 : (mapsRowed Tryz.pinned.checked.prog) = true := by kernel_rfl
theorem mcf3 : (Tryz.f4.params.all (Tryz.pinned.checked.prog.readableRec ·)) = true := by kernel_rfl
theorem mcf4 : (namedTie Tryz.pinned.checked.prog Rows.macroCyclesUptoRow.named (Rows.OpenSpec.upto Rows.macroCyclesSpec).bare.vars) = true := by kernel_rfl
theorem mcf5 : ((Rows.macroCyclesUptoRow.stops == [])) = true := by kernel_rfl
theorem mcf6 : ((Tryz.pinned.checked.prog.stops == [])) = true := by kernel_rfl
theorem mcf7 : ((Rows.macroCyclesUptoRow.knobs == [])) = true := by kernel_rfl
theorem mcf8 : ((Tryz.pinned.checked.prog.stopKnobs == [])) = true := by kernel_rfl
theorem mcf9 : ((Rows.macroCyclesUptoRow.inPlace == Tryz.pinned.checked.prog.inPlace 4)) = true := by kernel_rfl
theorem mcf10 : ((Rows.macroCyclesUptoRow.unfollowed == Tryz.pinned.checked.prog.unfollowed 4)) = true := by kernel_rfl
theorem mcf11 : ((Rows.macroCyclesUptoRow.recurses == Tryz.pinned.checked.prog.recurses 4)) = true := by kernel_rfl
theorem mcf12 : ((Rows.macroCyclesUptoRow.named == Tryz.pinned.checked.prog.varsNamed 4)) = true := by kernel_rfl
theorem mcf13 : ((Rows.macroCyclesUptoRow.maps == (Tryz.f4.params.toList ++ (Rows.OpenSpec.upto Rows.macroCyclesSpec).bare.plain.varTypes Tryz.pinned.checked.prog).any (Tryz.pinned.checked.prog.mapsRec ·))) = true := by kernel_rfl
theorem mcf14 : ((Rows.macroCyclesUptoRow.ifaces == (Tryz.f4.params.toList ++ (Rows.OpenSpec.upto Rows.macroCyclesSpec).bare.plain.varTypes Tryz.pinned.checked.prog).any (Tryz.pinned.checked.prog.ifacesRec ·))) = true := by kernel_rfl
theorem mcf15 : ((Rows.macroCyclesUptoRow.mapsOut == Tryz.pinned.checked.prog.mapsAmong Tryz.f4.resultTypes.toList)) = true := by kernel_rfl
theorem mcf16 : ((Rows.macroCyclesUptoRow.loops == (Tryz.f4.params.toList ++ (Rows.OpenSpec.upto Rows.macroCyclesSpec).bare.plain.varTypes Tryz.pinned.checked.prog).any (Tryz.pinned.checked.prog.loopsFrom ·))) = true := by kernel_rfl
theorem mcf17 : ((Rows.macroCyclesUptoRow.wideKeys == (Tryz.f4.params.toList ++ (Rows.OpenSpec.upto Rows.macroCyclesSpec).bare.plain.varTypes Tryz.pinned.checked.prog ++ Tryz.f4.resultTypes.toList).any (Tryz.pinned.checked.prog.wideKeysFrom ·))) = true := by kernel_rfl
theorem mcf18 : ((Rows.OpenSpec.upto Rows.macroCyclesSpec).bare.vars.all (Tryz.pinned.checked.prog.varReadable ·)) = true := by kernel_rfl
theorem mcf19 : (Tryz.f4.resultTypes.all (fun t => Tryz.pinned.checked.prog.readableRec t && decide (t < Tryz.pinned.checked.prog.types.size))) = true := by kernel_rfl
theorem mcf20 : ((Rows.macroCyclesUptoRow.ifacesOut == Tryz.f4.resultTypes.toList.any (Tryz.pinned.checked.prog.ifacesRec ·))) = true := by kernel_rfl
theorem mcf21 : ((Rows.macroCyclesUptoRow.loopsOut == Tryz.f4.resultTypes.toList.any (Tryz.pinned.checked.prog.loopsFrom ·))) = true := by kernel_rfl
theorem mcf22 : ((Rows.macroCyclesUptoRow.plainKeys == Tryz.pinned.checked.prog.plainKeys)) = true := by kernel_rfl
theorem mcf23 : (Rows.macroCyclesUptoRow.shortTexts.isNone) = true := by kernel_rfl
theorem mcf24 : (Tryz.pinned.checked.prog.stopsHeard) = true := by kernel_rfl
theorem mcf25 : (Tryz.pinned.checked.prog.mayEnter) = true := by kernel_rfl
theorem mcf26 : ((Rows.macroCyclesUptoRow.lifted == Tryz.pinned.checked.prog.liftsFinal)) = true := by kernel_rfl
theorem mcf27 : ((Tryz.pinned.checked.prog.make == some Rows.macroCyclesUptoRow.make)) = true := by kernel_rfl
theorem mcf28 : ((Rows.macroCyclesUptoRow.kinds == (if Rows.macroCyclesUptoRow.domain.isEmpty then [] else Tryz.f4.params.toList.map fun t => match Tryz.pinned.checked.prog.underlying t with | some (.int k) => some k | _ => none))) = true := by kernel_rfl
theorem mcf29 : ((Rows.macroCyclesUptoRow.pinned == Rows.macroCyclesUptoRow.pinnedBy)) = true := by kernel_rfl
theorem mcf30 : ((Rows.macroCyclesUptoRow.veiled == (Tryz.f4.params.toList ++ (Rows.OpenSpec.upto Rows.macroCyclesSpec).bare.plain.varTypes Tryz.pinned.checked.prog ++ Tryz.f4.resultTypes.toList).any (Tryz.pinned.checked.prog.veiledRec ·))) = true := by kernel_rfl
theorem mcf31 : (Rows.macroCyclesUptoRow.veiledFits Tryz.pinned.checked.prog Tryz.f4.params.toList (Tryz.f4.params.toList ++ (Rows.OpenSpec.upto Rows.macroCyclesSpec).bare.plain.varTypes Tryz.pinned.checked.prog ++ Tryz.f4.resultTypes.toList)) = true := by kernel_rfl
end Go.Proofs.YtcdfhagcchmnhaaGreatDoor
