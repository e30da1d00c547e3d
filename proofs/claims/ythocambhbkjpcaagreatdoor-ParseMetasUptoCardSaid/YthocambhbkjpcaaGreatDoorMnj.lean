/- Texts joined by a program (merge.py). -/
import Derived.Test.YthocambhbkjpcaaGreatDoorRows
import Derived.JoinedOf
import Derived.KernelRfl
set_option linter.unusedSimpArgs false
set_option linter.unusedVariables false
namespace Go.Proofs.YthocambhbkjpcaaGreatDoor
open Go
theorem pmf0 : (Rows.parseMetasUptoRow.wf (OpenSpec.ofChange (Rows.OpenSpec.upto Rows.parseMetasSpec).bare)) = true := by kernel_rfl
theorem pmf1 : (laidOutB Tryz.pinned.checked.prog) = true := by kernel_rfl
theorem pmf2 : (mapsRowed Tryz.pinned.checked.prog) = true := by kernel_rfl
theorem pmf3 : (Tryz.f3.params.all (Tryz.pinned.checked.prog.readableRec ·)) = true := by kernel_rfl
theorem pmf4 : (namedTie Tryz.pinned.checked.prog Rows.parseMetasUptoRow.named (Rows.OpenSpec.upto Rows.parseMetasSpec).bare.vars) = true := by kernel_rfl
theorem pmf5 : ((Rows.parseMetasUptoRow.stops == [])) = true := by kernel_rfl
theorem pmf6 : ((Tryz.pinned.checked.prog.stops == [])) = true := by kernel_rfl
theorem pmf7 : ((Rows.parseMetasUptoRow.knobs == [])) = true := by kernel_rfl
theorem pmf8 : ((Tryz.pinned.checked.prog.stopKnobs == [])) = true := by kernel_rfl
theorem pmf9 : ((Rows.parseMetasUptoRow.inPlace == Tryz.pinned.checked.prog.inPlace 3)) = true := by kernel_rfl
theorem pmf10 : ((Rows.parseMetasUptoRow.unfollowed == Tryz.pinned.checked.prog.unfollowed 3)) = true := by kernel_rfl
theorem pmf11 : ((Rows.parseMetasUptoRow.recurses == Tryz.pinned.checked.prog.recurses 3)) = true := by kernel_rfl
theorem pmf12 : ((Rows.parseMetasUptoRow.named == Tryz.pinned.checked.prog.varsNamed 3)) = true := by kernel_rfl
theorem pmf13 : ((Rows.parseMetasUptoRow.maps == (Tryz.f3.params.toList ++ (Rows.OpenSpec.upto Rows.parseMetasSpec).bare.plain.varTypes Tryz.pinned.checked.prog).any (Tryz.pinned.checked.prog.mapsRec ·))) = true := by kernel_rfl
theorem pmf14 : ((Rows.parseMetasUptoRow.ifaces == (Tryz.f3.params.toList ++ (Rows.OpenSpec.upto Rows.parseMetasSpec).bare.plain.varTypes Tryz.pinned.checked.prog).any (Tryz.pinned.checked.prog.ifacesRec ·))) = true := by kernel_rfl
theorem pmf15 : ((Rows.parseMetasUptoRow.mapsOut == Tryz.pinned.checked.prog.mapsAmong Tryz.f3.resultTypes.toList)) = true := by kernel_rfl
theorem pmf16 : ((Rows.parseMetasUptoRow.loops == (Tryz.f3.params.toList ++ (Rows.OpenSpec.upto Rows.parseMetasSpec).bare.plain.varTypes Tryz.pinned.checked.prog).any (Tryz.pinned.checked.prog.loopsFrom ·))) = true := by kernel_rfl
theorem pmf17 : ((Rows.parseMetasUptoRow.wideKeys == (Tryz.f3.params.toList ++ (Rows.OpenSpec.upto Rows.parseMetasSpec).bare.plain.varTypes Tryz.pinned.checked.prog ++ Tryz.f3.resultTypes.toList).any (Tryz.pinned.checked.prog.wideKeysFrom ·))) = true := by kernel_rfl
theorem pmf18 : ((Rows.OpenSpec.upto Rows.parseMetasSpec).bare.vars.all (Tryz.pinned.checked.prog.varReadable ·)) = true := by kernel_rfl
theorem pmf19 : (Tryz.f3.resultTypes.all (fun t => Tryz.pinned.checked.prog.readableRec t && decide (t < Tryz.pinned.checked.prog.types.size))) = true := by kernel_rfl
theorem pmf20 : ((Rows.parseMetasUptoRow.ifacesOut == Tryz.f3.resultTypes.toList.any (Tryz.pinned.checked.prog.ifacesRec ·))) = true := by kernel_rfl
theorem pmf21 : ((Rows.parseMetasUptoRow.loopsOut == Tryz.f3.resultTypes.toList.any (Tryz.pinned.checked.prog.loopsFrom ·))) = true := by kernel_rfl
theorem pmf22 : ((Rows.parseMetasUptoRow.plainKeys == Tryz.pinned.checked.prog.plainKeys)) = true := by kernel_rfl
theorem pmf23 : (Rows.parseMetasUptoRow.shortTexts.isNone) = true := by kernel_rfl
theorem pmf24 : (Tryz.pinned.checked.prog.stopsHeard) = true := by kernel_rfl
theorem pmf25 : (Tryz.pinned.checked.prog.mayEnter) = true := by kernel_rfl
theorem pmf26 : ((Rows.parseMetasUptoRow.lifted == Tryz.pinned.checked.prog.liftsFinal)) = true := by kernel_rfl
theorem pmf27 : ((Tryz.pinned.checked.prog.make == some Rows.parseMetasUptoRow.make)) = true := by kernel_rfl
theorem pmf28 : ((Rows.parseMetasUptoRow.kinds == (if Rows.parseMetasUptoRow.domain.isEmpty then [] else Tryz.f3.params.toList.map fun t => match Tryz.pinned.checked.prog.underlying t with | some (.int k) => some k | _ => none))) = true := by kernel_rfl
theorem pmf29 : ((Rows.parseMetasUptoRow.pinned == Rows.parseMetasUptoRow.pinnedBy)) = true := by kernel_rfl
theorem pmf30 : ((Rows.parseMetasUptoRow.veiled == (Tryz.f3.params.toList ++ (Rows.OpenSpec.upto Rows.parseMetasSpec).bare.plain.varTypes Tryz.pinned.checked.prog ++ Tryz.f3.resultTypes.toList).any (Tryz.pinned.checked.prog.veiledRec ·))) = true := by kernel_rfl
theorem pmf31 : (Rows.parseMetasUptoRow.veiledFits Tryz.pinned.checked.prog Tryz.f3.params.toList (Tryz.f3.params.toList ++ (Rows.OpenSpec.upto Rows.parseMetasSpec).bare.plain.varTypes Tryz.pinned.checked.prog ++ Tryz.f3.resultTypes.toList)) = true := by kernel_rfl
end Go.Proofs.YthocambhbkjpcaaGreatDoor
