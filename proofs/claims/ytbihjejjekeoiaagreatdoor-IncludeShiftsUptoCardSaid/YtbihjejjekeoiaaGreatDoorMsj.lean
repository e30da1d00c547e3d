/- Texts joined by a program (merge.py). -/
import Derived.Test.YtbihjejjekeoiaaGreatDoorRows
import Derived.JoinedOf
import Derived.KernelRfl
set_option linter.unusedSimpArgs false
set_option linter.unusedVariables false
namespace Go.Proofs.YtbihjejjekeoiaaGreatDoor
open Go
theorem isf0 : (Rows.includeShiftsUptoRow.wf (OpenSpec.ofChange ((Rows.OpenSpec.upto Rows.includeShiftsSpec)).bare)) = true := by kernel_rfl
theorem isf1 : (laidOutB Tryz.pinned.checked.prog) = true := by kernel_rfl
theorem isf2 : (mapsRowed Tryz.pinned.checked.prog) = true := by kernel_rfl
theorem isf3 : (Tryz.f3.params.all (Tryz.pinned.checked.prog.readableRec ·)) = true := by kernel_rfl
theorem isf4 : (namedTie Tryz.pinned.checked.prog Rows.includeShiftsUptoRow.named ((Rows.OpenSpec.upto Rows.includeShiftsSpec)).bare.vars) = true := by kernel_rfl
theorem isf5 : ((Rows.includeShiftsUptoRow.stops == [])) = true := by kernel_rfl
theorem isf6 : ((Tryz.pinned.checked.prog.stops == [])) = true := by kernel_rfl
theorem isf7 : ((Rows.includeShiftsUptoRow.knobs == [])) = true := by kernel_rfl
theorem isf8 : ((Tryz.pinned.checked.prog.stopKnobs == [])) = true := by kernel_rfl
theorem isf9 : ((Rows.includeShiftsUptoRow.inPlace == Tryz.pinned.checked.prog.inPlace 3)) = true := by kernel_rfl
theorem isf10 : ((Rows.includeShiftsUptoRow.unfollowed == Tryz.pinned.checked.prog.unfollowed 3)) = true := by kernel_rfl
theorem isf11 : ((Rows.includeShiftsUptoRow.recurses == Tryz.pinned.checked.prog.recurses 3)) = true := by kernel_rfl
theorem isf12 : ((Rows.includeShiftsUptoRow.named == Tryz.pinned.checked.prog.varsNamed 3)) = true := by kernel_rfl
theorem isf13 : ((Rows.includeShiftsUptoRow.maps == (Tryz.f3.params.toList ++ ((Rows.OpenSpec.upto Rows.includeShiftsSpec)).bare.plain.varTypes Tryz.pinned.checked.prog).any (Tryz.pinned.checked.prog.mapsRec ·))) = true := by kernel_rfl
theorem isf14 : ((Rows.includeShiftsUptoRow.ifaces == (Tryz.f3.params.toList ++ ((Rows.OpenSpec.upto Rows.includeShiftsSpec)).bare.plain.varTypes Tryz.pinned.checked.prog).any (Tryz.pinned.checked.prog.ifacesRec ·))) = true := by kernel_rfl
theorem isf15 : ((Rows.includeShiftsUptoRow.mapsOut == Tryz.pinned.checked.prog.mapsAmong Tryz.f3.resultTypes.toList)) = true := by kernel_rfl
theorem isf16 : ((Rows.includeShiftsUptoRow.loops == (Tryz.f3.params.toList ++ ((Rows.OpenSpec.upto Rows.includeShiftsSpec)).bare.plain.varTypes Tryz.pinned.checked.prog).any (Tryz.pinned.checked.prog.loopsFrom ·))) = true := by kernel_rfl
theorem isf17 : ((Rows.includeShiftsUptoRow.wideKeys == (Tryz.f3.params.toList ++ ((Rows.OpenSpec.upto Rows.includeShiftsSpec)).bare.plain.varTypes Tryz.pinned.checked.prog ++ Tryz.f3.resultTypes.toList).any (Tryz.pinned.checked.prog.wideKeysFrom ·))) = true := by kernel_rfl
theorem isf18 : (((Rows.OpenSpec.upto Rows.includeShiftsSpec)).bare.vars.all (Tryz.pinned.checked.prog.varReadable ·)) = true := by kernel_rfl
theorem isf19 : (Tryz.f3.resultTypes.all (fun t => Tryz.pinned.checked.prog.readableRec t && decide (t < Tryz.pinned.checked.prog.types.size))) = true := by kernel_rfl
theorem isf20 : ((Rows.includeShiftsUptoRow.ifacesOut == Tryz.f3.resultTypes.toList.any (Tryz.pinned.checked.prog.ifacesRec ·))) = true := by kernel_rfl
theorem isf21 : ((Rows.includeShiftsUptoRow.loopsOut == Tryz.f3.resultTypes.toList.any (Tryz.pinned.checked.prog.loopsFrom ·))) = true := by kernel_rfl
theorem isf22 : ((Rows.includeShiftsUptoRow.plainKeys == Tryz.pinned.checked.prog.plainKeys)) = true := by kernel_rfl
theorem isf23 : (Rows.includeShiftsUptoRow.shortTexts.isNone) = true := by kernel_rfl
theorem isf24 : (Tryz.pinned.checked.prog.stopsHeard) = true := by kernel_rfl
theorem isf25 : (Tryz.pinned.checked.prog.mayEnter) = true := by kernel_rfl
theorem isf26 : ((Rows.includeShiftsUptoRow.lifted == Tryz.pinned.checked.prog.liftsFinal)) = true := by kernel_rfl
theorem isf27 : ((Tryz.pinned.checked.prog.make == some Rows.includeShiftsUptoRow.make)) = true := by kernel_rfl
theorem isf28 : ((Rows.includeShiftsUptoRow.kinds == (if Rows.includeShiftsUptoRow.domain.isEmpty then [] else Tryz.f3.params.toList.map fun t => match Tryz.pinned.checked.prog.underlying t with | some (.int k) => some k | _ => none))) = true := by kernel_rfl
theorem isf29 : ((Rows.includeShiftsUptoRow.pinned == Rows.includeShiftsUptoRow.pinnedBy)) = true := by kernel_rfl
theorem isf30 : ((Rows.includeShiftsUptoRow.veiled == (Tryz.f3.params.toList ++ ((Rows.OpenSpec.upto Rows.includeShiftsSpec)).bare.plain.varTypes Tryz.pinned.checked.prog ++ Tryz.f3.resultTypes.toList).any (Tryz.pinned.checked.prog.veiledRec ·))) = true := by kernel_rfl
theorem isf31 : (Rows.includeShiftsUptoRow.veiledFits Tryz.pinned.checked.prog Tryz.f3.params.toList (Tryz.f3.params.toList ++ ((Rows.OpenSpec.upto Rows.includeShiftsSpec)).bare.plain.varTypes Tryz.pinned.checked.prog ++ Tryz.f3.resultTypes.toList)) = true := by kernel_rfl
end Go.Proofs.YtbihjejjekeoiaaGreatDoor
