/- Texts joined by a program (merge.py). -/
import Derived.Test.YtbihjejjekeoiaaGreatDoorRows
import Derived.JoinedOf
import Derived.KernelRfl
set_option linter.unusedSimpArgs false
set_option linter.unusedVariables false
namespace Go.Proofs.YtbihjejjekeoiaaGreatDoor
open Go
theorem inf0 : (Rows.includeNamesUptoRow.wf (OpenSpec.ofChange ((Rows.OpenSpec.upto Rows.includeNamesSpec)).bare)) = true := by kernel_rfl
theorem inf1 : (laidOutB Tryz.pinned.checked.prog) = true := by kernel_rfl
theorem inf2 : (mapsRowed Tryz.pinned.checked.prog) = true := by kernel_rfl
theorem inf3 : (Tryz.f4.params.all (Tryz.pinned.checked.prog.readableRec ·)) = true := by kernel_rfl
theorem inf4 : (namedTie Tryz.pinned.checked.prog Rows.includeNamesUptoRow.named ((Rows.OpenSpec.upto Rows.includeNamesSpec)).bare.vars) = true := by kernel_rfl
theorem inf5 : ((Rows.includeNamesUptoRow.stops == [])) = true := by kernel_rfl
theorem inf6 : ((Tryz.pinned.checked.prog.stops == [])) = true := by kernel_rfl
theorem inf7 : ((Rows.includeNamesUptoRow.knobs == [])) = true := by kernel_rfl
theorem inf8 : ((Tryz.pinned.checked.prog.stopKnobs == [])) = true := by kernel_rfl
theorem inf9 : ((Rows.includeNamesUptoRow.inPlace == Tryz.pinned.checked.prog.inPlace 4)) = true := by kernel_rfl
theorem inf10 : ((Rows.includeNamesUptoRow.unfollowed == Tryz.pinned.checked.prog.unfollowed 4)) = true := by kernel_rfl
theorem inf11 : ((Rows.includeNamesUptoRow.recurses == Tryz.pinned.checked.prog.recurses 4)) = true := by kernel_rfl
theorem inf12 : ((Rows.includeNamesUptoRow.named == Tryz.pinned.checked.prog.varsNamed 4)) = true := by kernel_rfl
theorem inf13 : ((Rows.includeNamesUptoRow.maps == (Tryz.f4.params.toList ++ ((Rows.OpenSpec.upto Rows.includeNamesSpec)).bare.plain.varTypes Tryz.pinned.checked.prog).any (Tryz.pinned.checked.prog.mapsRec ·))) = true := by kernel_rfl
theorem inf14 : ((Rows.includeNamesUptoRow.ifaces == (Tryz.f4.params.toList ++ ((Rows.OpenSpec.upto Rows.includeNamesSpec)).bare.plain.varTypes Tryz.pinned.checked.prog).any (Tryz.pinned.checked.prog.ifacesRec ·))) = true := by kernel_rfl
theorem inf15 : ((Rows.includeNamesUptoRow.mapsOut == Tryz.pinned.checked.prog.mapsAmong Tryz.f4.resultTypes.toList)) = true := by kernel_rfl
theorem inf16 : ((Rows.includeNamesUptoRow.loops == (Tryz.f4.params.toList ++ ((Rows.OpenSpec.upto Rows.includeNamesSpec)).bare.plain.varTypes Tryz.pinned.checked.prog).any (Tryz.pinned.checked.prog.loopsFrom ·))) = true := by kernel_rfl
theorem inf17 : ((Rows.includeNamesUptoRow.wideKeys == (Tryz.f4.params.toList ++ ((Rows.OpenSpec.upto Rows.includeNamesSpec)).bare.plain.varTypes Tryz.pinned.checked.prog ++ Tryz.f4.resultTypes.toList).any (Tryz.pinned.checked.prog.wideKeysFrom ·))) = true := by kernel_rfl
theorem inf18 : (((Rows.OpenSpec.upto Rows.includeNamesSpec)).bare.vars.all (Tryz.pinned.checked.prog.varReadable ·)) = true := by kernel_rfl
theorem inf19 : (Tryz.f4.resultTypes.all (fun t => Tryz.pinned.checked.prog.readableRec t && decide (t < Tryz.pinned.checked.prog.types.size))) = true := by kernel_rfl
theorem inf20 : ((Rows.includeNamesUptoRow.ifacesOut == Tryz.f4.resultTypes.toList.any (Tryz.pinned.checked.prog.ifacesRec ·))) = true := by kernel_rfl
theorem inf21 : ((Rows.includeNamesUptoRow.loopsOut == Tryz.f4.resultTypes.toList.any (Tryz.pinned.checked.prog.loopsFrom ·))) = true := by kernel_rfl
theorem inf22 : ((Rows.includeNamesUptoRow.plainKeys == Tryz.pinned.checked.prog.plainKeys)) = true := by kernel_rfl
theorem inf23 : (Rows.includeNamesUptoRow.shortTexts.isNone) = true := by kernel_rfl
theorem inf24 : (Tryz.pinned.checked.prog.stopsHeard) = true := by kernel_rfl
theorem inf25 : (Tryz.pinned.checked.prog.mayEnter) = true := by kernel_rfl
theorem inf26 : ((Rows.includeNamesUptoRow.lifted == Tryz.pinned.checked.prog.liftsFinal)) = true := by kernel_rfl
theorem inf27 : ((Tryz.pinned.checked.prog.make == some Rows.includeNamesUptoRow.make)) = true := by kernel_rfl
theorem inf28 : ((Rows.includeNamesUptoRow.kinds == (if Rows.includeNamesUptoRow.domain.isEmpty then [] else Tryz.f4.params.toList.map fun t => match Tryz.pinned.checked.prog.underlying t with | some (.int k) => some k | _ => none))) = true := by kernel_rfl
theorem inf29 : ((Rows.includeNamesUptoRow.pinned == Rows.includeNamesUptoRow.pinnedBy)) = true := by kernel_rfl
theorem inf30 : ((Rows.includeNamesUptoRow.veiled == (Tryz.f4.params.toList ++ ((Rows.OpenSpec.upto Rows.includeNamesSpec)).bare.plain.varTypes Tryz.pinned.checked.prog ++ Tryz.f4.resultTypes.toList).any (Tryz.pinned.checked.prog.veiledRec ·))) = true := by kernel_rfl
theorem inf31 : (Rows.includeNamesUptoRow.veiledFits Tryz.pinned.checked.prog Tryz.f4.params.toList (Tryz.f4.params.toList ++ ((Rows.OpenSpec.upto Rows.includeNamesSpec)).bare.plain.varTypes Tryz.pinned.checked.prog ++ Tryz.f4.resultTypes.toList)) = true := by kernel_rfl
end Go.Proofs.YtbihjejjekeoiaaGreatDoor
