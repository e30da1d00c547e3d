/- Texts joined by a program (merge.py). -/
import Derived.Test.YtclkkkpkbpdmdaaGreatDoorRows
import Derived.JoinedOf
import Derived.KernelRfl
set_option linter.unusedSimpArgs false
set_option linter.unusedVariables false
namespace Go.Proofs.YtclkkkpkbpdmdaaGreatDoor
open Go
theorem epf0 : (Rows.expandPlainUptoRow.wf (OpenSpec.ofChange (Rows.OpenSpec.upto Rows.expandPlainSpec).bare)) = true := by kernel_rfl
theorem epf1 : (laidOutB Tryz.pinned.checked.prog) = true := by kernel_rfl
theorem epf2 : (mapsRowed Tryz.pinned.checked.prog) = true := by kernel_rfl
theorem epf3 : (Tryz.f3.params.all (Tryz.pinned.checked.prog.readableRec ·)) = true := by kernel_rfl
theorem epf4 : (namedTie Tryz.pinned.checked.prog Rows.expandPlainUptoRow.named (Rows.OpenSpec.upto Rows.expandPlainSpec).bare.vars) = true := by kernel_rfl
theorem epf5 : ((Rows.expandPlainUptoRow.stops == [])) = true := by kernel_rfl
theorem epf6 : ((Tryz.pinned.checked.prog.stops == [])) = true := by kernel_rfl
theorem epf7 : ((Rows.expandPlainUptoRow.knobs == [])) = true := by kernel_rfl
theorem epf8 : ((Tryz.pinned.checked.prog.stopKnobs == [])) = true := by kernel_rfl
theorem epf9 : ((Rows.expandPlainUptoRow.inPlace == Tryz.pinned.checked.prog.inPlace 3)) = true := by kernel_rfl
theorem epf10 : ((Rows.expandPlainUptoRow.unfollowed == Tryz.pinned.checked.prog.unfollowed 3)) = true := by kernel_rfl
theorem epf11 : ((Rows.expandPlainUptoRow.recurses == Tryz.pinned.checked.prog.recurses 3)) = true := by kernel_rfl
theorem epf12 : ((Rows.expandPlainUptoRow.named == Tryz.pinned.checked.prog.varsNamed 3)) = true := by kernel_rfl
theorem epf13 : ((Rows.expandPlainUptoRow.maps == (Tryz.f3.params.toList ++ (Rows.OpenSpec.upto Rows.expandPlainSpec).bare.plain.varTypes Tryz.pinned.checked.prog).any (Tryz.pinned.checked.prog.mapsRec ·))) = true := by kernel_rfl
theorem epf14 : ((Rows.expandPlainUptoRow.ifaces == (Tryz.f3.params.toList ++ (Rows.OpenSpec.upto Rows.expandPlainSpec).bare.plain.varTypes Tryz.pinned.checked.prog).any (Tryz.pinned.checked.prog.ifacesRec ·))) = true := by kernel_rfl
theorem epf15 : ((Rows.expandPlainUptoRow.mapsOut == Tryz.pinned.checked.prog.mapsAmong Tryz.f3.resultTypes.toList)) = true := by kernel_rfl
theorem epf16 : ((Rows.expandPlainUptoRow.loops == (Tryz.f3.params.toList ++ (Rows.OpenSpec.upto Rows.expandPlainSpec).bare.plain.varTypes Tryz.pinned.checked.prog).any (Tryz.pinned.checked.prog.loopsFrom ·))) = true := by kernel_rfl
theorem epf17 : ((Rows.expandPlainUptoRow.wideKeys == (Tryz.f3.params.toList ++ (Rows.OpenSpec.upto Rows.expandPlainSpec).bare.plain.varTypes Tryz.pinned.checked.prog ++ Tryz.f3.resultTypes.toList).any (Tryz.pinned.checked.prog.wideKeysFrom ·))) = true := by kernel_rfl
theorem epf18 : ((Rows.OpenSpec.upto Rows.expandPlainSpec).bare.vars.all (Tryz.pinned.checked.prog.varReadable ·)) = true := by kernel_rfl
theorem epf19 : (Tryz.f3.resultTypes.all (fun t => Tryz.pinned.checked.prog.readableRec t && decide (t < Tryz.pinned.checked.prog.types.size))) = true := by kernel_rfl
theorem epf20 : ((Rows.expandPlainUptoRow.ifacesOut == Tryz.f3.resultTypes.toList.any (Tryz.pinned.checked.prog.ifacesRec ·))) = true := by kernel_rfl
theorem epf21 : ((Rows.expandPlainUptoRow.loopsOut == Tryz.f3.resultTypes.toList.any (Tryz.pinned.checked.prog.loopsFrom ·))) = true := by kernel_rfl
theorem epf22 : ((Rows.expandPlainUptoRow.plainKeys == Tryz.pinned.checked.prog.plainKeys)) = true := by kernel_rfl
theorem epf23 : (Rows.expandPlainUptoRow.shortTexts.isNone) = true := by kernel_rfl
theorem epf24 : (Tryz.pinned.checked.prog.stopsHeard) = true := by kernel_rfl
theorem epf25 : (Tryz.pinned.checked.prog.mayEnter) = true := by kernel_rfl
theorem epf26 : ((Rows.expandPlainUptoRow.lifted == Tryz.pinned.checked.prog.liftsFinal)) = true := by kernel_rfl
theorem epf27 : ((Tryz.pinned.checked.prog.make == some Rows.expandPlainUptoRow.make)) = true := by kernel_rfl
theorem epf28 : ((Rows.expandPlainUptoRow.kinds == (if Rows.expandPlainUptoRow.domain.isEmpty then [] else Tryz.f3.params.toList.map fun t => match Tryz.pinned.checked.prog.underlying t with | some (.int k) => some k | _ => none))) = true := by kernel_rfl
theorem epf29 : ((Rows.expandPlainUptoRow.pinned == Rows.expandPlainUptoRow.pinnedBy)) = true := by kernel_rfl
theorem epf30 : ((Rows.expandPlainUptoRow.veiled == (Tryz.f3.params.toList ++ (Rows.OpenSpec.upto Rows.expandPlainSpec).bare.plain.varTypes Tryz.pinned.checked.prog ++ Tryz.f3.resultTypes.toList).any (Tryz.pinned.checked.prog.veiledRec ·))) = true := by kernel_rfl
theorem epf31 : (Rows.expandPlainUptoRow.veiledFits Tryz.pinned.checked.prog Tryz.f3.params.toList (Tryz.f3.params.toList ++ (Rows.OpenSpec.upto Rows.expandPlainSpec).bare.plain.varTypes Tryz.pinned.checked.prog ++ Tryz.f3.resultTypes.toList)) = true := by kernel_rfl
end Go.Proofs.YtclkkkpkbpdmdaaGreatDoor
