/- Texts joined by a program (merge.py). -/
import Derived.Test.YtnpedjbgchdkbaaGreatDoorRows
import Derived.JoinedOf
import Derived.KernelRfl
set_option linter.unusedSimpArgs false
set_option linter.unusedVariables false
namespace Go.Proofs.YtnpedjbgchdkbaaGreatDoor
open Go
theorem pwf0 : (Rows.parseWordsRow.wf (OpenSpec.ofChange (OpenSpec.ofChange Rows.parseWordsSpec).bare)) = true := by kernel_rfl
theorem pwf1 : (laidOutB Tryz.pinned.checked.prog) = true := by kernel_rfl
theorem pwf2 : (mapsRowed Tryz.pinned.checked.prog) = true := by kernel_rfl
theorem pwf3 : (Tryz.f3.params.all (Tryz.pinned.checked.prog.readableRec ·)) = true := by kernel_rfl
theorem pwf4 : (namedTie Tryz.pinned.checked.prog Rows.parseWordsRow.named (OpenSpec.ofChange Rows.parseWordsSpec).bare.vars) = true := by kernel_rfl
theorem pwf5 : (Rows.parseWordsRow.stops == []) = true := by kernel_rfl
theorem pwf6 : (Tryz.pinned.checked.prog.stops == []) = true := by kernel_rfl
theorem pwf7 : (Rows.parseWordsRow.knobs == []) = true := by kernel_rfl
theorem pwf8 : (Tryz.pinned.checked.prog.stopKnobs == []) = true := by kernel_rfl
theorem pwf9 : (Rows.parseWordsRow.inPlace == Tryz.pinned.checked.prog.inPlace 3) = true := by kernel_rfl
theorem pwf10 : (Rows.parseWordsRow.unfollowed == Tryz.pinned.checked.prog.unfollowed 3) = true := by kernel_rfl
theorem pwf11 : (Rows.parseWordsRow.recurses == Tryz.pinned.checked.prog.recurses 3) = true := by kernel_rfl
theorem pwf12 : (Rows.parseWordsRow.named == Tryz.pinned.checked.prog.varsNamed 3) = true := by kernel_rfl
theorem pwf13 : (Rows.parseWordsRow.maps == (Tryz.f3.params.toList ++ (OpenSpec.ofChange Rows.parseWordsSpec).bare.plain.varTypes Tryz.pinned.checked.prog).any (Tryz.pinned.checked.prog.mapsRec ·)) = true := by kernel_rfl
theorem pwf14 : (Rows.parseWordsRow.ifaces == (Tryz.f3.params.toList ++ (OpenSpec.ofChange Rows.parseWordsSpec).bare.plain.varTypes Tryz.pinned.checked.prog).any (Tryz.pinned.checked.prog.ifacesRec ·)) = true := by kernel_rfl
theorem pwf15 : (Rows.parseWordsRow.mapsOut == Tryz.pinned.checked.prog.mapsAmong Tryz.f3.resultTypes.toList) = true := by kernel_rfl
theorem pwf16 : (Rows.parseWordsRow.loops == (Tryz.f3.params.toList ++ (OpenSpec.ofChange Rows.parseWordsSpec).bare.plain.varTypes Tryz.pinned.checked.prog).any (Tryz.pinned.checked.prog.loopsFrom ·)) = true := by kernel_rfl
theorem pwf17 : (Rows.parseWordsRow.wideKeys == (Tryz.f3.params.toList ++ (OpenSpec.ofChange Rows.parseWordsSpec).bare.plain.varTypes Tryz.pinned.checked.prog ++ Tryz.f3.resultTypes.toList).any (Tryz.pinned.checked.prog.wideKeysFrom ·)) = true := by kernel_rfl
theorem pwf18 : ((OpenSpec.ofChange Rows.parseWordsSpec).bare.vars.all (Tryz.pinned.checked.prog.varReadable ·)) = true := by kernel_rfl
theorem pwf19 : (Tryz.f3.resultTypes.all (fun t => Tryz.pinned.checked.prog.readableRec t && decide (t < Tryz.pinned.checked.prog.types.size))) = true := by kernel_rfl
theorem pwf20 : (Rows.parseWordsRow.ifacesOut == Tryz.f3.resultTypes.toList.any (Tryz.pinned.checked.prog.ifacesRec ·)) = true := by kernel_rfl
theorem pwf21 : (Rows.parseWordsRow.loopsOut == Tryz.f3.resultTypes.toList.any (Tryz.pinned.checked.prog.loopsFrom ·)) = true := by kernel_rfl
theorem pwf22 : (Rows.parseWordsRow.plainKeys == Tryz.pinned.checked.prog.plainKeys) = true := by kernel_rfl
theorem pwf23 : Rows.parseWordsRow.shortTexts.isNone = true := by kernel_rfl
theorem pwf24 : Tryz.pinned.checked.prog.stopsHeard = true := by kernel_rfl
theorem pwf25 : Tryz.pinned.checked.prog.mayEnter = true := by kernel_rfl
theorem pwf26 : (Rows.parseWordsRow.lifted == Tryz.pinned.checked.prog.liftsFinal) = true := by kernel_rfl
theorem pwf27 : (Tryz.pinned.checked.prog.make == some Rows.parseWordsRow.make) = true := by kernel_rfl
theorem pwf28 : (Rows.parseWordsRow.kinds == (if Rows.parseWordsRow.domain.isEmpty then [] else Tryz.f3.params.toList.map fun t => match Tryz.pinned.checked.prog.underlying t with | some (.int k) => some k | _ => none)) = true := by kernel_rfl
theorem pwf29 : (Rows.parseWordsRow.pinned == Rows.parseWordsRow.pinnedBy) = true := by kernel_rfl
theorem pwf30 : (Rows.parseWordsRow.veiled == (Tryz.f3.params.toList ++ (OpenSpec.ofChange Rows.parseWordsSpec).bare.plain.varTypes Tryz.pinned.checked.prog ++ Tryz.f3.resultTypes.toList).any (Tryz.pinned.checked.prog.veiledRec ·)) = true := by kernel_rfl
theorem pwf31 : (Rows.parseWordsRow.veiledFits Tryz.pinned.checked.prog Tryz.f3.params.toList (Tryz.f3.params.toList ++ (OpenSpec.ofChange Rows.parseWordsSpec).bare.plain.varTypes Tryz.pinned.checked.prog ++ Tryz.f3.resultTypes.toList)) = true := by kernel_rfl
end Go.Proofs.YtnpedjbgchdkbaaGreatDoor
