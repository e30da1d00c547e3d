/- Texts joined by a program (merge.py). -/
import Derived.Test.YthbpjmogdonlkaaGreatDoorRows
import Derived.JoinedOf
import Derived.KernelRfl
set_option linter.unusedSimpArgs false
set_option linter.unusedVariables false
namespace Go.Proofs.YthbpjmogdonlkaaGreatDoor
open Go
theorem iwf0 : (Rows.inlineWordsRow.wf (OpenSpec.ofChange (OpenSpec.ofChange Rows.inlineWordsSpec).bare)) = true := by kernel_rfl
theorem iwf1 : (laidOutB Tryz.pinned.checked.prog) = true := by kernel_rfl
theorem iwf2 : (mapsRowed Tryz.pinned.checked.prog) = true := by kernel_rfl
theorem iwf3 : (Tryz.f6.params.all (Tryz.pinned.checked.prog.readableRec ·)) = true := by kernel_rfl
theorem iwf4 : (namedTie Tryz.pinned.checked.prog Rows.inlineWordsRow.named (OpenSpec.ofChange Rows.inlineWordsSpec).bare.vars) = true := by kernel_rfl
theorem iwf5 : (Rows.inlineWordsRow.stops == []) = true := by kernel_rfl
theorem iwf6 : (Tryz.pinned.checked.prog.stops == []) = true := by kernel_rfl
theorem iwf7 : (Rows.inlineWordsRow.knobs == []) = true := by kernel_rfl
theorem iwf8 : (Tryz.pinned.checked.prog.stopKnobs == []) = true := by kernel_rfl
theorem iwf9 : (Rows.inlineWordsRow.inPlace == Tryz.pinned.checked.prog.inPlace 6) = true := by kernel_rfl
theorem iwf10 : (Rows.inlineWordsRow.unfollowed == Tryz.pinned.checked.prog.unfollowed 6) = true := by kernel_rfl
theorem iwf11 : (Rows.inlineWordsRow.recurses == Tryz.pinned.checked.prog.recurses 6) = true := by kernel_rfl
theorem iwf12 : (Rows.inlineWordsRow.named == Tryz.pinned.checked.prog.varsNamed 6) = true := by kernel_rfl
theorem iwf13 : (Rows.inlineWordsRow.maps == (Tryz.f6.params.toList ++ (OpenSpec.ofChange Rows.inlineWordsSpec).bare.plain.varTypes Tryz.pinned.checked.prog).any (Tryz.pinned.checked.prog.mapsRec ·)) = true := by kernel_rfl
theorem iwf14 : (Rows.inlineWordsRow.ifaces == (Tryz.f6.params.toList ++ (OpenSpec.ofChange Rows.inlineWordsSpec).bare.plain.varTypes Tryz.pinned.checked.prog).any (Tryz.pinned.checked.prog.ifacesRec ·)) = true := by kernel_rfl
theorem iwf15 : (Rows.inlineWordsRow.mapsOut == Tryz.pinned.checked.prog.mapsAmong Tryz.f6.resultTypes.toList) = true := by kernel_rfl
theorem iwf16 : (Rows.inlineWordsRow.loops == (Tryz.f6.params.toList ++ (OpenSpec.ofChange Rows.inlineWordsSpec).bare.plain.varTypes Tryz.pinned.checked.prog).any (Tryz.pinned.checked.prog.loopsFrom ·)) = true := by kernel_rfl
theorem iwf17 : (Rows.inlineWordsRow.wideKeys == (Tryz.f6.params.toList ++ (OpenSpec.ofChange Rows.inlineWordsSpec).bare.plain.varTypes Tryz.pinned.checked.prog ++ Tryz.f6.resultTypes.toList).any (Tryz.pinned.checked.prog.wideKeysFrom ·)) = true := by kernel_rfl
theorem iwf18 : ((OpenSpec.ofChange Rows.inlineWordsSpec).bare.vars.all (Tryz.pinned.checked.prog.varReadable ·)) = true := by kernel_rfl
theorem iwf19 : (Tryz.f6.resultTypes.all (fun t => Tryz.pinned.checked.prog.readableRec t && decide (t < Tryz.pinned.checked.prog.types.size))) = true := by kernel_rfl
theorem iwf20 : (Rows.inlineWordsRow.ifacesOut == Tryz.f6.resultTypes.toList.any (Tryz.pinned.checked.prog.ifacesRec ·)) = true := by kernel_rfl
theorem iwf21 : (Rows.inlineWordsRow.loopsOut == Tryz.f6.resultTypes.toList.any (Tryz.pinned.checked.prog.loopsFrom ·)) = true := by kernel_rfl
theorem iwf22 : (Rows.inlineWordsRow.plainKeys == Tryz.pinned.checked.prog.plainKeys) = true := by kernel_rfl
theorem iwf23 : Rows.inlineWordsRow.shortTexts.isNone = true := by kernel_rfl
theorem iwf24 : Tryz.pinned.checked.prog.stopsHeard = true := by kernel_rfl
theorem iwf25 : Tryz.pinned.checked.prog.mayEnter = true := by kernel_rfl
theorem iwf26 : (Rows.inlineWordsRow.lifted == Tryz.pinned.checked.prog.liftsFinal) = true := by kernel_rfl
theorem iwf27 : (Tryz.pinned.checked.prog.make == some Rows.inlineWordsRow.make) = true := by kernel_rfl
theorem iwf28 : (Rows.inlineWordsRow.kinds == (if Rows.inlineWordsRow.domain.isEmpty then [] else Tryz.f6.params.toList.map fun t => match Tryz.pinned.checked.prog.underlying t with | some (.int k) => some k | _ => none)) = true := by kernel_rfl
theorem iwf29 : (Rows.inlineWordsRow.pinned == Rows.inlineWordsRow.pinnedBy) = true := by kernel_rfl
theorem iwf30 : (Rows.inlineWordsRow.veiled == (Tryz.f6.params.toList ++ (OpenSpec.ofChange Rows.inlineWordsSpec).bare.plain.varTypes Tryz.pinned.checked.prog ++ Tryz.f6.resultTypes.toList).any (Tryz.pinned.checked.prog.veiledRec ·)) = true := by kernel_rfl
theorem iwf31 : (Rows.inlineWordsRow.veiledFits Tryz.pinned.checked.prog Tryz.f6.params.toList (Tryz.f6.params.toList ++ (OpenSpec.ofChange Rows.inlineWordsSpec).bare.plain.varTypes Tryz.pinned.checked.prog ++ Tryz.f6.resultTypes.toList)) = true := by kernel_rfl
end Go.Proofs.YthbpjmogdonlkaaGreatDoor
