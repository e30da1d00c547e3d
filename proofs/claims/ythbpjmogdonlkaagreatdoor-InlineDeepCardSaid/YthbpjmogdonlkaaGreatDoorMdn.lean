/- Texts joined by a program (merge.py). -/
import Derived.Test.YthbpjmogdonlkaaGreatDoorRows
import Derived.JoinedOf
import Derived.KernelRfl
set_option linter.unusedSimpArgs false
set_option linter.unusedVariables false
namespace Go.Proofs.YthbpjmogdonlkaaGreatDoor
open Go
theorem idf0 : (Rows.inlineDeepRow.wf (OpenSpec.ofChange (OpenSpec.ofChange Rows.inlineDeepSpec).bare)) = true := by kernel_rfl
theorem idf1 : (laidOutB Tryz.pinned.checked.prog) = true := by kernel_rfl
theorem idf2 : (mapsRowed Tryz.pinned.checked.prog) = true := by kernel_rfl
theorem idf3 : (Tryz.f7.params.all (Tryz.pinned.checked.prog.readableRec ·)) = true := by kernel_rfl
theorem idf4 : (namedTie Tryz.pinned.checked.prog Rows.inlineDeepRow.named (OpenSpec.ofChange Rows.inlineDeepSpec).bare.vars) = true := by kernel_rfl
theorem idf5 : (Rows.inlineDeepRow.stops == []) = true := by kernel_rfl
theorem idf6 : (Tryz.pinned.checked.prog.stops == []) = true := by kernel_rfl
theorem idf7 : (Rows.inlineDeepRow.knobs == []) = true := by kernel_rfl
theorem idf8 : (Tryz.pinned.checked.prog.stopKnobs == []) = true := by kernel_rfl
theorem idf9 : (Rows.inlineDeepRow.inPlace == Tryz.pinned.checked.prog.inPlace 7) = true := by kernel_rfl
theorem idf10 : (Rows.inlineDeepRow.unfollowed == Tryz.pinned.checked.prog.unfollowed 7) = true := by kernel_rfl
theorem idf11 : (Rows.inlineDeepRow.recurses == Tryz.pinned.checked.prog.recurses 7) = true := by kernel_rfl
theorem idf12 : (Rows.inlineDeepRow.named == Tryz.pinned.checked.prog.varsNamed 7) = true := by kernel_rfl
theorem idf13 : (Rows.inlineDeepRow.maps == (Tryz.f7.params.toList ++ (OpenSpec.ofChange Rows.inlineDeepSpec).bare.plain.varTypes Tryz.pinned.checked.prog).any (Tryz.pinned.checked.prog.mapsRec ·)) = true := by kernel_rfl
theorem idf14 : (Rows.inlineDeepRow.ifaces == (Tryz.f7.params.toList ++ (OpenSpec.ofChange Rows.inlineDeepSpec).bare.plain.varTypes Tryz.pinned.checked.prog).any (Tryz.pinned.checked.prog.ifacesRec ·)) = true := by kernel_rfl
theorem idf15 : (Rows.inlineDeepRow.mapsOut == Tryz.pinned.checked.prog.mapsAmong Tryz.f7.resultTypes.toList) = true := by kernel_rfl
theorem idf16 : (Rows.inlineDeepRow.loops == (Tryz.f7.params.toList ++ (OpenSpec.ofChange Rows.inlineDeepSpec).bare.plain.varTypes Tryz.pinned.checked.prog).any (Tryz.pinned.checked.prog.loopsFrom ·)) = true := by kernel_rfl
theorem idf17 : (Rows.inlineDeepRow.wideKeys == (Tryz.f7.params.toList ++ (OpenSpec.ofChange Rows.inlineDeepSpec).bare.plain.varTypes Tryz.pinned.checked.prog ++ Tryz.f7.resultTypes.toList).any (Tryz.pinned.checked.prog.wideKeysFrom ·)) = true := by kernel_rfl
theorem idf18 : ((OpenSpec.ofChange Rows.inlineDeepSpec).bare.vars.all (Tryz.pinned.checked.prog.varReadable ·)) = true := by kernel_rfl
theorem idf19 : (Tryz.f7.resultTypes.all (fun t => Tryz.pinned.checked.prog.readableRec t && decide (t < Tryz.pinned.checked.prog.types.size))) = true := by kernel_rfl
theorem idf20 : (Rows.inlineDeepRow.ifacesOut == Tryz.f7.resultTypes.toList.any (Tryz.pinned.checked.prog.ifacesRec ·)) = true := by kernel_rfl
theorem idf21 : (Rows.inlineDeepRow.loopsOut == Tryz.f7.resultTypes.toList.any (Tryz.pinned.checked.prog.loopsFrom ·)) = true := by kernel_rfl
theorem idf22 : (Rows.inlineDeepRow.plainKeys == Tryz.pinned.checked.prog.plainKeys) = true := by kernel_rfl
theorem idf23 : Rows.inlineDeepRow.shortTexts.isNone = true := by kernel_rfl
theorem idf24 : Tryz.pinned.checked.prog.stopsHeard = true := by kernel_rfl
theorem idf25 : Tryz.pinned.checked.prog.mayEnter = true := by kernel_rfl
theorem idf26 : (Rows.inlineDeepRow.lifted == Tryz.pinned.checked.prog.liftsFinal) = true := by kernel_rfl
theorem idf27 : (Tryz.pinned.checked.prog.make == some Rows.inlineDeepRow.make) = true := by kernel_rfl
theorem idf28 : (Rows.inlineDeepRow.kinds == (if Rows.inlineDeepRow.domain.isEmpty then [] else Tryz.f7.params.toList.map fun t => match Tryz.pinned.checked.prog.underlying t with | some (.int k) => some k | _ => none)) = true := by kernel_rfl
theorem idf29 : (Rows.inlineDeepRow.pinned == Rows.inlineDeepRow.pinnedBy) = true := by kernel_rfl
theorem idf30 : (Rows.inlineDeepRow.veiled == (Tryz.f7.params.toList ++ (OpenSpec.ofChange Rows.inlineDeepSpec).bare.plain.varTypes Tryz.pinned.checked.prog ++ Tryz.f7.resultTypes.toList).any (Tryz.pinned.checked.prog.veiledRec ·)) = true := by kernel_rfl
theorem idf31 : (Rows.inlineDeepRow.veiledFits Tryz.pinned.checked.prog Tryz.f7.params.toList (Tryz.f7.params.toList ++ (OpenSpec.ofChange Rows.inlineDeepSpec).bare.plain.varTypes Tryz.pinned.checked.prog ++ Tryz.f7.resultTypes.toList)) = true := by kernel_rfl
end Go.Proofs.YthbpjmogdonlkaaGreatDoor
