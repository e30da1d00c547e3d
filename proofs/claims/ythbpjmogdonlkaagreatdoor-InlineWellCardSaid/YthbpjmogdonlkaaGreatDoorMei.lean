/- Texts joined by a program (merge.py). -/
import Derived.Test.YthbpjmogdonlkaaGreatDoorRows
import Derived.JoinedOf
import Derived.KernelRfl
set_option linter.unusedSimpArgs false
set_option linter.unusedVariables false
open Go.Proofs.YthbpjmogdonlkaaGreatDoor.Rows renaming inlineWellSpec->Za
open Go.OpenSpec renaming ofChange->Zb
namespace Go.Proofs.YthbpjmogdonlkaaGreatDoor
open Go
theorem iwlf0:(Rows.inlineWellRow.wf (Zb (Zb Za).bare))=true:=by kernel_rfl
theorem iwlf1:(laidOutB Tryz.pinned.checked.prog)=true:=by kernel_rfl
theorem iwlf2:(mapsRowed Tryz.pinned.checked.prog)=true:=by kernel_rfl
theorem iwlf3:(Tryz.f8.params.all (Tryz.pinned.checked.prog.readableRec ·))=true:=by kernel_rfl
theorem iwlf4:(namedTie Tryz.pinned.checked.prog Rows.inlineWellRow.named (Zb Za).bare.vars)=true:=by kernel_rfl
theorem iwlf5:(Rows.inlineWellRow.stops==[])=true:=by kernel_rfl
theorem iwlf6:(Tryz.pinned.checked.prog.stops==[])=true:=by kernel_rfl
theorem iwlf7:(Rows.inlineWellRow.knobs==[])=true:=by kernel_rfl
theorem iwlf8:(Tryz.pinned.checked.prog.stopKnobs==[])=true:=by kernel_rfl
theorem iwlf9:(Rows.inlineWellRow.inPlace==Tryz.pinned.checked.prog.inPlace 8)=true:=by kernel_rfl
theorem iwlf10:(Rows.inlineWellRow.unfollowed==Tryz.pinned.checked.prog.unfollowed 8)=true:=by kernel_rfl
theorem iwlf11:(Rows.inlineWellRow.recurses==Tryz.pinned.checked.prog.recurses 8)=true:=by kernel_rfl
theorem iwlf12:(Rows.inlineWellRow.named==Tryz.pinned.checked.prog.varsNamed 8)=true:=by kernel_rfl
theorem iwlf13:(Rows.inlineWellRow.maps==(Tryz.f8.params.toList++(Zb Za).bare.plain.varTypes Tryz.pinned.checked.prog).any (Tryz.pinned.checked.prog.mapsRec ·))=true:=by kernel_rfl
theorem iwlf14:(Rows.inlineWellRow.ifaces==(Tryz.f8.params.toList++(Zb Za).bare.plain.varTypes Tryz.pinned.checked.prog).any (Tryz.pinned.checked.prog.ifacesRec ·))=true:=by kernel_rfl
theorem iwlf15:(Rows.inlineWellRow.mapsOut==Tryz.pinned.checked.prog.mapsAmong Tryz.f8.resultTypes.toList)=true:=by kernel_rfl
theorem iwlf16:(Rows.inlineWellRow.loops==(Tryz.f8.params.toList++(Zb Za).bare.plain.varTypes Tryz.pinned.checked.prog).any (Tryz.pinned.checked.prog.loopsFrom ·))=true:=by kernel_rfl
theorem iwlf17:(Rows.inlineWellRow.wideKeys==(Tryz.f8.params.toList++(Zb Za).bare.plain.varTypes Tryz.pinned.checked.prog++Tryz.f8.resultTypes.toList).any (Tryz.pinned.checked.prog.wideKeysFrom ·))=true:=by kernel_rfl
theorem iwlf18:((Zb Za).bare.vars.all (Tryz.pinned.checked.prog.varReadable ·))=true:=by kernel_rfl
theorem iwlf19:(Tryz.f8.resultTypes.all (λt=>Tryz.pinned.checked.prog.readableRec t&&decide (t<Tryz.pinned.checked.prog.types.size)))=true:=by kernel_rfl
theorem iwlf20:(Rows.inlineWellRow.ifacesOut==Tryz.f8.resultTypes.toList.any (Tryz.pinned.checked.prog.ifacesRec ·))=true:=by kernel_rfl
theorem iwlf21:(Rows.inlineWellRow.loopsOut==Tryz.f8.resultTypes.toList.any (Tryz.pinned.checked.prog.loopsFrom ·))=true:=by kernel_rfl
theorem iwlf22:(Rows.inlineWellRow.plainKeys==Tryz.pinned.checked.prog.plainKeys)=true:=by kernel_rfl
theorem iwlf23:Rows.inlineWellRow.shortTexts.isNone=true:=by kernel_rfl
theorem iwlf24:Tryz.pinned.checked.prog.stopsHeard=true:=by kernel_rfl
theorem iwlf25:Tryz.pinned.checked.prog.mayEnter=true:=by kernel_rfl
theorem iwlf26:(Rows.inlineWellRow.lifted==Tryz.pinned.checked.prog.liftsFinal)=true:=by kernel_rfl
theorem iwlf27:(Tryz.pinned.checked.prog.make==some Rows.inlineWellRow.make)=true:=by kernel_rfl
theorem iwlf28:(Rows.inlineWellRow.kinds==(if Rows.inlineWellRow.domain.isEmpty then[]else Tryz.f8.params.toList.map λt=>match Tryz.pinned.checked.prog.underlying t with|some (.int k)=>some k|_=>none))=true:=by kernel_rfl
theorem iwlf29:(Rows.inlineWellRow.pinned==Rows.inlineWellRow.pinnedBy)=true:=by kernel_rfl
theorem iwlf30:(Rows.inlineWellRow.veiled==(Tryz.f8.params.toList++(Zb Za).bare.plain.varTypes Tryz.pinned.checked.prog++Tryz.f8.resultTypes.toList).any (Tryz.pinned.checked.prog.veiledRec ·))=true:=by kernel_rfl
theorem iwlf31:(Rows.inlineWellRow.veiledFits Tryz.pinned.checked.prog Tryz.f8.params.toList (Tryz.f8.params.toList++(Zb Za).bare.plain.varTypes Tryz.pinned.checked.prog++Tryz.f8.resultTypes.toList))=true:=by kernel_rfl
end Go.Proofs.YthbpjmogdonlkaaGreatDoor
