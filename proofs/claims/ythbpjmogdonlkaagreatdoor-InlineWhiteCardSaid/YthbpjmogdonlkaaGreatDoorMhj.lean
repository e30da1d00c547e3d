/- Texts joined by a program (merge.py). -/
import Derived.Test.YthbpjmogdonlkaaGreatDoorRows
import Derived.JoinedOf
import Derived.KernelRfl
set_option linter.unusedSimpArgs false
set_option linter.unusedVariables false
namespace Go.Proofs.YthbpjmogdonlkaaGreatDoor
open Go
theorem ihf0:(Rows.inlineWhiteRow.wf (OpenSpec.ofChange (OpenSpec.ofChange Rows.inlineWhiteSpec).bare))=true:=by kernel_rfl
theorem ihf1:(laidOutB Tryz.pinned.checked.prog)=true:=by kernel_rfl
theorem ihf2:(mapsRowed Tryz.pinned.checked.prog)=true:=by kernel_rfl
theorem ihf3:(Tryz.f4.params.all (Tryz.pinned.checked.prog.readableRec ·))=true:=by kernel_rfl
theorem ihf4:(namedTie Tryz.pinned.checked.prog Rows.inlineWhiteRow.named (OpenSpec.ofChange Rows.inlineWhiteSpec).bare.vars)=true:=by kernel_rfl
theorem ihf5:(Rows.inlineWhiteRow.stops==[])=true:=by kernel_rfl
theorem ihf6:(Tryz.pinned.checked.prog.stops==[])=true:=by kernel_rfl
theorem ihf7:(Rows.inlineWhiteRow.knobs==[])=true:=by kernel_rfl
theorem ihf8:(Tryz.pinned.checked.prog.stopKnobs==[])=true:=by kernel_rfl
theorem ihf9:(Rows.inlineWhiteRow.inPlace==Tryz.pinned.checked.prog.inPlace 4)=true:=by kernel_rfl
theorem ihf10:(Rows.inlineWhiteRow.unfollowed==Tryz.pinned.checked.prog.unfollowed 4)=true:=by kernel_rfl
theorem ihf11:(Rows.inlineWhiteRow.recurses==Tryz.pinned.checked.prog.recurses 4)=true:=by kernel_rfl
theorem ihf12:(Rows.inlineWhiteRow.named==Tryz.pinned.checked.prog.varsNamed 4)=true:=by kernel_rfl
theorem ihf13:(Rows.inlineWhiteRow.maps==(Tryz.f4.params.toList++(OpenSpec.ofChange Rows.inlineWhiteSpec).bare.plain.varTypes Tryz.pinned.checked.prog).any (Tryz.pinned.checked.prog.mapsRec ·))=true:=by kernel_rfl
theorem ihf14:(Rows.inlineWhiteRow.ifaces==(Tryz.f4.params.toList++(OpenSpec.ofChange Rows.inlineWhiteSpec).bare.plain.varTypes Tryz.pinned.checked.prog).any (Tryz.pinned.checked.prog.ifacesRec ·))=true:=by kernel_rfl
theorem ihf15:(Rows.inlineWhiteRow.mapsOut==Tryz.pinned.checked.prog.mapsAmong Tryz.f4.resultTypes.toList)=true:=by kernel_rfl
theorem ihf16:(Rows.inlineWhiteRow.loops==(Tryz.f4.params.toList++(OpenSpec.ofChange Rows.inlineWhiteSpec).bare.plain.varTypes Tryz.pinned.checked.prog).any (Tryz.pinned.checked.prog.loopsFrom ·))=true:=by kernel_rfl
theorem ihf17:(Rows.inlineWhiteRow.wideKeys==(Tryz.f4.params.toList++(OpenSpec.ofChange Rows.inlineWhiteSpec).bare.plain.varTypes Tryz.pinned.checked.prog++Tryz.f4.resultTypes.toList).any (Tryz.pinned.checked.prog.wideKeysFrom ·))=true:=by kernel_rfl
theorem ihf18:((OpenSpec.ofChange Rows.inlineWhiteSpec).bare.vars.all (Tryz.pinned.checked.prog.varReadable ·))=true:=by kernel_rfl
theorem ihf19:(Tryz.f4.resultTypes.all (λt=>Tryz.pinned.checked.prog.readableRec t&&decide (t<Tryz.pinned.checked.prog.types.size)))=true:=by kernel_rfl
theorem ihf20:(Rows.inlineWhiteRow.ifacesOut==Tryz.f4.resultTypes.toList.any (Tryz.pinned.checked.prog.ifacesRec ·))=true:=by kernel_rfl
theorem ihf21:(Rows.inlineWhiteRow.loopsOut==Tryz.f4.resultTypes.toList.any (Tryz.pinned.checked.prog.loopsFrom ·))=true:=by kernel_rfl
theorem ihf22:(Rows.inlineWhiteRow.plainKeys==Tryz.pinned.checked.prog.plainKeys)=true:=by kernel_rfl
theorem ihf23:Rows.inlineWhiteRow.shortTexts.isNone=true:=by kernel_rfl
theorem ihf24:Tryz.pinned.checked.prog.stopsHeard=true:=by kernel_rfl
theorem ihf25:Tryz.pinned.checked.prog.mayEnter=true:=by kernel_rfl
theorem ihf26:(Rows.inlineWhiteRow.lifted==Tryz.pinned.checked.prog.liftsFinal)=true:=by kernel_rfl
theorem ihf27:(Tryz.pinned.checked.prog.make==some Rows.inlineWhiteRow.make)=true:=by kernel_rfl
theorem ihf28:(Rows.inlineWhiteRow.kinds==(if Rows.inlineWhiteRow.domain.isEmpty then[]else Tryz.f4.params.toList.map λt=>match Tryz.pinned.checked.prog.underlying t with|some (.int k)=>some k|_=>none))=true:=by kernel_rfl
theorem ihf29:(Rows.inlineWhiteRow.pinned==Rows.inlineWhiteRow.pinnedBy)=true:=by kernel_rfl
theorem ihf30:(Rows.inlineWhiteRow.veiled==(Tryz.f4.params.toList++(OpenSpec.ofChange Rows.inlineWhiteSpec).bare.plain.varTypes Tryz.pinned.checked.prog++Tryz.f4.resultTypes.toList).any (Tryz.pinned.checked.prog.veiledRec ·))=true:=by kernel_rfl
theorem ihf31:(Rows.inlineWhiteRow.veiledFits Tryz.pinned.checked.prog Tryz.f4.params.toList (Tryz.f4.params.toList++(OpenSpec.ofChange Rows.inlineWhiteSpec).bare.plain.varTypes Tryz.pinned.checked.prog++Tryz.f4.resultTypes.toList))=true:=by kernel_rfl
end Go.Proofs.YthbpjmogdonlkaaGreatDoor
