/- Texts joined by a program (merge.py). -/
import Derived.Test.YthbpjmogdonlkaaGreatDoorRows
import Derived.JoinedOf
import Derived.KernelRfl
set_option linter.unusedSimpArgs false
set_option linter.unusedVariables false
namespace Go.Proofs.YthbpjmogdonlkaaGreatDoor
open Go
theorem ilf0:(Rows.inlineLinksRow.wf (OpenSpec.ofChange (OpenSpec.ofChange Rows.inlineLinksSpec).bare))=true:=by kernel_rfl
theorem ilf1:(laidOutB Tryz.pinned.checked.prog)=true:=by kernel_rfl
theorem ilf2:(mapsRowed Tryz.pinned.checked.prog)=true:=by kernel_rfl
theorem ilf3:(Tryz.f5.params.all (Tryz.pinned.checked.prog.readableRec ·))=true:=by kernel_rfl
theorem ilf4:(namedTie Tryz.pinned.checked.prog Rows.inlineLinksRow.named (OpenSpec.ofChange Rows.inlineLinksSpec).bare.vars)=true:=by kernel_rfl
theorem ilf5:(Rows.inlineLinksRow.stops==[])=true:=by kernel_rfl
theorem ilf6:(Tryz.pinned.checked.prog.stops==[])=true:=by kernel_rfl
theorem ilf7:(Rows.inlineLinksRow.knobs==[])=true:=by kernel_rfl
theorem ilf8:(Tryz.pinned.checked.prog.stopKnobs==[])=true:=by kernel_rfl
theorem ilf9:(Rows.inlineLinksRow.inPlace==Tryz.pinned.checked.prog.inPlace 5)=true:=by kernel_rfl
theorem ilf10:(Rows.inlineLinksRow.unfollowed==Tryz.pinned.checked.prog.unfollowed 5)=true:=by kernel_rfl
theorem ilf11:(Rows.inlineLinksRow.recurses==Tryz.pinned.checked.prog.recurses 5)=true:=by kernel_rfl
theorem ilf12:(Rows.inlineLinksRow.named==Tryz.pinned.checked.prog.varsNamed 5)=true:=by kernel_rfl
theorem ilf13:(Rows.inlineLinksRow.maps==(Tryz.f5.params.toList++(OpenSpec.ofChange Rows.inlineLinksSpec).bare.plain.varTypes Tryz.pinned.checked.prog).any (Tryz.pinned.checked.prog.mapsRec ·))=true:=by kernel_rfl
theorem ilf14:(Rows.inlineLinksRow.ifaces==(Tryz.f5.params.toList++(OpenSpec.ofChange Rows.inlineLinksSpec).bare.plain.varTypes Tryz.pinned.checked.prog).any (Tryz.pinned.checked.prog.ifacesRec ·))=true:=by kernel_rfl
theorem ilf15:(Rows.inlineLinksRow.mapsOut==Tryz.pinned.checked.prog.mapsAmong Tryz.f5.resultTypes.toList)=true:=by kernel_rfl
theorem ilf16:(Rows.inlineLinksRow.loops==(Tryz.f5.params.toList++(OpenSpec.ofChange Rows.inlineLinksSpec).bare.plain.varTypes Tryz.pinned.checked.prog).any (Tryz.pinned.checked.prog.loopsFrom ·))=true:=by kernel_rfl
theorem ilf17:(Rows.inlineLinksRow.wideKeys==(Tryz.f5.params.toList++(OpenSpec.ofChange Rows.inlineLinksSpec).bare.plain.varTypes Tryz.pinned.checked.prog++Tryz.f5.resultTypes.toList).any (Tryz.pinned.checked.prog.wideKeysFrom ·))=true:=by kernel_rfl
theorem ilf18:((OpenSpec.ofChange Rows.inlineLinksSpec).bare.vars.all (Tryz.pinned.checked.prog.varReadable ·))=true:=by kernel_rfl
theorem ilf19:(Tryz.f5.resultTypes.all (λt=>Tryz.pinned.checked.prog.readableRec t&&decide (t<Tryz.pinned.checked.prog.types.size)))=true:=by kernel_rfl
theorem ilf20:(Rows.inlineLinksRow.ifacesOut==Tryz.f5.resultTypes.toList.any (Tryz.pinned.checked.prog.ifacesRec ·))=true:=by kernel_rfl
theorem ilf21:(Rows.inlineLinksRow.loopsOut==Tryz.f5.resultTypes.toList.any (Tryz.pinned.checked.prog.loopsFrom ·))=true:=by kernel_rfl
theorem ilf22:(Rows.inlineLinksRow.plainKeys==Tryz.pinned.checked.prog.plainKeys)=true:=by kernel_rfl
theorem ilf23:Rows.inlineLinksRow.shortTexts.isNone=true:=by kernel_rfl
theorem ilf24:Tryz.pinned.checked.prog.stopsHeard=true:=by kernel_rfl
theorem ilf25:Tryz.pinned.checked.prog.mayEnter=true:=by kernel_rfl
theorem ilf26:(Rows.inlineLinksRow.lifted==Tryz.pinned.checked.prog.liftsFinal)=true:=by kernel_rfl
theorem ilf27:(Tryz.pinned.checked.prog.make==some Rows.inlineLinksRow.make)=true:=by kernel_rfl
theorem ilf28:(Rows.inlineLinksRow.kinds==(if Rows.inlineLinksRow.domain.isEmpty then[]else Tryz.f5.params.toList.map λt=>match Tryz.pinned.checked.prog.underlying t with|some (.int k)=>some k|_=>none))=true:=by kernel_rfl
theorem ilf29:(Rows.inlineLinksRow.pinned==Rows.inlineLinksRow.pinnedBy)=true:=by kernel_rfl
theorem ilf30:(Rows.inlineLinksRow.veiled==(Tryz.f5.params.toList++(OpenSpec.ofChange Rows.inlineLinksSpec).bare.plain.varTypes Tryz.pinned.checked.prog++Tryz.f5.resultTypes.toList).any (Tryz.pinned.checked.prog.veiledRec ·))=true:=by kernel_rfl
theorem ilf31:(Rows.inlineLinksRow.veiledFits Tryz.pinned.checked.prog Tryz.f5.params.toList (Tryz.f5.params.toList++(OpenSpec.ofChange Rows.inlineLinksSpec).bare.plain.varTypes Tryz.pinned.checked.prog++Tryz.f5.resultTypes.toList))=true:=by kernel_rfl
end Go.Proofs.YthbpjmogdonlkaaGreatDoor
