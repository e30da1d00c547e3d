/- Texts joined by a program (merge.py). -/
import Derived.Test.YthbpjmogdonlkaaGreatDoorRows
import Derived.Deep.DeepHandedRow
import Derived.Deep.DeepWitnessRowRef
import Derived.Lay
import Derived.RowKit
set_option linter.unusedSimpArgs false
set_option linter.unusedVariables false
namespace Go.Proofs.YthbpjmogdonlkaaGreatDoor
open Go Go.RowKit
theorem Tryz.own:ownKnob Tryz.prog.godebug=none:=by kernel_rfl
theorem Tryz.laidOut:laidOutB Tryz.prog=true:=by kernel_rfl
theorem laid_fits(os:Os):(World.holding Tryz.prog os ⟨#[],#[],[]⟩).layFits Tryz.prog Rows.inlineLinksRow.laid []=true:=by kernel_rfl
theorem laid_ifaces(os:Os):(World.holding Tryz.prog os ⟨#[],#[],[]⟩).layIfaces Tryz.prog Rows.inlineLinksRow.laid (World.laidAll Tryz.prog os Rows.inlineLinksRow.laid)=true:=by kernel_rfl
theorem laid_met(os:Os)(args:Array Value):laidMet Tryz.prog Rows.inlineLinksRow.laid ((World.laidAll Tryz.prog os Rows.inlineLinksRow.laid).forCall (λ_ _=>0) ⟨#[],args,[]⟩).memory:=
 laidMet_laidAll args (laid_fits os) (laid_ifaces os)
theorem laid_vars(os:Os)(args:Array Value):((World.laidAll Tryz.prog os Rows.inlineLinksRow.laid).forCall (λ_ _=>0) ⟨#[],args,[]⟩).variablesRefB Tryz.prog=true:=by kernel_rfl
theorem laid_rest(os:Os)(args:Array Value):(((World.laidAll Tryz.prog os Rows.inlineLinksRow.laid).forCall (λ_ _=>0) ⟨#[],args,[]⟩).heap.toList.drop Tryz.prog.globals.size).take ((begin Tryz.prog (λ_ _=>0) default).world.heap.size-Tryz.prog.globals.size)=
      (begin Tryz.prog (λ_ _=>0) default).world.heap.toList.drop Tryz.prog.globals.size:=by kernel_rfl
end Go.Proofs.YthbpjmogdonlkaaGreatDoor
