/- Texts joined by a program (merge.py). -/
import Derived.Test.YthbpjmogdonlkaaGreatDoorRows
import Derived.Deep.DeepHandedRow
import Derived.Deep.DeepWitnessRowRef
import Derived.Lay
import Derived.RowKit
set_option linter.unusedSimpArgs false
set_option linter.unusedVariables false
open Go.Proofs.Tryz renaming prog->Za
open Go.World renaming laidAll->Zb,holding->Zc
namespace Go.Proofs.YthbpjmogdonlkaaGreatDoor
open Go Go.RowKit
theorem Tryz.own:ownKnob Tryz.prog.godebug=none:=by kernel_rfl
theorem Tryz.laidOut:laidOutB Za=true:=by kernel_rfl
theorem laid_fits(os:Os):(Zc Za os ⟨#[],#[],[]⟩).layFits Za Rows.inlineWellRow.laid []=true:=by kernel_rfl
theorem laid_ifaces(os:Os):(Zc Za os ⟨#[],#[],[]⟩).layIfaces Za Rows.inlineWellRow.laid (Zb Za os Rows.inlineWellRow.laid)=true:=by kernel_rfl
theorem laid_met(os:Os)(args:Array Value):laidMet Za Rows.inlineWellRow.laid ((Zb Za os Rows.inlineWellRow.laid).forCall (λ_ _=>0) ⟨#[],args,[]⟩).memory:=
 laidMet_laidAll args (laid_fits os) (laid_ifaces os)
theorem laid_vars(os:Os)(args:Array Value):((Zb Za os Rows.inlineWellRow.laid).forCall (λ_ _=>0) ⟨#[],args,[]⟩).variablesRefB Za=true:=by kernel_rfl
theorem laid_rest(os:Os)(args:Array Value):(((Zb Za os Rows.inlineWellRow.laid).forCall (λ_ _=>0) ⟨#[],args,[]⟩).heap.toList.drop Tryz.prog.globals.size).take ((begin Za (λ_ _=>0) default).world.heap.size-Tryz.prog.globals.size)=
      (begin Za (λ_ _=>0) default).world.heap.toList.drop Tryz.prog.globals.size:=by kernel_rfl
end Go.Proofs.YthbpjmogdonlkaaGreatDoor
