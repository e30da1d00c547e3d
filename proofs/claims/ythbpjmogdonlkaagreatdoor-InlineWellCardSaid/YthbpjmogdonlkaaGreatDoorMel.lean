/- Texts joined by a program (merge.py). -/
import Derived.Test.YthbpjmogdonlkaaGreatDoorMek
set_option linter.unusedSimpArgs false
set_option linter.unusedVariables false
namespace Go.Proofs.YthbpjmogdonlkaaGreatDoor
open Go Go.Eng Go.ChangeShapes Go.WideShapes Go.ChangeAt Go.RowKit Go.ChangeMaps
theorem in_plain (f : FuncId) (fn : Func) (hf : Tryz.pinned.checked.prog.funcNamed "publisher/publisherlaw11.InlineWell" = some f) (hfn : Tryz.pinned.checked.prog.funcs[f]? = some fn) :
  true=Tryz.pinned.checked.prog.looks []/\∀(j:Nat) t,fn.params[j]? =some t->Tryz.pinned.checked.prog.wantsStandIn t=false:=by
 obtain rfl : f = 8 := Option.some.inj ((show Tryz.prog.funcNamed "publisher/publisherlaw11.InlineWell" = some 8 by kernel_rfl).symm.trans hf) |>.symm; obtain rfl : fn = Tryz.f8 := (Option.some.inj (Tryz.func8.symm.trans hfn)).symm; refine ⟨kx, λj t ht => ?_⟩; rw [Tryz.params8] at ht; have hm : t ∈ [9] := by simpa using Array.mem_of_getElem? ht
 have hall:([9].all λu=> !Tryz.prog.wantsStandIn u)=true:=kx;exact(show Tryz.prog.wantsStandIn t=false by simpa using List.all_eq_true.1 hall t hm)
theorem card_main:Tryz.pinned.checked.prog.mainIs=some (true,(Rows.inlineWellCard.stood.harness.2).toList):=kx
theorem card_goes:false=Rows.inlineWellRow.goesBy Tryz.pinned.checked.prog:=kx
end Go.Proofs.YthbpjmogdonlkaaGreatDoor
