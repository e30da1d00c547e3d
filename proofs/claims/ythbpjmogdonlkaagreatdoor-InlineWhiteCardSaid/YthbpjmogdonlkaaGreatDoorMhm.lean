/- Texts joined by a program (merge.py). -/
import Derived.Test.YthbpjmogdonlkaaGreatDoorMhl
set_option linter.unusedSimpArgs false
set_option linter.unusedVariables false
namespace Go.Proofs.YthbpjmogdonlkaaGreatDoor
open Go Go.Eng Go.ChangeShapes Go.WideShapes Go.ChangeAt Go.RowKit Go.ChangeMaps
theorem in_plain (f : FuncId) (fn : Func) (hf : Tryz.pinned.checked.prog.funcNamed "publisher/publisherlaw11.InlineWhite" = some f) (hfn : Tryz.pinned.checked.prog.funcs[f]? = some fn) :
  true=Tryz.pinned.checked.prog.looks []/\∀(j:Nat) t,fn.params[j]? =some t->Tryz.pinned.checked.prog.wantsStandIn t=false:=by
 obtain rfl : f = 4 := Option.some.inj ((show Tryz.prog.funcNamed "publisher/publisherlaw11.InlineWhite" = some 4 by kernel_rfl).symm.trans hf) |>.symm; obtain rfl : fn = Tryz.f4 := (Option.some.inj (Tryz.func4.symm.trans hfn)).symm; refine ⟨by kernel_rfl, λj t ht => ?_⟩; rw [Tryz.params4] at ht
 have hm:t∈[9,5]:=by simpa using Array.mem_of_getElem? ht
 have hall:([9,5].all λu=> !Tryz.prog.wantsStandIn u)=true:=by kernel_rfl
 exact(show Tryz.prog.wantsStandIn t=false by simpa using List.all_eq_true.1 hall t hm)
theorem card_main:Tryz.pinned.checked.prog.mainIs=some (true,(Rows.inlineWhiteCard.stood.harness.2).toList):=by kernel_rfl
theorem card_goes:false=Rows.inlineWhiteRow.goesBy Tryz.pinned.checked.prog:=by kernel_rfl
end Go.Proofs.YthbpjmogdonlkaaGreatDoor
