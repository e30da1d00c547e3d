/- Texts joined by a program (merge.py). -/
import Derived.Test.YthbpjmogdonlkaaGreatDoorMll
set_option linter.unusedSimpArgs false
set_option linter.unusedVariables false
namespace Go.Proofs.YthbpjmogdonlkaaGreatDoor
open Go Go.Eng Go.ChangeShapes Go.WideShapes Go.ChangeAt Go.RowKit Go.ChangeMaps
theorem in_plain (f : FuncId) (fn : Func) (hf : Tryz.pinned.checked.prog.funcNamed "publisher/publisherlaw11.InlineLinks" = some f) (hfn : Tryz.pinned.checked.prog.funcs[f]? = some fn) :
  true=Tryz.pinned.checked.prog.looks []/\∀(j:Nat) t,fn.params[j]? =some t->Tryz.pinned.checked.prog.wantsStandIn t=false:=by
 obtain rfl : f = 5 := Option.some.inj ((show Tryz.prog.funcNamed "publisher/publisherlaw11.InlineLinks" = some 5 by kernel_rfl).symm.trans hf) |>.symm; obtain rfl : fn = Tryz.f5 := (Option.some.inj (Tryz.func5.symm.trans hfn)).symm; refine ⟨by kernel_rfl, λj t ht => ?_⟩; rw [Tryz.params5] at ht
 have hm:t∈[9,9,9]:=by simpa using Array.mem_of_getElem? ht
 have hall:([9,9,9].all λu=> !Tryz.prog.wantsStandIn u)=true:=by kernel_rfl
 exact(show Tryz.prog.wantsStandIn t=false by simpa using List.all_eq_true.1 hall t hm)
theorem card_main:Tryz.pinned.checked.prog.mainIs=some (true,(Rows.inlineLinksCard.stood.harness.2).toList):=by kernel_rfl
theorem card_goes:false=Rows.inlineLinksRow.goesBy Tryz.pinned.checked.prog:=by kernel_rfl
end Go.Proofs.YthbpjmogdonlkaaGreatDoor
