/- Walks, printed by a program (vcg.py, walks.py). -/
import Derived.Test.YtdaglbjgdakmcaaTy
import Derived.Test.YtdaglbjgdakmcaaEngR
import Derived.Test.YtdaglbjgdakmcaaPlain
import Derived.KernelRfl
import Derived.Test.YtdaglbjgdakmcaaWd
import Derived.Test.YtdaglbjgdakmcaaRefC

set_option linter.unusedSimpArgs false
set_option linter.unusedVariables false
namespace Go.Proofs.Ytdaglbjgdakmcaa
open Go Go.Eng
set_option maxRecDepth 100000 in
set_option maxHeartbeats 2000000 in
theorem rEval_to (s : ByteArray) (hs : s.size ≤ maxLen) (fl : List ByteArray) (hfl : fl.length ≤ maxLen) : CallTo Try.prog 11 [(jS (s)), (jL (fl.map strAV))] [] [] (.av (.tup [.val (.bool (evalR s fl).1), .val (.int .i64 (evalR s fl).2)])) [] [] := by
  refine CallTo_of_body (n := 19) Try.func11 rfl (by kernel_rfl) Try.ntmps11 (by simp) (by simp) (by simp) (by simp [OkSV, SV.keys, ABox.svs, PV.keys]) (by simp [OkSV, SV.keys, ABox.svs, PV.keys]) (by simp [OkSV, SV.keys, ABox.svs, PV.keys]) (by simp [OkSV, SV.keys, ABox.svs, PV.keys]) rfl rfl ?_
  refine W_eq (sx 19 [(0, (jS (s))), (1, (jL (fl.map strAV)))] [] []) (by kernel_rfl) ?_
  rcases Bool.eq_false_or_eq_true ((((readR (s)).2 : Int) != 0)) with hb1 | hb1
  · have hb1p := bne_iff_ne.1 hb1
    refine W_run (ors := [.c (.av (.tup [(.agg [(vI (Nd.kind ((readR (s)).1))), (vS (Nd.name ((readR (s)).1))), (.sl (av2 (Nd.kids ((readR (s)).1))))]), (vI ((readR (s)).2))])) [] [] [], .b true]) (cs := [True, True, True, (CallTo Try.prog 19 [(jS (s))] [] [] (.av (.tup [(.agg [(vI (Nd.kind ((readR (s)).1))), (vS (Nd.name ((readR (s)).1))), (.sl (av2 (Nd.kids ((readR (s)).1))))]), (vI ((readR (s)).2))])) [] []), True, True, True, True, True, True, True, True, True, ((((readR (s)).2 : Int) != 0) = true), True, True, True]) (e := .ret) 19 [(4, (jB (false))), (5, (jI ((readR (s)).2)))] [(6, (.cells 44 [(jI (Nd.kind ((readR (s)).1))), (jS (Nd.name ((readR (s)).1))), (jL (av2 (Nd.kids ((readR (s)).1))))]))] [] (by kernel_rfl) (ak (ak (ak (ac (Read_to (s) (by assumption)) (ak (ak (ak (ak (ak (ak (ak (ak (ak (ac hb1 (ak (ak (ak an))))))))))))))))) ?_
    exact ends (r := (.av (.tup [(vB (false)), (vI ((readR (s)).2))]))) (by simp) (by kernel_rfl) (by rw [evalR]; first | (rw [if_pos (by assumption)]; done) | (rw [if_neg (by assumption)]; done)) (by simp) (by simp)
  · have hb1p := eq_of_bne_false hb1
    refine W_run (ors := [.c (.av (.tup [(.agg [(vI (Nd.kind ((readR (s)).1))), (vS (Nd.name ((readR (s)).1))), (.sl (av2 (Nd.kids ((readR (s)).1))))]), (vI ((readR (s)).2))])) [] [] [], .b false, .c (jB (valR fl ((readR (s)).1))) [] [] []]) (cs := [True, True, True, (CallTo Try.prog 19 [(jS (s))] [] [] (.av (.tup [(.agg [(vI (Nd.kind ((readR (s)).1))), (vS (Nd.name ((readR (s)).1))), (.sl (av2 (Nd.kids ((readR (s)).1))))]), (vI ((readR (s)).2))])) [] []), True, True, True, True, True, True, True, True, True, ((((readR (s)).2 : Int) != 0) = false), True, True, (CallTo Try.prog 20 [(.av (.agg [(vI (Nd.kind ((readR (s)).1))), (vS (Nd.name ((readR (s)).1))), (.sl (av2 (Nd.kids ((readR (s)).1))))])), (jL (fl.map strAV))] [] [] (jB (valR fl ((readR (s)).1))) [] []), True, True, True]) (e := .ret) 19 [(4, (jB (valR fl ((readR (s)).1)))), (5, (jI (0)))] [(6, (.cells 44 [(jI (Nd.kind ((readR (s)).1))), (jS (Nd.name ((readR (s)).1))), (jL (av2 (Nd.kids ((readR (s)).1))))]))] [] (by kernel_rfl) (ak (ak (ak (ac (Read_to (s) (by assumption)) (ak (ak (ak (ak (ak (ak (ak (ak (ak (ac hb1 (ak (ak (ac (valueR_to fl hfl _ (ok_readR s)) (ak (ak (ak an)))))))))))))))))))) ?_
    exact ends (r := (.av (.tup [(vB (valR fl ((readR (s)).1))), (vI (0))]))) (by simp) (by kernel_rfl) (by rw [evalR]; first | (rw [if_pos (by assumption)]; done) | (rw [if_neg (by assumption)]; done)) (by simp) (by simp)

end Go.Proofs.Ytdaglbjgdakmcaa
