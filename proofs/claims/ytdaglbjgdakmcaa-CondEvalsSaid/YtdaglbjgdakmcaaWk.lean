/- Walks, printed by a program (vcg.py, walks.py). -/
import Derived.Test.YtdaglbjgdakmcaaTy
import Derived.Test.YtdaglbjgdakmcaaEngR
import Derived.Test.YtdaglbjgdakmcaaPlain
import Derived.KernelRfl
import Derived.Test.YtdaglbjgdakmcaaWj
import Derived.Test.YtdaglbjgdakmcaaWe
import Derived.Test.YtdaglbjgdakmcaaLaw2
import Derived.Test.YtdaglbjgdakmcaaJn

set_option linter.unusedSimpArgs false
set_option linter.unusedVariables false
namespace Go.Proofs.Ytdaglbjgdakmcaa
open Go Go.Eng
set_option maxRecDepth 100000 in
set_option maxHeartbeats 2000000 in
theorem CondEvals_to (s : ByteArray) (hs : s.size ≤ maxLen) (fl : List ByteArray) (hfl : fl.length ≤ maxLen) : CallTo Try.prog 3 [(jS (s)), (jL (fl.map strAV))] [] [] (jB true) [] [] := by
  refine CallTo_of_body (n := 37) Try.func3 rfl (by kernel_rfl) Try.ntmps3 (by simp) (by simp) (by simp) (by simp [OkSV, SV.keys, ABox.svs, PV.keys]) (by simp [OkSV, SV.keys, ABox.svs, PV.keys]) (by simp [OkSV, SV.keys, ABox.svs, PV.keys]) (by simp [OkSV, SV.keys, ABox.svs, PV.keys]) rfl rfl ?_
  refine W_eq (sx 37 [(0, (jS (s))), (1, (jL (fl.map strAV)))] [] []) (by kernel_rfl) ?_
  rcases Bool.eq_false_or_eq_true ((!fewB (ByteArray.size (s)) (List.length ((fl.map strAV) : List AV)))) with hb1 | hb1
  · have hb1n : fewB (ByteArray.size (s)) (List.length ((fl.map strAV) : List AV)) = false := by simpa using hb1
    refine W_run (ors := [.c (jB (fewB (ByteArray.size (s)) (List.length ((fl.map strAV) : List AV)))) [] [] [], .b true, .c (jB (true)) [] [] []]) (cs := [True, True, True, (CallTo Try.prog 8 [(jS (s)), (jL (fl.map strAV))] [] [] (jB (fewB (ByteArray.size (s)) (List.length ((fl.map strAV) : List AV)))) [] []), True, True, ((!fewB (ByteArray.size (s)) (List.length ((fl.map strAV) : List AV))) = true), (CallTo Try.prog 9 [] [] [] (jB (true)) [] []), True, True]) (e := .ret) 37 [(4, (jB (true)))] [] [] (by kernel_rfl) (ak (ak (ak (ac (few_to _ _) (ak (ak (ac hb1 (ac awake_to (ak (ak an)))))))))) ?_
    exact ends (r := (jB (true))) (by simp) (by kernel_rfl) rfl (by simp) (by simp)
  · have hb1n : fewB (ByteArray.size (s)) (List.length ((fl.map strAV) : List AV)) = true := by simpa using hb1
    refine W_run (ors := [.c (jB (fewB (ByteArray.size (s)) (List.length ((fl.map strAV) : List AV)))) [] [] [], .b false, .c (.av (.tup [(vB ((evalP (s) fl).1)), (vI ((evalP (s) fl).2))])) [] [] [], .c (.av (.tup [(vB ((evalP (s) fl).1)), (vI ((evalP (s) fl).2))])) [] [] [], .b true, .b true, .b true, .b true, .b true, .c (jB (true)) [] [] [], .b true]) (cs := (True :: True :: True :: (CallTo Try.prog 8 [(jS (s)), (jL (fl.map strAV))] [] [] (jB (fewB (ByteArray.size (s)) (List.length ((fl.map strAV) : List AV)))) [] []) :: True :: True :: ((!fewB (ByteArray.size (s)) (List.length ((fl.map strAV) : List AV))) = false) :: True :: True :: (CallTo Try.prog 10 [(jS (s)), (jL (fl.map strAV))] [] [] (.av (.tup [(vB ((evalP (s) fl).1)), (vI ((evalP (s) fl).2))])) [] []) :: True :: True :: True :: True :: True :: True :: True :: True :: (CallTo Try.prog 11 [(jS (s)), (jL (fl.map strAV))] [] [] (.av (.tup [(vB ((evalP (s) fl).1)), (vI ((evalP (s) fl).2))])) [] []) :: True :: True :: True :: True :: True :: True :: True :: True :: True :: True :: (((evalP (s) fl).1 == (evalP (s) fl).1) = true) :: True :: (((evalP (s) fl).1 == (evalP (s) fl).1) = true) :: True :: (((evalP (s) fl).1 == (evalP (s) fl).1) = true) :: True :: (((evalP (s) fl).1 == (evalP (s) fl).1) = true) :: True :: ((((evalP (s) fl).2 : Int) == (evalP (s) fl).2) = true) :: (CallTo Try.prog 9 [] [] [] (jB (true)) [] []) :: True :: ((((evalP (s) fl).2 : Int) == (evalP (s) fl).2) = true) :: True :: [])) (e := .ret) 37 [(4, (jB (true)))] [] [] (by kernel_rfl) (ak (ak (ak (ac (few_to _ _) (ak (ak (ac hb1 (ak (ak (ac (Eval_to (s) (by first | assumption | omega) fl hfl) (ak (ak (ak (ak (ak (ak (ak (ak (ac (by have h := rEval_to (s) hs fl hfl; rw [evalPR] at h; exact h) (ak (ak (ak (ak (ak (ak (ak (ak (ak (ak (ac (beq_self_eq_true _) (ak (ac (beq_self_eq_true _) (ak (ac (beq_self_eq_true _) (ak (ac (beq_self_eq_true _) (ak (ac (beq_self_eq_true _) (ac awake_to (ak (ac (beq_self_eq_true _) (ak an)))))))))))))))))))))))))))))))))))))))))) ?_
    exact ends (r := (jB (true))) (by simp) (by kernel_rfl) rfl (by simp) (by simp)

end Go.Proofs.Ytdaglbjgdakmcaa
