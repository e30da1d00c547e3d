/- Walks, printed by a program (vcg.py, walks.py). -/
import Derived.Test.YtdaglbjgdakmcaaTy
import Derived.Test.YtdaglbjgdakmcaaEngR
import Derived.Test.YtdaglbjgdakmcaaPlain
import Derived.KernelRfl
import Derived.Test.YtdaglbjgdakmcaaWj
import Derived.Test.YtdaglbjgdakmcaaWn
import Derived.Test.YtdaglbjgdakmcaaLaw2
import Derived.Test.YtdaglbjgdakmcaaJn

set_option linter.unusedSimpArgs false
set_option linter.unusedVariables false
namespace Go.Proofs.Ytdaglbjgdakmcaa
open Go Go.Eng
set_option maxRecDepth 100000 in
set_option maxHeartbeats 2000000 in
theorem CondNames_to (s : ByteArray) (hs : s.size ≤ maxLen) : CallTo Try.prog 4 [(jS (s))] [] [] (jB true) [] [] := by
  obtain ⟨A, hA⟩ : ∃ A, (namesP s).1 = A := ⟨_, rfl⟩
  have hml := mlen A
  have hAl : A.length ≤ 4096 := by rw [← hA]; exact names_len s
  refine CallTo_of_body (n := 48) Try.func4 rfl (by kernel_rfl) Try.ntmps4 (by simp) (by simp) (by simp) (by simp [OkSV, SV.keys, ABox.svs, PV.keys]) (by simp [OkSV, SV.keys, ABox.svs, PV.keys]) (by simp [OkSV, SV.keys, ABox.svs, PV.keys]) (by simp [OkSV, SV.keys, ABox.svs, PV.keys]) rfl rfl ?_
  refine W_eq (sx 48 [(0, (jS (s)))] [] []) (by kernel_rfl) ?_
  refine W_seq ?_
  refine W_run (ors := []) (cs := [True]) (e := .normal) 48 [(0, (jS (s)))] [] [] (by kernel_rfl) (ak an) ?_
  show W _ _ _ _
  refine W_seq ?_
  rcases Bool.eq_false_or_eq_true ((!fewB (ByteArray.size (s)) (List.length ([] : List AV)))) with hb1 | hb1
  · have hb1n : fewB (ByteArray.size (s)) (List.length ([] : List AV)) = false := by simpa using hb1
    refine W_run (ors := [.c (jB (fewB (ByteArray.size (s)) (List.length ([] : List AV)))) [] [] [], .b true, .c (jB (true)) [] [] []]) (cs := [True, (CallTo Try.prog 8 [(jS (s)), (jL [])] [] [] (jB (fewB (ByteArray.size (s)) (List.length ([] : List AV)))) [] []), True, True, ((!fewB (ByteArray.size (s)) (List.length ([] : List AV))) = true), (CallTo Try.prog 9 [] [] [] (jB (true)) [] []), True, True]) (e := .ret) 48 [(2, (jB (true)))] [] [] (by kernel_rfl) (ak (ac (few_to _ _) (ak (ak (ac hb1 (ac awake_to (ak (ak an)))))))) ?_
    refine skipS ?_ (by simp)
    exact ends (r := (jB (true))) (by simp) (by kernel_rfl) rfl (by simp) (by simp)
  · have hb1n : fewB (ByteArray.size (s)) (List.length ([] : List AV)) = true := by simpa using hb1
    refine W_run (ors := [.c (jB (fewB (ByteArray.size (s)) (List.length ([] : List AV)))) [] [] [], .b false]) (cs := [True, (CallTo Try.prog 8 [(jS (s)), (jL [])] [] [] (jB (fewB (ByteArray.size (s)) (List.length ([] : List AV)))) [] []), True, True, ((!fewB (ByteArray.size (s)) (List.length ([] : List AV))) = false)]) (e := .normal) 48 [(0, (jS (s)))] [] [] (by kernel_rfl) (ak (ac (few_to _ _) (ak (ak (ac hb1 an))))) ?_
    show W _ _ _ _
    refine W_seq ?_
    refine W_run (ors := [.c (.av (.tup [(.sl (A.map strAV)), (vI ((namesP s).2))])) [] [] []]) (cs := [True, (CallTo Try.prog 12 [(jS (s))] [] [] (.av (.tup [(.sl (A.map strAV)), (vI ((namesP s).2))])) [] []), True, True, True, True, True, True]) (e := .normal) 48 [(0, (jS (s))), (3, (jL (A.map strAV))), (4, (jI ((namesP s).2)))] [] [] (by kernel_rfl) (ak (ac (by have h := Names_to s hs; rw [hA] at h; exact h) (ak (ak (ak (ak (ak (ak an)))))))) ?_
    show W _ _ _ _
    refine W_seq ?_
    refine W_run (ors := [.c (.av (.tup [(.sl (A.map strAV)), (vI ((namesP s).2))])) [] [] []]) (cs := [True, (CallTo Try.prog 13 [(jS (s))] [] [] (.av (.tup [(.sl (A.map strAV)), (vI ((namesP s).2))])) [] []), True, True, True, True, True, True]) (e := .normal) 48 [(3, (jL (A.map strAV))), (4, (jI ((namesP s).2))), (5, (jL (A.map strAV))), (6, (jI ((namesP s).2)))] [] [] (by kernel_rfl) (ak (ac (by have h := rNames_to s hs; rw [namesPR, hA] at h; exact h) (ak (ak (ak (ak (ak (ak an)))))))) ?_
    show W _ _ _ _
    refine W_seq ?_
    refine W_run (ors := [.b false, .b false, .b false, .b false, .b false, .b false, .b false]) (cs := [True, True, True, True, ((((namesP s).2 : Int) != (namesP s).2) = false), True, ((((namesP s).2 : Int) != (namesP s).2) = false), True, ((((namesP s).2 : Int) != (namesP s).2) = false), True, ((((namesP s).2 : Int) != (namesP s).2) = false), True, ((((namesP s).2 : Int) != (namesP s).2) = false), True, ((((namesP s).2 : Int) != (namesP s).2) = false), ((((((A.map strAV).length : Nat) : Int) : Int) != (((A.map strAV).length : Nat) : Int)) = false)]) (e := .normal) 48 [(3, (jL (A.map strAV))), (5, (jL (A.map strAV)))] [] [] (by kernel_rfl) (ak (ak (ak (ak (ac (bne_self_eq_false _) (ak (ac (bne_self_eq_false _) (ak (ac (bne_self_eq_false _) (ak (ac (bne_self_eq_false _) (ak (ac (bne_self_eq_false _) (ak (ac (bne_self_eq_false _) (ac (bne_self_eq_false _) an)))))))))))))))) ?_
    show W _ _ _ _
    refine W_seq ?_
    refine W_seq ?_
    refine W_run (ors := []) (cs := [True]) (e := .normal) 48 [(3, (jL (A.map strAV))), (5, (jL (A.map strAV))), (7, (jI (0)))] [] [] (by kernel_rfl) (ak an) ?_
    show W _ _ _ _
    refine W_block ?_
    refine W_loop (I := fun N S => ∃ i : Nat, (i ≤ A.length) ∧ N = A.length - i ∧ S = (sx 48 [(3, (jL (A.map strAV))), (5, (jL (A.map strAV))), (7, (jI (((i : Nat) : Int))))] [] [])) (n := A.length - (0)) (S0 := (sx 48 [(3, (jL (A.map strAV))), (5, (jL (A.map strAV))), (7, (jI ((((0) : Nat) : Int))))] [] [])) (weak_sx (show WkX _ _ _ from ⟨rfl, rfl, (by first | rfl | (congr 3; omega) | simp), trivial⟩) (show WkBx _ _ from trivial) (show WkG _ _ _ from trivial)) ⟨0, Nat.zero_le _, rfl, rfl⟩ ?_
    rintro N S ⟨i, hi, rfl, rfl⟩
    refine W_seq ?_
    rcases Bool.eq_false_or_eq_true (decide ((((i : Nat) : Int) : Int) < (((A.map strAV).length : Nat) : Int))) with hb2 | hb2
    · have hb2p := of_decide_eq_true hb2
      refine W_run (ors := [.b true]) (cs := [True, True, True, True, (decide ((((i : Nat) : Int) : Int) < (((A.map strAV).length : Nat) : Int)) = true)]) (e := .normal) 48 [(3, (jL (A.map strAV))), (5, (jL (A.map strAV))), (7, (jI (((i : Nat) : Int))))] [] [] (by kernel_rfl) (ak (ak (ak (ak (ac hb2 an))))) ?_
      show W _ _ _ _
      refine W_seq ?_
      refine W_block ?_
      refine W_seq ?_
      refine W_drewX [⟨[], none, (jL (A.map strAV)), none⟩, ⟨[], none, (jI (((i : Nat) : Int))), none⟩, ⟨[.e (vS (nth A (i)))], none, (.av (.ro [(vS (nth A (i)))] 0)), none⟩, ⟨[], none, (jS (nth A (i))), none⟩, ⟨[], none, (jL (A.map strAV)), none⟩, ⟨[], none, (jI (((i : Nat) : Int))), none⟩, ⟨[.e (vS (nth A (i)))], none, (.av (.ro [(vS (nth A (i)))] 0)), none⟩, ⟨[], none, (jS (nth A (i))), none⟩, ⟨[], none, (jB ((!eqs (nth A (i)) (nth A (i))))), none⟩] (cs := [True, ((((jL (A.map strAV)) : SV) = (jL (A.map strAV)) ∧ ((([], []) : BG) = ([], [])))), True, ((((jI (((i : Nat) : Int))) : SV) = (jI (((i : Nat) : Int))) ∧ ((([], []) : BG) = ([], [])))), (0 ≤ (((i : Nat) : Int) : Int) ∧ ((A.map strAV) : List AV)[i]? = some (vS (nth A (i)))), ((((.av (.ro [(vS (nth A (i)))] 0)) : SV) = (.av (.ro [(vS (nth A (i)))] 0)) ∧ ((([], []) : BG) = ([], [])))), True, ((((jS (nth A (i))) : SV) = (jS (nth A (i))) ∧ ((([], []) : BG) = ([], [])))), True, ((((jL (A.map strAV)) : SV) = (jL (A.map strAV)) ∧ ((([], []) : BG) = ([], [])))), True, ((((jI (((i : Nat) : Int))) : SV) = (jI (((i : Nat) : Int))) ∧ ((([], []) : BG) = ([], [])))), (0 ≤ (((i : Nat) : Int) : Int) ∧ ((A.map strAV) : List AV)[i]? = some (vS (nth A (i)))), ((((.av (.ro [(vS (nth A (i)))] 0)) : SV) = (.av (.ro [(vS (nth A (i)))] 0)) ∧ ((([], []) : BG) = ([], [])))), True, ((((jS (nth A (i))) : SV) = (jS (nth A (i))) ∧ ((([], []) : BG) = ([], [])))), True, ((((jB ((!eqs (nth A (i)) (nth A (i))))) : SV) = (jB ((!eqs (nth A (i)) (nth A (i))))) ∧ ((([], []) : BG) = ([], []))))]) 48 [(3, (jL (A.map strAV))), (5, (jL (A.map strAV))), (7, (jI (((i : Nat) : Int)))), (38, (jL (A.map strAV))), (39, (jI (((i : Nat) : Int)))), (40, (.av (.ro [(vS (nth A (i)))] 0))), (41, (jS (nth A (i)))), (42, (jL (A.map strAV))), (43, (jI (((i : Nat) : Int)))), (44, (.av (.ro [(vS (nth A (i)))] 0))), (45, (jS (nth A (i)))), (46, (jB ((!eqs (nth A (i)) (nth A (i))))))] [] [] (by kernel_rfl) (by kernel_rfl) (by kernel_rfl) (by kernel_rfl) (by kernel_rfl) (ak (ac ⟨rfl, rfl⟩ (ak (ac ⟨rfl, rfl⟩ (ac (nth_at (by assumption)) (ac ⟨rfl, rfl⟩ (ak (ac ⟨rfl, rfl⟩ (ak (ac ⟨rfl, rfl⟩ (ak (ac ⟨rfl, rfl⟩ (ac (nth_at (by assumption)) (ac ⟨rfl, rfl⟩ (ak (ac ⟨rfl, rfl⟩ (ak (ac ⟨rfl, rfl⟩ an)))))))))))))))))) ?_
      show W _ _ _ _
      refine W_run (ors := [.b false]) (cs := [((!eqs (nth A (i)) (nth A (i))) = false)]) (e := .normal) 48 [(3, (jL (A.map strAV))), (5, (jL (A.map strAV))), (7, (jI (((i : Nat) : Int)))), (38, (jL (A.map strAV))), (39, (jI (((i : Nat) : Int)))), (40, (.av (.ro [(vS (nth A (i)))] 0))), (41, (jS (nth A (i)))), (42, (jL (A.map strAV))), (43, (jI (((i : Nat) : Int)))), (44, (.av (.ro [(vS (nth A (i)))] 0))), (45, (jS (nth A (i)))), (46, (jB ((!eqs (nth A (i)) (nth A (i))))))] [] [] (by kernel_rfl) (ac (by rw [show eqs (nth A (i)) (nth A (i)) = true from (eqs_self _)]; rfl) an) ?_
      refine pass ?_ (by simp)
      show W _ _ _ _
      refine W_run (ors := [.n (((i + 1 : Nat) : Int))]) (cs := [True, (IntKind.i64.wrap ((((i : Nat) : Int)) + 1) = ((i + 1 : Nat) : Int)), True]) (e := .normal) 48 [(3, (jL (A.map strAV))), (5, (jL (A.map strAV))), (7, (jI (((i + 1 : Nat) : Int)))), (38, (jL (A.map strAV))), (39, (jI (((i : Nat) : Int)))), (40, (.av (.ro [(vS (nth A (i)))] 0))), (41, (jS (nth A (i)))), (42, (jL (A.map strAV))), (43, (jI (((i : Nat) : Int)))), (44, (.av (.ro [(vS (nth A (i)))] 0))), (45, (jS (nth A (i)))), (46, (jB ((!eqs (nth A (i)) (nth A (i))))))] [] [] (by kernel_rfl) (ak (ac (wrap_eq (by omega) (by omega) (by omega)) (ak an))) ?_
      exact ⟨A.length - (i + 1), (sx 48 [(3, (jL (A.map strAV))), (5, (jL (A.map strAV))), (7, (jI ((((i + 1) : Nat) : Int))))] [] []), by omega, (weak_sx (show WkX _ _ _ from ⟨rfl, rfl, (by first | rfl | (congr 3; omega) | simp), trivial⟩) (show WkBx _ _ from trivial) (show WkG _ _ _ from trivial)), ⟨i + 1, by omega, rfl, rfl⟩⟩
    · have hb2p := of_decide_eq_false hb2
      refine W_run (ors := [.b false]) (cs := [True, True, True, True, (decide ((((i : Nat) : Int) : Int) < (((A.map strAV).length : Nat) : Int)) = false)]) (e := (.exit 0)) 48 [] [] [] (by kernel_rfl) (ak (ak (ak (ak (ac hb2 an))))) ?_
      refine skipS ?_ (by simp)
      refine skipS ?_ (by simp)
      refine hit ?_
      show W _ _ _ _
      refine W_run (ors := [.c (jB (true)) [] [] []]) (cs := [(CallTo Try.prog 9 [] [] [] (jB (true)) [] []), True, True]) (e := .ret) 48 [(2, (jB (true)))] [] [] (by kernel_rfl) (ac awake_to (ak (ak an))) ?_
      exact ends (r := (jB (true))) (by simp) (by kernel_rfl) rfl (by simp) (by simp)

end Go.Proofs.Ytdaglbjgdakmcaa
