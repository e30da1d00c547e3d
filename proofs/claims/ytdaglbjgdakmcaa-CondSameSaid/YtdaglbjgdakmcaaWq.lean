/- Walks, printed by a program (vcg.py, walks.py). -/
import Derived.Test.YtdaglbjgdakmcaaTy
import Derived.Test.YtdaglbjgdakmcaaEngR
import Derived.Test.YtdaglbjgdakmcaaPlain
import Derived.KernelRfl
import Derived.Test.YtdaglbjgdakmcaaWj
import Derived.Test.YtdaglbjgdakmcaaLaw9
import Derived.Test.YtdaglbjgdakmcaaJn

set_option linter.unusedSimpArgs false
set_option linter.unusedVariables false
namespace Go.Proofs.Ytdaglbjgdakmcaa
open Go Go.Eng
theorem nv_lit {P : Program} {f : FuncId} {args : List SV} {v : ByteArray × Int} (w : ByteArray × Int) (h : CallTo P f args [] [] (.av (.tup [.val (.string v.1), .val (.int .i64 v.2)])) [] []) (hv : v = w) : CallTo P f args [] [] (.av (.tup [.val (.string w.1), .val (.int .i64 w.2)])) [] [] := by subst hv; exact h
theorem castp {p q : Prop} (h : p = q) (hp : p) : q := h ▸ hp
theorem ev_lit {P : Program} {f : FuncId} {args : List SV} {v : Bool × Int} (w : Bool × Int) (h : CallTo P f args [] [] (.av (.tup [.val (.bool v.1), .val (.int .i64 v.2)])) [] []) (hv : v = w) : CallTo P f args [] [] (.av (.tup [.val (.bool w.1), .val (.int .i64 w.2)])) [] [] := by subst hv; exact h

set_option maxRecDepth 100000 in
set_option maxHeartbeats 2000000 in
theorem CondSame_to (s : ByteArray) (hs : s.size ≤ maxLen) (fl : List ByteArray) (hfl : fl.length ≤ maxLen) : CallTo Try.prog 6 [(jS (s)), (jL (fl.map strAV))] [] [] (jB true) [] [] := by
  obtain ⟨A, hA⟩ : ∃ A, (namesP s).1 = A := ⟨_, rfl⟩
  have hml := mlen A
  have hAl : A.length ≤ 4096 := by rw [← hA]; exact names_len s
  refine CallTo_of_body (n := 101) Try.func6 rfl (by kernel_rfl) Try.ntmps6 (by simp) (by simp) (by simp) (by simp [OkSV, SV.keys, ABox.svs, PV.keys]) (by simp [OkSV, SV.keys, ABox.svs, PV.keys]) (by simp [OkSV, SV.keys, ABox.svs, PV.keys]) (by simp [OkSV, SV.keys, ABox.svs, PV.keys]) rfl rfl ?_
  refine W_eq (sx 101 [(0, (jS (s))), (1, (jL (fl.map strAV)))] [] []) (by kernel_rfl) ?_
  refine W_seq ?_
  refine W_run (ors := []) (cs := [True]) (e := .normal) 101 [(0, (jS (s))), (1, (jL (fl.map strAV)))] [] [] (by kernel_rfl) (ak an) ?_
  show W _ _ _ _
  refine W_seq ?_
  rcases Bool.eq_false_or_eq_true ((!fewB (ByteArray.size (s)) (List.length ((fl.map strAV) : List AV)))) with hb1 | hb1
  · have hb1n : fewB (ByteArray.size (s)) (List.length ((fl.map strAV) : List AV)) = false := by simpa using hb1
    refine W_run (ors := [.c (jB (fewB (ByteArray.size (s)) (List.length ((fl.map strAV) : List AV)))) [] [] [], .b true, .c (jB (true)) [] [] []]) (cs := [True, True, (CallTo Try.prog 8 [(jS (s)), (jL (fl.map strAV))] [] [] (jB (fewB (ByteArray.size (s)) (List.length ((fl.map strAV) : List AV)))) [] []), True, True, ((!fewB (ByteArray.size (s)) (List.length ((fl.map strAV) : List AV))) = true), (CallTo Try.prog 9 [] [] [] (jB (true)) [] []), True, True]) (e := .ret) 101 [(4, (jB (true)))] [] [] (by kernel_rfl) (ak (ak (ac (few_to _ _) (ak (ak (ac hb1 (ac awake_to (ak (ak an))))))))) ?_
    refine skipS ?_ (by simp)
    exact ends (r := (jB (true))) (by simp) (by kernel_rfl) rfl (by simp) (by simp)
  · have hb1n : fewB (ByteArray.size (s)) (List.length ((fl.map strAV) : List AV)) = true := by simpa using hb1
    have hs6 := (few_of hb1n).1
    refine W_run (ors := [.c (jB (fewB (ByteArray.size (s)) (List.length ((fl.map strAV) : List AV)))) [] [] [], .b false]) (cs := [True, True, (CallTo Try.prog 8 [(jS (s)), (jL (fl.map strAV))] [] [] (jB (fewB (ByteArray.size (s)) (List.length ((fl.map strAV) : List AV)))) [] []), True, True, ((!fewB (ByteArray.size (s)) (List.length ((fl.map strAV) : List AV))) = false)]) (e := .normal) 101 [(0, (jS (s))), (1, (jL (fl.map strAV)))] [] [] (by kernel_rfl) (ak (ak (ac (few_to _ _) (ak (ak (ac hb1 an)))))) ?_
    show W _ _ _ _
    refine W_seq ?_
    refine W_run (ors := [.c (.av (.tup [(vS ((normP s).1)), (vI ((normP s).2))])) [] [] []]) (cs := [True, (CallTo Try.prog 14 [(jS (s))] [] [] (.av (.tup [(vS ((normP s).1)), (vI ((normP s).2))])) [] []), True, True, True, True, True, True]) (e := .normal) 101 [(0, (jS (s))), (1, (jL (fl.map strAV))), (5, (jS ((normP s).1))), (6, (jI ((normP s).2)))] [] [] (by kernel_rfl) (ak (ac (Normal_to s hs) (ak (ak (ak (ak (ak (ak an)))))))) ?_
    show W _ _ _ _
    refine W_seq ?_
    rcases Bool.eq_false_or_eq_true ((((normP s).2 : Int) != 0)) with hb2 | hb2
    · have hb2p := bne_iff_ne.1 hb2
      have hbad := same_bad hb2p
      rcases Bool.eq_false_or_eq_true (eqs ((normP s).1) (⟨#[]⟩)) with hb3 | hb3
      · refine W_run (ors := [.b true, .b true, .c (jB (true)) [] [] [], .b true]) (cs := [True, True, ((((normP s).2 : Int) != 0) = true), True, True, True, (eqs ((normP s).1) (⟨#[]⟩) = true), (CallTo Try.prog 9 [] [] [] (jB (true)) [] []), True, (eqs ((normP s).1) (⟨#[]⟩) = true), True]) (e := .ret) 101 [(4, (jB (true)))] [] [] (by kernel_rfl) (ak (ak (ac hb2 (ak (ak (ak (ac hb3 (ac awake_to (ak (ac hb3 (ak an))))))))))) ?_
        refine skipS ?_ (by simp)
        exact ends (r := (jB (true))) (by simp) (by kernel_rfl) rfl (by simp) (by simp)
      · refine W_run (ors := [.b true, .b false, .b false]) (cs := [True, True, ((((normP s).2 : Int) != 0) = true), True, True, True, (eqs ((normP s).1) (⟨#[]⟩) = false), (eqs ((normP s).1) (⟨#[]⟩) = false), True]) (e := .ret) 101 [(4, (jB (false)))] [] [] (by kernel_rfl) (ak (ak (ac hb2 (ak (ak (ak (ac hb3 (ac hb3 (ak an))))))))) ?_
        refine skipS ?_ (by simp)
        exact ends (r := (jB (false))) (by simp) (by kernel_rfl) (absurd hb3 (by rw [hbad]; decide)) (by simp) (by simp)
    · have hb2p := eq_of_bne_false hb2
      obtain ⟨hN1, hSn, hSe, hSm⟩ := same_all hs6 hb2p fl
      have hN : (normP s).1.size ≤ maxLen := le_max hN1 (by omega)
      refine W_run (ors := [.b false]) (cs := [True, True, ((((normP s).2 : Int) != 0) = false)]) (e := .normal) 101 [(0, (jS (s))), (1, (jL (fl.map strAV))), (5, (jS ((normP s).1)))] [] [] (by kernel_rfl) (ak (ak (ac hb2 an))) ?_
      show W _ _ _ _
      refine W_seq ?_
      refine W_run (ors := [.c (.av (.tup [(vS ((normP s).1)), (vI (0))])) [] [] []]) (cs := [True, (CallTo Try.prog 14 [(jS ((normP s).1))] [] [] (.av (.tup [(vS ((normP s).1)), (vI (0))])) [] []), True, True, True, True, True, True]) (e := .normal) 101 [(0, (jS (s))), (1, (jL (fl.map strAV))), (5, (jS ((normP s).1))), (7, (jS ((normP s).1))), (8, (jI (0)))] [] [] (by kernel_rfl) (ak (ac (castp (by kernel_rfl) (nv_lit ((normP s).1, 0) (Normal_to ((normP s).1) hN) hSn)) (ak (ak (ak (ak (ak (ak an)))))))) ?_
      show W _ _ _ _
      refine W_seq ?_
      refine W_run (ors := [.c (.av (.tup [(vB ((evalP s fl).1)), (vI ((evalP s fl).2))])) [] [] []]) (cs := [True, True, (CallTo Try.prog 10 [(jS (s)), (jL (fl.map strAV))] [] [] (.av (.tup [(vB ((evalP s fl).1)), (vI ((evalP s fl).2))])) [] []), True, True, True, True, True, True]) (e := .normal) 101 [(0, (jS (s))), (1, (jL (fl.map strAV))), (5, (jS ((normP s).1))), (7, (jS ((normP s).1))), (8, (jI (0))), (9, (jB ((evalP s fl).1)))] [] [] (by kernel_rfl) (ak (ak (ac (Eval_to s hs fl hfl) (ak (ak (ak (ak (ak (ak an))))))))) ?_
      show W _ _ _ _
      refine W_seq ?_
      refine W_run (ors := [.c (.av (.tup [(vB ((evalP s fl).1)), (vI (0))])) [] [] []]) (cs := [True, True, (CallTo Try.prog 10 [(jS ((normP s).1)), (jL (fl.map strAV))] [] [] (.av (.tup [(vB ((evalP s fl).1)), (vI (0))])) [] []), True, True, True, True, True, True]) (e := .normal) 101 [(0, (jS (s))), (5, (jS ((normP s).1))), (7, (jS ((normP s).1))), (8, (jI (0))), (9, (jB ((evalP s fl).1))), (11, (jB ((evalP s fl).1))), (12, (jI (0)))] [] [] (by kernel_rfl) (ak (ak (ac (castp (by kernel_rfl) (ev_lit ((evalP s fl).1, 0) (Eval_to ((normP s).1) hN fl hfl) hSe)) (ak (ak (ak (ak (ak (ak an))))))))) ?_
      show W _ _ _ _
      refine W_seq ?_
      refine W_run (ors := [.c (.av (.tup [(.sl (A.map strAV)), (vI ((namesP s).2))])) [] [] []]) (cs := [True, (CallTo Try.prog 12 [(jS (s))] [] [] (.av (.tup [(.sl (A.map strAV)), (vI ((namesP s).2))])) [] []), True, True, True, True, True, True]) (e := .normal) 101 [(5, (jS ((normP s).1))), (7, (jS ((normP s).1))), (8, (jI (0))), (9, (jB ((evalP s fl).1))), (11, (jB ((evalP s fl).1))), (12, (jI (0))), (13, (jL (A.map strAV)))] [] [] (by kernel_rfl) (ak (ac (by have h := Names_to s hs; rw [hA] at h; exact h) (ak (ak (ak (ak (ak (ak an)))))))) ?_
      show W _ _ _ _
      refine W_seq ?_
      refine W_run (ors := [.c (.av (.tup [(.sl (A.map strAV)), (vI ((namesP s).2))])) [] [] []]) (cs := [True, (CallTo Try.prog 12 [(jS ((normP s).1))] [] [] (.av (.tup [(.sl (A.map strAV)), (vI ((namesP s).2))])) [] []), True, True, True, True, True, True]) (e := .normal) 101 [(5, (jS ((normP s).1))), (7, (jS ((normP s).1))), (8, (jI (0))), (9, (jB ((evalP s fl).1))), (11, (jB ((evalP s fl).1))), (12, (jI (0))), (13, (jL (A.map strAV))), (15, (jL (A.map strAV)))] [] [] (by kernel_rfl) (ak (ac (by have h := Names_to ((normP s).1) hN; rw [hSm, hA] at h; exact h) (ak (ak (ak (ak (ak (ak an)))))))) ?_
      show W _ _ _ _
      refine W_seq ?_
      refine W_run (ors := [.b false, .b false, .b false, .b false, .b false, .b false, .b false, .b false, .b false, .b false, .b false, .b false, .b false, .b false, .b false, .b false, .b false, .b false]) (cs := [True, True, True, (false = false), True, (false = false), True, (false = false), True, (false = false), True, ((!eqs ((normP s).1) ((normP s).1)) = false), True, ((!eqs ((normP s).1) ((normP s).1)) = false), True, ((!eqs ((normP s).1) ((normP s).1)) = false), True, (false = false), True, (false = false), True, (false = false), True, (false = false), True, (((evalP s fl).1 != (evalP s fl).1) = false), True, (((evalP s fl).1 != (evalP s fl).1) = false), True, (((evalP s fl).1 != (evalP s fl).1) = false), True, (((evalP s fl).1 != (evalP s fl).1) = false), True, (((evalP s fl).1 != (evalP s fl).1) = false), True, (((evalP s fl).1 != (evalP s fl).1) = false), ((((((A.map strAV).length : Nat) : Int) : Int) != (((A.map strAV).length : Nat) : Int)) = false)]) (e := .normal) 101 [(13, (jL (A.map strAV))), (15, (jL (A.map strAV)))] [] [] (by kernel_rfl) (ak (ak (ak (ac rfl (ak (ac rfl (ak (ac rfl (ak (ac rfl (ak (ac (by rw [show eqs ((normP s).1) ((normP s).1) = true from (eqs_self _)]; rfl) (ak (ac (by rw [show eqs ((normP s).1) ((normP s).1) = true from (eqs_self _)]; rfl) (ak (ac (by rw [show eqs ((normP s).1) ((normP s).1) = true from (eqs_self _)]; rfl) (ak (ac rfl (ak (ac rfl (ak (ac rfl (ak (ac rfl (ak (ac (bne_self_eq_false _) (ak (ac (bne_self_eq_false _) (ak (ac (bne_self_eq_false _) (ak (ac (bne_self_eq_false _) (ak (ac (bne_self_eq_false _) (ak (ac (bne_self_eq_false _) (ac (bne_self_eq_false _) an))))))))))))))))))))))))))))))))))))) ?_
      show W _ _ _ _
      refine W_seq ?_
      refine W_seq ?_
      refine W_run (ors := []) (cs := [True]) (e := .normal) 101 [(13, (jL (A.map strAV))), (15, (jL (A.map strAV))), (17, (jI (0)))] [] [] (by kernel_rfl) (ak an) ?_
      show W _ _ _ _
      refine W_block ?_
      refine W_loop (I := fun N S => ∃ i : Nat, (i ≤ A.length) ∧ N = A.length - i ∧ S = (sx 101 [(13, (jL (A.map strAV))), (15, (jL (A.map strAV))), (17, (jI (((i : Nat) : Int))))] [] [])) (n := A.length - (0)) (S0 := (sx 101 [(13, (jL (A.map strAV))), (15, (jL (A.map strAV))), (17, (jI ((((0) : Nat) : Int))))] [] [])) (weak_sx (show WkX _ _ _ from ⟨rfl, rfl, (by first | rfl | (congr 3; omega) | simp), trivial⟩) (show WkBx _ _ from trivial) (show WkG _ _ _ from trivial)) ⟨0, Nat.zero_le _, rfl, rfl⟩ ?_
      rintro N S ⟨i, hi, rfl, rfl⟩
      refine W_seq ?_
      rcases Bool.eq_false_or_eq_true (decide ((((i : Nat) : Int) : Int) < (((A.map strAV).length : Nat) : Int))) with hb4 | hb4
      · have hb4p := of_decide_eq_true hb4
        refine W_run (ors := [.b true]) (cs := [True, True, True, True, (decide ((((i : Nat) : Int) : Int) < (((A.map strAV).length : Nat) : Int)) = true)]) (e := .normal) 101 [(13, (jL (A.map strAV))), (15, (jL (A.map strAV))), (17, (jI (((i : Nat) : Int))))] [] [] (by kernel_rfl) (ak (ak (ak (ak (ac hb4 an))))) ?_
        show W _ _ _ _
        refine W_seq ?_
        refine W_block ?_
        refine W_seq ?_
        refine W_drewX [⟨[], none, (jL (A.map strAV)), none⟩, ⟨[], none, (jI (((i : Nat) : Int))), none⟩, ⟨[.e (vS (nth A (i)))], none, (.av (.ro [(vS (nth A (i)))] 0)), none⟩, ⟨[], none, (jS (nth A (i))), none⟩, ⟨[], none, (jL (A.map strAV)), none⟩, ⟨[], none, (jI (((i : Nat) : Int))), none⟩, ⟨[.e (vS (nth A (i)))], none, (.av (.ro [(vS (nth A (i)))] 0)), none⟩, ⟨[], none, (jS (nth A (i))), none⟩, ⟨[], none, (jB ((!eqs (nth A (i)) (nth A (i))))), none⟩] (cs := [True, ((((jL (A.map strAV)) : SV) = (jL (A.map strAV)) ∧ ((([], []) : BG) = ([], [])))), True, ((((jI (((i : Nat) : Int))) : SV) = (jI (((i : Nat) : Int))) ∧ ((([], []) : BG) = ([], [])))), (0 ≤ (((i : Nat) : Int) : Int) ∧ ((A.map strAV) : List AV)[i]? = some (vS (nth A (i)))), ((((.av (.ro [(vS (nth A (i)))] 0)) : SV) = (.av (.ro [(vS (nth A (i)))] 0)) ∧ ((([], []) : BG) = ([], [])))), True, ((((jS (nth A (i))) : SV) = (jS (nth A (i))) ∧ ((([], []) : BG) = ([], [])))), True, ((((jL (A.map strAV)) : SV) = (jL (A.map strAV)) ∧ ((([], []) : BG) = ([], [])))), True, ((((jI (((i : Nat) : Int))) : SV) = (jI (((i : Nat) : Int))) ∧ ((([], []) : BG) = ([], [])))), (0 ≤ (((i : Nat) : Int) : Int) ∧ ((A.map strAV) : List AV)[i]? = some (vS (nth A (i)))), ((((.av (.ro [(vS (nth A (i)))] 0)) : SV) = (.av (.ro [(vS (nth A (i)))] 0)) ∧ ((([], []) : BG) = ([], [])))), True, ((((jS (nth A (i))) : SV) = (jS (nth A (i))) ∧ ((([], []) : BG) = ([], [])))), True, ((((jB ((!eqs (nth A (i)) (nth A (i))))) : SV) = (jB ((!eqs (nth A (i)) (nth A (i))))) ∧ ((([], []) : BG) = ([], []))))]) 101 [(13, (jL (A.map strAV))), (15, (jL (A.map strAV))), (17, (jI (((i : Nat) : Int)))), (91, (jL (A.map strAV))), (92, (jI (((i : Nat) : Int)))), (93, (.av (.ro [(vS (nth A (i)))] 0))), (94, (jS (nth A (i)))), (95, (jL (A.map strAV))), (96, (jI (((i : Nat) : Int)))), (97, (.av (.ro [(vS (nth A (i)))] 0))), (98, (jS (nth A (i)))), (99, (jB ((!eqs (nth A (i)) (nth A (i))))))] [] [] (by kernel_rfl) (by kernel_rfl) (by kernel_rfl) (by kernel_rfl) (by kernel_rfl) (ak (ac ⟨rfl, rfl⟩ (ak (ac ⟨rfl, rfl⟩ (ac (nth_at (by assumption)) (ac ⟨rfl, rfl⟩ (ak (ac ⟨rfl, rfl⟩ (ak (ac ⟨rfl, rfl⟩ (ak (ac ⟨rfl, rfl⟩ (ac (nth_at (by assumption)) (ac ⟨rfl, rfl⟩ (ak (ac ⟨rfl, rfl⟩ (ak (ac ⟨rfl, rfl⟩ an)))))))))))))))))) ?_
        show W _ _ _ _
        refine W_run (ors := [.b false]) (cs := [((!eqs (nth A (i)) (nth A (i))) = false)]) (e := .normal) 101 [(13, (jL (A.map strAV))), (15, (jL (A.map strAV))), (17, (jI (((i : Nat) : Int)))), (91, (jL (A.map strAV))), (92, (jI (((i : Nat) : Int)))), (93, (.av (.ro [(vS (nth A (i)))] 0))), (94, (jS (nth A (i)))), (95, (jL (A.map strAV))), (96, (jI (((i : Nat) : Int)))), (97, (.av (.ro [(vS (nth A (i)))] 0))), (98, (jS (nth A (i)))), (99, (jB ((!eqs (nth A (i)) (nth A (i))))))] [] [] (by kernel_rfl) (ac (by rw [show eqs (nth A (i)) (nth A (i)) = true from (eqs_self _)]; rfl) an) ?_
        refine pass ?_ (by simp)
        show W _ _ _ _
        refine W_run (ors := [.n (((i + 1 : Nat) : Int))]) (cs := [True, (IntKind.i64.wrap ((((i : Nat) : Int)) + 1) = ((i + 1 : Nat) : Int)), True]) (e := .normal) 101 [(13, (jL (A.map strAV))), (15, (jL (A.map strAV))), (17, (jI (((i + 1 : Nat) : Int)))), (91, (jL (A.map strAV))), (92, (jI (((i : Nat) : Int)))), (93, (.av (.ro [(vS (nth A (i)))] 0))), (94, (jS (nth A (i)))), (95, (jL (A.map strAV))), (96, (jI (((i : Nat) : Int)))), (97, (.av (.ro [(vS (nth A (i)))] 0))), (98, (jS (nth A (i)))), (99, (jB ((!eqs (nth A (i)) (nth A (i))))))] [] [] (by kernel_rfl) (ak (ac (wrap_eq (by omega) (by omega) (by omega)) (ak an))) ?_
        exact ⟨A.length - (i + 1), (sx 101 [(13, (jL (A.map strAV))), (15, (jL (A.map strAV))), (17, (jI ((((i + 1) : Nat) : Int))))] [] []), by omega, (weak_sx (show WkX _ _ _ from ⟨rfl, rfl, (by first | rfl | (congr 3; omega) | simp), trivial⟩) (show WkBx _ _ from trivial) (show WkG _ _ _ from trivial)), ⟨i + 1, by omega, rfl, rfl⟩⟩
      · have hb4p := of_decide_eq_false hb4
        refine W_run (ors := [.b false]) (cs := [True, True, True, True, (decide ((((i : Nat) : Int) : Int) < (((A.map strAV).length : Nat) : Int)) = false)]) (e := (.exit 0)) 101 [] [] [] (by kernel_rfl) (ak (ak (ak (ak (ac hb4 an))))) ?_
        refine skipS ?_ (by simp)
        refine skipS ?_ (by simp)
        refine hit ?_
        show W _ _ _ _
        refine W_run (ors := [.c (jB (true)) [] [] []]) (cs := [(CallTo Try.prog 9 [] [] [] (jB (true)) [] []), True, True]) (e := .ret) 101 [(4, (jB (true)))] [] [] (by kernel_rfl) (ac awake_to (ak (ak an))) ?_
        exact ends (r := (jB (true))) (by simp) (by kernel_rfl) rfl (by simp) (by simp)

end Go.Proofs.Ytdaglbjgdakmcaa
