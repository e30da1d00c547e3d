/- Walks, printed by a program (vcg.py, walks.py). -/
import Derived.Test.YtdaglbjgdakmcaaTy
import Derived.Test.YtdaglbjgdakmcaaEngR
import Derived.Test.YtdaglbjgdakmcaaPlain
import Derived.KernelRfl
import Derived.Test.YtdaglbjgdakmcaaWj
import Derived.Test.YtdaglbjgdakmcaaWo
import Derived.Test.YtdaglbjgdakmcaaLaw3
import Derived.Test.YtdaglbjgdakmcaaJn

set_option linter.unusedSimpArgs false
set_option linter.unusedVariables false
namespace Go.Proofs.Ytdaglbjgdakmcaa
open Go Go.Eng
mutual
theorem prR_to : ∀ x : Nd, okN x → wgt x ≤ 1000000000 → ∀ w : Int, CallTo Try.prog 28 [(.av (nav x)), (.av (.val (.int .i64 w)))] [] [] (.av (.val (.string (prR x w)))) [] []
  | .mk k nm kids, h, hw, w => by
    simp only [okN] at h
    rw [prR_eq (.mk k nm kids) w h.1]
    have hq : wgts kids ≤ 1000000000 := by simp only [wgt] at hw; omega
    have hsz : (jnL prR (wordR k) k kids 0 ⟨#[]⟩).size ≤ 1000000000 := by
      rw [← prG_eq]; have := prG_le k kids 0 ⟨#[]⟩; rw [zNil] at this; omega
    have hs4 : (prR (ndth kids 0) 4).size ≤ 1000000000 := by
      have h1 := pr_le (ndth kids 0) 4
      have h2 : wgt (ndth kids 0) ≤ wgts kids + 16 := by
        cases kids with
        | nil => rw [show ndth ([] : List Nd) 0 = nd0 from rfl, wgt_nd0]; omega
        | cons y l => simp only [ndth, List.getD_cons_zero, wgts]; omega
      simp only [wgt] at hw; omega
    exact prR_step prR (.mk k nm kids) w h.1 h.2.1 hsz hs4 (fun i w' hi _ => prRs_to kids h.2.2 hq i hi w')
theorem prRs_to : ∀ l : List Nd, okNs l → wgts l ≤ 1000000000 → ∀ i, i < l.length → ∀ w : Int, CallTo Try.prog 28 [(.av (nav (ndth l i))), (.av (.val (.int .i64 w)))] [] [] (.av (.val (.string (prR (ndth l i) w)))) [] []
  | [], _, _, i, hi => by simp at hi
  | x :: l, h, hw, 0, _ => by simp only [okNs] at h; simp only [wgts] at hw; exact prR_to x h.1 (by omega)
  | x :: l, h, hw, i + 1, hi => by simp only [okNs] at h; simp only [wgts] at hw; exact prRs_to l h.2 (by omega) i (by simpa using hi)
end

set_option maxRecDepth 100000 in
set_option maxHeartbeats 2000000 in
theorem rNormal_to (s : ByteArray) (hs : s.size ≤ maxLen) : CallTo Try.prog 15 [(jS (s))] [] [] (.av (.tup [.val (.string (normR s).1), .val (.int .i64 (normR s).2)])) [] [] := by
  refine CallTo_of_body (n := 16) Try.func15 rfl (by kernel_rfl) Try.ntmps15 (by simp) (by simp) (by simp) (by simp [OkSV, SV.keys, ABox.svs, PV.keys]) (by simp [OkSV, SV.keys, ABox.svs, PV.keys]) (by simp [OkSV, SV.keys, ABox.svs, PV.keys]) (by simp [OkSV, SV.keys, ABox.svs, PV.keys]) rfl rfl ?_
  refine W_eq (sx 16 [(0, (jS (s)))] [] []) (by kernel_rfl) ?_
  rcases Bool.eq_false_or_eq_true ((((readR s).2 : Int) != 0)) with hb1 | hb1
  · have hb1p := bne_iff_ne.1 hb1
    refine W_run (ors := [.c (.av (.tup [(.agg [(vI (Nd.kind ((readR s).1))), (vS (Nd.name ((readR s).1))), (.sl (av2 (Nd.kids ((readR s).1))))]), (vI ((readR s).2))])) [] [] [], .b true]) (cs := [True, True, True, (CallTo Try.prog 19 [(jS (s))] [] [] (.av (.tup [(.agg [(vI (Nd.kind ((readR s).1))), (vS (Nd.name ((readR s).1))), (.sl (av2 (Nd.kids ((readR s).1))))]), (vI ((readR s).2))])) [] []), True, True, True, True, True, True, True, True, True, ((((readR s).2 : Int) != 0) = true), True, True, True]) (e := .ret) 16 [(2, (jS (⟨#[]⟩))), (3, (jI ((readR s).2)))] [(4, (.cells 44 [(jI (Nd.kind ((readR s).1))), (jS (Nd.name ((readR s).1))), (jL (av2 (Nd.kids ((readR s).1))))]))] [] (by kernel_rfl) (ak (ak (ak (ac (Read_to s hs) (ak (ak (ak (ak (ak (ak (ak (ak (ak (ac hb1 (ak (ak (ak an))))))))))))))))) ?_
    exact ends (r := (.av (.tup [(vS (⟨#[]⟩)), (vI ((readR s).2))]))) (by simp) (by kernel_rfl) (by rw [normR]; first | (rw [if_pos (by assumption)]; done) | (rw [if_neg (by assumption)]; done)) (by simp) (by simp)
  · have hb1p := eq_of_bne_false hb1
    refine W_run (ors := [.c (.av (.tup [(.agg [(vI (Nd.kind ((readR s).1))), (vS (Nd.name ((readR s).1))), (.sl (av2 (Nd.kids ((readR s).1))))]), (vI ((readR s).2))])) [] [] [], .b false, .c (jS (prR ((readR s).1) (0))) [] [] []]) (cs := [True, True, True, (CallTo Try.prog 19 [(jS (s))] [] [] (.av (.tup [(.agg [(vI (Nd.kind ((readR s).1))), (vS (Nd.name ((readR s).1))), (.sl (av2 (Nd.kids ((readR s).1))))]), (vI ((readR s).2))])) [] []), True, True, True, True, True, True, True, True, True, ((((readR s).2 : Int) != 0) = false), True, (CallTo Try.prog 28 [(.av (.agg [(vI (Nd.kind ((readR s).1))), (vS (Nd.name ((readR s).1))), (.sl (av2 (Nd.kids ((readR s).1))))])), (jI (0))] [] [] (jS (prR ((readR s).1) (0))) [] []), True, True, True]) (e := .ret) 16 [(2, (jS (prR ((readR s).1) (0)))), (3, (jI (0)))] [(4, (.cells 44 [(jI (Nd.kind ((readR s).1))), (jS (Nd.name ((readR s).1))), (jL (av2 (Nd.kids ((readR s).1))))]))] [] (by kernel_rfl) (ak (ak (ak (ac (Read_to s hs) (ak (ak (ak (ak (ak (ak (ak (ak (ak (ac hb1 (ak (ac (prR_to _ (ok_readR s) (by have := read_wgt s; omega) _) (ak (ak (ak an))))))))))))))))))) ?_
    exact ends (r := (.av (.tup [(vS (prR ((readR s).1) (0))), (vI (0))]))) (by simp) (by kernel_rfl) (by rw [normR]; first | (rw [if_pos (by assumption)]; done) | (rw [if_neg (by assumption)]; done)) (by simp) (by simp)

set_option maxRecDepth 100000 in
set_option maxHeartbeats 2000000 in
theorem CondNormals_to (s : ByteArray) (hs : s.size ≤ maxLen) : CallTo Try.prog 5 [(jS (s))] [] [] (jB true) [] [] := by
  refine CallTo_of_body (n := 32) Try.func5 rfl (by kernel_rfl) Try.ntmps5 (by simp) (by simp) (by simp) (by simp [OkSV, SV.keys, ABox.svs, PV.keys]) (by simp [OkSV, SV.keys, ABox.svs, PV.keys]) (by simp [OkSV, SV.keys, ABox.svs, PV.keys]) (by simp [OkSV, SV.keys, ABox.svs, PV.keys]) rfl rfl ?_
  refine W_eq (sx 32 [(0, (jS (s)))] [] []) (by kernel_rfl) ?_
  rcases Bool.eq_false_or_eq_true ((!fewB (ByteArray.size (s)) (List.length ([] : List AV)))) with hb1 | hb1
  · have hb1n : fewB (ByteArray.size (s)) (List.length ([] : List AV)) = false := by simpa using hb1
    refine W_run (ors := [.c (jB (fewB (ByteArray.size (s)) (List.length ([] : List AV)))) [] [] [], .b true, .c (jB (true)) [] [] []]) (cs := [True, True, (CallTo Try.prog 8 [(jS (s)), (jL [])] [] [] (jB (fewB (ByteArray.size (s)) (List.length ([] : List AV)))) [] []), True, True, ((!fewB (ByteArray.size (s)) (List.length ([] : List AV))) = true), (CallTo Try.prog 9 [] [] [] (jB (true)) [] []), True, True]) (e := .ret) 32 [(2, (jB (true)))] [] [] (by kernel_rfl) (ak (ak (ac (few_to _ _) (ak (ak (ac hb1 (ac awake_to (ak (ak an))))))))) ?_
    exact ends (r := (jB (true))) (by simp) (by kernel_rfl) rfl (by simp) (by simp)
  · have hb1n : fewB (ByteArray.size (s)) (List.length ([] : List AV)) = true := by simpa using hb1
    refine W_run (ors := [.c (jB (fewB (ByteArray.size (s)) (List.length ([] : List AV)))) [] [] [], .b false, .c (.av (.tup [(vS ((normP s).1)), (vI ((normP s).2))])) [] [] [], .c (.av (.tup [(vS ((normP s).1)), (vI ((normP s).2))])) [] [] [], .b true, .b true, .b true, .b true, .b true, .c (jB (true)) [] [] [], .b true]) (cs := [True, True, (CallTo Try.prog 8 [(jS (s)), (jL [])] [] [] (jB (fewB (ByteArray.size (s)) (List.length ([] : List AV)))) [] []), True, True, ((!fewB (ByteArray.size (s)) (List.length ([] : List AV))) = false), True, (CallTo Try.prog 14 [(jS (s))] [] [] (.av (.tup [(vS ((normP s).1)), (vI ((normP s).2))])) [] []), True, True, True, True, True, True, True, (CallTo Try.prog 15 [(jS (s))] [] [] (.av (.tup [(vS ((normP s).1)), (vI ((normP s).2))])) [] []), True, True, True, True, True, True, True, True, True, True, (eqs ((normP s).1) ((normP s).1) = true), True, (eqs ((normP s).1) ((normP s).1) = true), True, (eqs ((normP s).1) ((normP s).1) = true), True, (eqs ((normP s).1) ((normP s).1) = true), True, ((((normP s).2 : Int) == (normP s).2) = true), (CallTo Try.prog 9 [] [] [] (jB (true)) [] []), True, ((((normP s).2 : Int) == (normP s).2) = true), True]) (e := .ret) 32 [(2, (jB (true)))] [] [] (by kernel_rfl) (ak (ak (ac (few_to _ _) (ak (ak (ac hb1 (ak (ac (by have h := Normal_to s hs; exact h) (ak (ak (ak (ak (ak (ak (ak (ac (by have h := rNormal_to s hs; rw [normPR] at h; exact h) (ak (ak (ak (ak (ak (ak (ak (ak (ak (ak (ac (eqs_self _) (ak (ac (eqs_self _) (ak (ac (eqs_self _) (ak (ac (eqs_self _) (ak (ac (beq_self_eq_true _) (ac awake_to (ak (ac (beq_self_eq_true _) (ak an))))))))))))))))))))))))))))))))))))))) ?_
    exact ends (r := (jB (true))) (by simp) (by kernel_rfl) rfl (by simp) (by simp)

end Go.Proofs.Ytdaglbjgdakmcaa
