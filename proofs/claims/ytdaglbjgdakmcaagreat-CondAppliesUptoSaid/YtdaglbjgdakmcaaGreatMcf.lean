/- Texts joined by a program (merge.py). -/
import Derived.Test.YtdaglbjgdakmcaaGreatMcb
import Derived.Test.YtdaglbjgdakmcaaGreatMcc
import Derived.KernelRfl
import Derived.Test.YtdaglbjgdakmcaaGreatMce
import Derived.Test.YtdaglbjgdakmcaaGreatMcd
set_option linter.unusedSimpArgs false
set_option linter.unusedVariables false
set_option maxRecDepth 100000
set_option maxHeartbeats 4000000
namespace Go.Proofs.YtdaglbjgdakmcaaGreat
open Go Go.Eng
mutual
theorem write_to : ∀ x : Nd, okP x → ∀ σ : WS, (wr x σ).1.size ≤ 1000000000 → CallTo Tryz.prog 42 [(.av (nav x)), (jP 1000 0)] [(1000, (.cells 85 [(.son 1000), (.own (1300, 6) ((σ).2) 1 (bytesAV ((σ).1)))]))] [((1300, 6), (σ).2)] j0 [(1000, (.cells 85 [(.son 1000), (.own (1300, 6) ((wr x σ).2) 1 (bytesAV ((wr x σ).1)))]))] [((1300, 6), (wr x σ).2)]
 | .mk k nm kids, h, σ, hs => by
  simp only [okP] at h
  rw [wr_eq] at hs ⊢
  exact write_step wr wr_grows (.mk k nm kids) σ h.1 h.2.1 hs (fun i τ hi h1 => writes_to kids h.2.2 i hi τ h1) (fun i b τ hi h1 => operand_step wr wr_grows _ b τ h1 (fun τ' h2 => writes_to kids h.2.2 i hi τ' h2))
theorem writes_to : ∀ l : List Nd, okPs l → ∀ i, i < l.length → ∀ σ : WS, (wr (ndth l i) σ).1.size ≤ 1000000000 → CallTo Tryz.prog 42 [(.av (nav (ndth l i))), (jP 1000 0)] [(1000, (.cells 85 [(.son 1000), (.own (1300, 6) ((σ).2) 1 (bytesAV ((σ).1)))]))] [((1300, 6), (σ).2)] j0 [(1000, (.cells 85 [(.son 1000), (.own (1300, 6) ((wr (ndth l i) σ).2) 1 (bytesAV ((wr (ndth l i) σ).1)))]))] [((1300, 6), (wr (ndth l i) σ).2)]
 | [], _, i, hi => by simp at hi
 | x :: l, h, 0, _ => by simp only [okPs] at h; exact write_to x h.1
 | x :: l, h, i + 1, hi => by simp only [okPs] at h; exact writes_to l h.2 i (by simpa using hi)
end
set_option maxHeartbeats 2000000 in
theorem Normal_to (s : ByteArray) (hs : s.size ≤ maxLen) : CallTo Tryz.prog 22 [(jS s)] [] [] (.av (.tup [.val (.string (normP s).1), .val (.int .i64 (normP s).2)])) [] [] := by
 refine CallTo_of_body (n := 18) Tryz.func22 rfl (by kernel_rfl) Tryz.ntmps22 (by simp) (by simp) (by simp) (by simp [OkSV, SV.keys, ABox.svs, PV.keys]) (by simp [OkSV, SV.keys, ABox.svs, PV.keys]) (by simp [OkSV, SV.keys, ABox.svs, PV.keys]) (by simp [OkSV, SV.keys, ABox.svs, PV.keys]) rfl rfl ?_
 refine W_eq (sx 18 [(0, (jS s))] [] []) (by kernel_rfl) ?_
 refine W_seq ?_
 refine W_run (ors := []) (cs := [True, True]) (e := .normal) 18 [(0, (jS s))] [] [] (by kernel_rfl) (ak (ak an)) ?_
 show W _ _ _ _
 refine W_seq ?_
 refine W_run (ors := [.c (.av (.tup [(.agg [(vI (Nd.kind ((parseP s).1))), (vS (Nd.name ((parseP s).1))), (.sl (av2 (Nd.kids ((parseP s).1))))]), (vI ((parseP s).2))])) [] [] []]) (cs := [True, (CallTo Tryz.prog 38 [(jS s)] [] [] (.av (.tup [(.agg [(vI (Nd.kind ((parseP s).1))), (vS (Nd.name ((parseP s).1))), (.sl (av2 (Nd.kids ((parseP s).1))))]), (vI ((parseP s).2))])) [] []), True, True, True, True, True, True, True]) (e := .normal) 18 [(4, (.ptr 4 0)), (5, (jI ((parseP s).2)))] [(4, (.cells 77 [(jI (Nd.kind ((parseP s).1))), (jS (Nd.name ((parseP s).1))), (jL (av2 (Nd.kids ((parseP s).1))))]))] [] (by kernel_rfl) (ak (ac (parse_to s hs) (ak (ak (ak (ak (ak (ak (ak an))))))))) ?_
 show W _ _ _ _
 refine W_seq ?_
 rcases Bool.eq_false_or_eq_true (((parseP s).2 : Int) != 0) with hb1 | hb1
 ·have hb1p := bne_iff_ne.1 hb1
  refine W_run (ors := [.b true]) (cs := [True, True, ((((parseP s).2 : Int) != 0) = true), True, True, True]) (e := .ret) 18 [(2, (jS (⟨#[]⟩))), (3, (jI ((parseP s).2)))] [(4, (.cells 77 [(jI (Nd.kind ((parseP s).1))), (jS (Nd.name ((parseP s).1))), (jL (av2 (Nd.kids ((parseP s).1))))]))] [] (by kernel_rfl) (ak (ak (ac hb1 (ak (ak (ak an)))))) ?_
  refine skipS ?_ (by simp)
  exact ends (r := (.av (.tup [(vS (⟨#[]⟩)), (vI ((parseP s).2))]))) (by simp) (by kernel_rfl) (by rw [normP]; first | (rw [if_pos (by assumption)]; done) | (rw [if_neg (by assumption)]; done)) (by simp) (by simp)
 ·have hb1p := eq_of_bne_false hb1
  refine W_run (ors := [.b false]) (cs := [True, True, ((((parseP s).2 : Int) != 0) = false)]) (e := .normal) 18 [(4, (.ptr 4 0))] [(4, (.cells 77 [(jI (Nd.kind ((parseP s).1))), (jS (Nd.name ((parseP s).1))), (jL (av2 (Nd.kids ((parseP s).1))))]))] [] (by kernel_rfl) (ak (ak (ac hb1 an))) ?_
  show W _ _ _ _
  refine W_seq ?_
  refine W_run (ors := []) (cs := [True]) (e := .normal) 18 [(4, (.ptr 4 0)), (6, (.ptr 6 0))] [(6, (.cells 85 [(.av (.val (.pointer none))), .nil])), (4, (.cells 77 [(jI (Nd.kind ((parseP s).1))), (jS (Nd.name ((parseP s).1))), (jL (av2 (Nd.kids ((parseP s).1))))]))] [] (by kernel_rfl) (ak an) ?_
  show W _ _ _ _
  refine W_weak (S' := (sx 18 [(4, (.ptr 4 0)), (6, (.ptr 6 0))] [(6, (.cells 85 [(.son 6), (.own (1300, 6) (((⟨#[]⟩, 0) : WS).2) 1 (bytesAV (((⟨#[]⟩, 0) : WS).1)))])), (4, (.cells 77 [(jI (Nd.kind ((parseP s).1))), (jS (Nd.name ((parseP s).1))), (jL (av2 (Nd.kids ((parseP s).1))))]))] [((1300, 6), ((⟨#[]⟩, 0) : WS).2)])) (weak_sx (show WkX _ _ _ from ⟨rfl, rfl, trivial⟩) (show WkBx _ _ from ⟨⟨rfl, ⟨rfl, ⟨rfl, by decide, rfl⟩, trivial⟩⟩, ⟨rfl, ⟨rfl, rfl, rfl, trivial⟩⟩, trivial⟩) (show WkG _ _ _ from ⟨(by rfl), trivial⟩)) ?_
  refine W_run (ors := [.c j0 [(6, (.cells 85 [(.son 6), (.own (1300, 6) ((wr ((parseP s).1) ((⟨#[]⟩, 0) : WS)).2) 1 (bytesAV ((wr ((parseP s).1) ((⟨#[]⟩, 0) : WS)).1)))]))] [((1300, 6), ((⟨#[]⟩, 0) : WS).2)] [((1300, 6), (wr ((parseP s).1) ((⟨#[]⟩, 0) : WS)).2)], .c (jS ((wr ((parseP s).1) ((⟨#[]⟩, 0) : WS)).1)) [(6, (.cells 85 [(.son 6), (jL (bytesAV ((wr ((parseP s).1) ((⟨#[]⟩, 0) : WS)).1)))]))] [((1300, 6), (wr ((parseP s).1) ((⟨#[]⟩, 0) : WS)).2)] [((1300, 6), (wr ((parseP s).1) ((⟨#[]⟩, 0) : WS)).2 + 1)]]) (cs := [True, (CallTo Tryz.prog 42 [(.av (.agg [(vI (Nd.kind ((parseP s).1))), (vS (Nd.name ((parseP s).1))), (.sl (av2 (Nd.kids ((parseP s).1))))])), (.ptr 6 0)] [(6, (.cells 85 [(.son 6), (.own (1300, 6) (((⟨#[]⟩, 0) : WS).2) 1 (bytesAV (((⟨#[]⟩, 0) : WS).1)))]))] [((1300, 6), ((⟨#[]⟩, 0) : WS).2)] j0 [(6, (.cells 85 [(.son 6), (.own (1300, 6) ((wr ((parseP s).1) ((⟨#[]⟩, 0) : WS)).2) 1 (bytesAV ((wr ((parseP s).1) ((⟨#[]⟩, 0) : WS)).1)))]))] [((1300, 6), (wr ((parseP s).1) ((⟨#[]⟩, 0) : WS)).2)]), ((((⟨#[]⟩, 0) : WS).2 : Nat) = ((⟨#[]⟩, 0) : WS).2 ∧ True), (CallTo Tryz.prog 43 [(.ptr 6 0)] [(6, (.cells 85 [(.son 6), (.own (1300, 6) ((wr ((parseP s).1) ((⟨#[]⟩, 0) : WS)).2) 1 (bytesAV ((wr ((parseP s).1) ((⟨#[]⟩, 0) : WS)).1)))]))] [((1300, 6), (wr ((parseP s).1) ((⟨#[]⟩, 0) : WS)).2)] (jS ((wr ((parseP s).1) ((⟨#[]⟩, 0) : WS)).1)) [(6, (.cells 85 [(.son 6), (jL (bytesAV ((wr ((parseP s).1) ((⟨#[]⟩, 0) : WS)).1)))]))] [((1300, 6), (wr ((parseP s).1) ((⟨#[]⟩, 0) : WS)).2 + 1)]), (((wr ((parseP s).1) ((⟨#[]⟩, 0) : WS)).2 : Nat) = (wr ((parseP s).1) ((⟨#[]⟩, 0) : WS)).2 ∧ True), True, True]) (e := .ret) 18 [(2, (jS ((wr ((parseP s).1) ((⟨#[]⟩, 0) : WS)).1))), (3, (jI 0))] [(6, (.cells 85 [(.son 6), (jL (bytesAV ((wr ((parseP s).1) ((⟨#[]⟩, 0) : WS)).1)))])), (4, (.cells 77 [(jI (Nd.kind ((parseP s).1))), (jS (Nd.name ((parseP s).1))), (jL (av2 (Nd.kids ((parseP s).1))))]))] [((1300, 6), (wr ((parseP s).1) ((⟨#[]⟩, 0) : WS)).2 + 1)] (by kernel_rfl) (ak (ac (by have h := CallTo_ren (swap_inv (6, 0) (1000, 0) rfl) (write_to _ (ok_parseP s) _ (norm_le s)); exact h) (ac ⟨rfl, trivial⟩ (ac (by have h := CallTo_ren (swap_inv (6, 0) (1000, 0) rfl) (String_to (.son 1000) 1300 ((wr ((parseP s).1) ((⟨#[]⟩, 0) : WS)).2) ((wr ((parseP s).1) ((⟨#[]⟩, 0) : WS)).1) (norm_pos (by assumption)) (by have := norm_le s; omega)); exact h) (ac ⟨rfl, trivial⟩ (ak (ak an))))))) ?_
  exact ends (r := (.av (.tup [(vS ((wr ((parseP s).1) ((⟨#[]⟩, 0) : WS)).1)), (vI 0)]))) (by simp) (by kernel_rfl) (by rw [normP]; first | (rw [if_pos (by assumption)]; done) | (rw [if_neg (by assumption)]; done)) (by simp) (by simp)
theorem aw1_to : CallTo Tryz.prog 20 [(jS (⟨#[97, 32, 97, 110, 100, 32, 110, 111, 116, 32, 40, 98, 32, 111, 114, 32, 99, 41]⟩)), (jL [(vS (⟨#[97]⟩)), (vS (⟨#[100]⟩))])] [] [] (.av (.tup [(vB true), (vI 0)])) [] [] := by
 have h := Eval_to (⟨#[97, 32, 97, 110, 100, 32, 110, 111, 116, 32, 40, 98, 32, 111, 114, 32, 99, 41]⟩) (by rw [show ByteArray.size (⟨#[97, 32, 97, 110, 100, 32, 110, 111, 116, 32, 40, 98, 32, 111, 114, 32, 99, 41]⟩) = 18 from rfl]; unfold maxLen; omega) [⟨#[97]⟩, ⟨#[100]⟩] (by unfold maxLen; simp)
 rw [show evalP (⟨#[97, 32, 97, 110, 100, 32, 110, 111, 116, 32, 40, 98, 32, 111, 114, 32, 99, 41]⟩) [⟨#[97]⟩, ⟨#[100]⟩] = (true, 0) by kernel_rfl] at h; exact h
theorem aw2_to : CallTo Tryz.prog 21 [(jS (⟨#[98, 32, 111, 114, 32, 97, 32, 97, 110, 100, 32, 98]⟩))] [] [] (.av (.tup [(.sl [(vS (⟨#[98]⟩)), (vS (⟨#[97]⟩))]), (vI 0)])) [] [] := by
 have h := Names_to (⟨#[98, 32, 111, 114, 32, 97, 32, 97, 110, 100, 32, 98]⟩) (by rw [show ByteArray.size (⟨#[98, 32, 111, 114, 32, 97, 32, 97, 110, 100, 32, 98]⟩) = 12 from rfl]; unfold maxLen; omega)
 rw [show namesP (⟨#[98, 32, 111, 114, 32, 97, 32, 97, 110, 100, 32, 98]⟩) = ([⟨#[98]⟩, ⟨#[97]⟩], 0) by kernel_rfl] at h; exact h
theorem aw3_to : CallTo Tryz.prog 22 [(jS (⟨#[40, 40, 97, 41, 41, 111, 114, 40, 32, 98, 32, 111, 114, 32, 110, 111, 116, 40, 99, 32, 97, 110, 100, 32, 100, 41, 32, 41]⟩))] [] [] (.av (.tup [(vS (⟨#[97, 32, 111, 114, 32, 98, 32, 111, 114, 32, 110, 111, 116, 32, 40, 99, 32, 97, 110, 100, 32, 100, 41]⟩)), (vI 0)])) [] [] := by
 have h := Normal_to (⟨#[40, 40, 97, 41, 41, 111, 114, 40, 32, 98, 32, 111, 114, 32, 110, 111, 116, 40, 99, 32, 97, 110, 100, 32, 100, 41, 32, 41]⟩) (by rw [show ByteArray.size (⟨#[40, 40, 97, 41, 41, 111, 114, 40, 32, 98, 32, 111, 114, 32, 110, 111, 116, 40, 99, 32, 97, 110, 100, 32, 100, 41, 32, 41]⟩) = 28 from rfl]; unfold maxLen; omega)
 rw [show normP (⟨#[40, 40, 97, 41, 41, 111, 114, 40, 32, 98, 32, 111, 114, 32, 110, 111, 116, 40, 99, 32, 97, 110, 100, 32, 100, 41, 32, 41]⟩) = (⟨#[97, 32, 111, 114, 32, 98, 32, 111, 114, 32, 110, 111, 116, 32, 40, 99, 32, 97, 110, 100, 32, 100, 41]⟩, 0) by kernel_rfl] at h; exact h
theorem aw4_to : CallTo Tryz.prog 20 [(jS (⟨#[97, 32, 98]⟩)), (jL [])] [] [] (.av (.tup [(vB false), (vI 5)])) [] [] := by
 have h := Eval_to (⟨#[97, 32, 98]⟩) (by rw [show ByteArray.size (⟨#[97, 32, 98]⟩) = 3 from rfl]; unfold maxLen; omega) [] (by unfold maxLen; simp)
 rw [show evalP (⟨#[97, 32, 98]⟩) [] = (false, 5) by kernel_rfl] at h; exact h
set_option maxHeartbeats 2000000 in
theorem awake_to  : CallTo Tryz.prog 8 [] [] [] (jB true) [] [] := by
 refine CallTo_of_body (n := 64) Tryz.func8 rfl (by kernel_rfl) Tryz.ntmps8 (by simp) (by simp) (by simp) (by simp [OkSV, SV.keys, ABox.svs, PV.keys]) (by simp [OkSV, SV.keys, ABox.svs, PV.keys]) (by simp [OkSV, SV.keys, ABox.svs, PV.keys]) (by simp [OkSV, SV.keys, ABox.svs, PV.keys]) rfl rfl ?_
 refine W_eq (sx 64 [] [] []) (by kernel_rfl) ?_
 refine WN ?_
 refine GO (tn 1 (kp (show Uni 1 [(vS (⟨#[97]⟩)), (vS (⟨#[100]⟩))] from (by simp [Uni, AV.cells, AV.isTup])) (kg aw1_to trivial (tn 5 (kg aw2_to trivial (tn 5 (kg aw3_to trivial (tn 5 (kg aw4_to trivial (tn 7 (kb tt (tn 1 (kb tt (tn 1 (kb tt (tn 1 (kb tt (tn 1 (kb tt (tn 1 (kb tt (tn 1 (kb tt (tn 1 (kb tt (tn 1 (kb tt (tn 1 (kb tt (tn 1 (kb tt (tn 1 (kb tt (ke (show 0 ≤ (0 : Int) ∧ ([(vS (⟨#[98]⟩)), (vS (⟨#[97]⟩))] : List AV)[0]? = some (vS (⟨#[98]⟩)) from ⟨by decide, rfl⟩) (kb tt (tn 1 (kb tt (tn 1 (kb tt (tn 1 (kb (show eqs (⟨#[98]⟩) (⟨#[98]⟩) = true from (by kernel_rfl)) (tn 1 (kb (show eqs (⟨#[98]⟩) (⟨#[98]⟩) = true from (by kernel_rfl)) (ke (show 0 ≤ (1 : Int) ∧ ([(vS (⟨#[98]⟩)), (vS (⟨#[97]⟩))] : List AV)[1]? = some (vS (⟨#[97]⟩)) from ⟨by decide, rfl⟩) (kb (show eqs (⟨#[98]⟩) (⟨#[98]⟩) = true from (by kernel_rfl)) (tn 1 (kb (show eqs (⟨#[98]⟩) (⟨#[98]⟩) = true from (by kernel_rfl)) (tn 1 (kb (show eqs (⟨#[98]⟩) (⟨#[98]⟩) = true from (by kernel_rfl)) (tn 1 (kb (show eqs (⟨#[97]⟩) (⟨#[97]⟩) = true from (by kernel_rfl)) (tn 1 (kb (show eqs (⟨#[97]⟩) (⟨#[97]⟩) = true from (by kernel_rfl)) (tn 1 (kb (show eqs (⟨#[97]⟩) (⟨#[97]⟩) = true from (by kernel_rfl)) (tn 1 (kb tt (tn 1 (kb tt (tn 1 (kb tt (tn 1 (kb (show eqs (⟨#[97, 32, 111, 114, 32, 98, 32, 111, 114, 32, 110, 111, 116, 32, 40, 99, 32, 97, 110, 100, 32, 100, 41]⟩) (⟨#[97, 32, 111, 114, 32, 98, 32, 111, 114, 32, 110, 111, 116, 32, 40, 99, 32, 97, 110, 100, 32, 100, 41]⟩) = true from (by kernel_rfl)) (tn 1 (kb (show eqs (⟨#[97, 32, 111, 114, 32, 98, 32, 111, 114, 32, 110, 111, 116, 32, 40, 99, 32, 97, 110, 100, 32, 100, 41]⟩) (⟨#[97, 32, 111, 114, 32, 98, 32, 111, 114, 32, 110, 111, 116, 32, 40, 99, 32, 97, 110, 100, 32, 100, 41]⟩) = true from (by kernel_rfl)) (tn 1 (kb (show eqs (⟨#[97, 32, 111, 114, 32, 98, 32, 111, 114, 32, 110, 111, 116, 32, 40, 99, 32, 97, 110, 100, 32, 100, 41]⟩) (⟨#[97, 32, 111, 114, 32, 98, 32, 111, 114, 32, 110, 111, 116, 32, 40, 99, 32, 97, 110, 100, 32, 100, 41]⟩) = true from (by kernel_rfl)) (tn 1 z)))))))))))))))))))))))))))))))))))))))))))))))))))))))))))))))))))) (by kernel_rfl) ?_
 exact LEAF .ret (S2 := (sx 64 [(0, (jB true))] [] [])) (by kernel_rfl) (WK (by kernel_rfl)) (ends (r := (jB true)) (by simp) (by kernel_rfl) rfl (by simp) (by simp))
end Go.Proofs.YtdaglbjgdakmcaaGreat
namespace Go.Proofs.YtdaglbjgdakmcaaGreat
open Go Go.Eng
theorem flat_wl {α β : Type} {w : α → Nat} {w' : β → Nat} {g : α → List β} : ∀ {l : List α}, (∀ x ∈ l, wl w' (g x) ≤ w x) → wl w' (l.flatMap g) ≤ wl w l
 | [], _ => by simp [wl]
 | x :: l, h => by
  have h1 := h x (by simp)
  have h2 := flat_wl (l := l) (fun y hy => h y (by simp [hy]))
  rw [List.flatMap_cons, wl_append]; simp only [wl]; omega
end Go.Proofs.YtdaglbjgdakmcaaGreat
namespace Go.Proofs.YtdaglbjgdakmcaaGreat
open Go Go.Eng
def cpyA (a : DAttr) : DAttr := a
theorem cpyA_to (a : DAttr) (ha : wAttr a ≤ 1073741824) : CallTo Tryz.prog 46 [(.av (cAttr a))] [] [] (.av (cAttr (cpyA a))) [] [] := by
 have hwa := wAttr_eq a
 have hw_0 := wl_len (w := wStr) wStr_pos a.fClasses
 have hw_1 := wl_len (w := wPair) wPair_pos a.fPairs
 refine BEG (fun r : DAttr => (.av (cAttr r))) (cpyA a) Tryz.func46 (by kernel_rfl) ?_
 refine UF (cpyA.eq_1 ..) ?_
 refine GO (tn 2 z) (by kernel_rfl) ?_
 refine DR3 (tn 8 (kp (show Uni 1 (a.fClasses.map strAV) ∧ ((a.fClasses.map strAV) : List AV).length * 16 ≤ 140737488355328 from ⟨uni_strAV _, by first | omega | (simp; done) | (simp; omega)⟩) (tn 4 (kp (show Uni 2 (a.fPairs.map aPair) ∧ ((a.fPairs.map aPair) : List AV).length * 32 ≤ 140737488355328 from ⟨uni_aPair _, by first | omega | (simp; done) | (simp; omega)⟩) (tn 2 z))))) (by kernel_rfl) (by kernel_rfl) (by kernel_rfl) ?_
 exact EN (by kernel_rfl)
def hldP (w : List ByteArray) (s : ByteArray) : (Bool × Int) := (cond (((parseP s).2 : Int) == 0) (valP w ((parseP s).1)) false, (parseP s).2)
theorem hldP_to (w : List ByteArray) (s : ByteArray) (hs : s.size ≤ 1073741824) : CallTo Tryz.prog 65 [(.av (.agg [(.rm (setF w []) (trues (setF w [])))])), (jS s)] [] [] (.av (.tup [(vB ((hldP w s).1)), (vI ((hldP w s).2))])) [] [] := by
 refine BEG (fun r : (Bool × Int) => (.av (.tup [(vB r.1), (vI r.2)]))) (hldP w s) Tryz.func65 (by kernel_rfl) ?_
 refine UF (hldP.eq_1 ..) ?_
 refine GO (tn 4 (kc (parse_to s (by unfold maxLen; omega)) (tn 9 (kj (((parseP s).2 : Int) == 0) (tn 3 (kc (valueP_to w _ (ok_parseP s)) z)) z (tn 3 z))))) (by kernel_rfl) ?_
 exact EN (by kernel_rfl)
def sngL_L0 (l : List DInline) : Nat → (List DInline) → Bool → Nat → List DInline
 | 0, _, _, _ => default
 | n0 + 1, v3, v4, v9 => cond (decide (((v9 : Nat) : Int) < ((lenM aInline l : Nat) : Int))) (cond (cond (((el l v9).fKind : Int) != 2) true (!v4)) (sngL_L0 l n0 (v3 ++ ([el l v9])) (cond (((el l v9).fKind : Int) == 2) true (((el l v9).fKind : Int) == 3)) (v9 + 1)) (sngL_L0 l n0 v3 (cond (((el l v9).fKind : Int) == 2) true (((el l v9).fKind : Int) == 3)) (v9 + 1))) v3
def sngL (l : List DInline) : List DInline := sngL_L0 l ((List.length l - 0) + 1) ([]) false 0
theorem sngL_to (l : List DInline) (hl : wl wInline l ≤ 1073741824) : CallTo Tryz.prog 66 [(jL (l.map aInline))] [] [] (jL ((sngL l).map aInline)) [] [] := by
 have hw_0 := wl_len (w := wInline) wInline_pos l
 refine BEG (fun r : List DInline => (jL (r.map aInline))) (sngL l) Tryz.func66 (by kernel_rfl) ?_
 refine UF (sngL.eq_1 ..) ?_
 refine GO (tn 6 z) (by kernel_rfl) ?_
 refine LP (fun N M S => ∃ gv3 : Nat, ∃ v3 : List DInline, ∃ v4 : Bool, ∃ v9 : Nat, (v3.length ≤ v9) ∧ (v9 ≤ l.length) ∧ (List.length l - v9 < N) ∧ M = sngL_L0 l N v3 v4 v9 ∧ S = (sx 34 [(3, (.own (203, 42) gv3 10 (v3.map aInline))), (4, (jB v4)), (7, (jL (l.map aInline))), (8, (jI ((lenM aInline l : Nat) : Int))), (9, (jI ((v9 : Nat) : Int)))] [] [((203, 42), gv3)])) (by kernel_rfl) ⟨0, _, _, _, by first | omega | assumption | (simp only [lenM_eq]; omega) | (simp; done) | (simp; omega), by first | omega | assumption | (simp only [lenM_eq]; omega) | (simp; done) | (simp; omega), by omega, rfl, rfl⟩ (WKf [(3, (.own (203, 42) 0 10 (([]).map aInline)))] (ac (show ((([]).map aInline) : List AV) = [] ∧ 0 < 42 ∧ (0 : Nat) = 0 from ⟨rfl, by decide, rfl⟩) an) (by kernel_rfl)) ?_
 rintro n0 M S ⟨gv3, v3, v4, v9, hv, hi, hF0, rfl, rfl⟩
 obtain ⟨n0, rfl⟩ : ∃ k, n0 = k + 1 := ⟨n0 - 1, by omega⟩
 refine UF (sngL_L0.eq_2 ..) ?_
 refine GO (tn 1 z) (by kernel_rfl) ?_
 refine CSd (fun h1p h1 => ?_) (fun h1p h1 => ?_)
 ·have := lenM_eq aInline l
  refine GO (kb h1 (ke (el_aInline l v9 (by omega)) (tn 7 (kj (((el l v9).fKind : Int) != 2) z (tn 2 z) z)))) (by kernel_rfl) ?_
  refine CS (fun h2 => ?_) (fun h2 => ?_)
  ·refine GO (kb h2 (tn 2 (kp (show Uni 10 [(cInline (el l v9))] from (uni_one rfl rfl)) (kp (show (gv3 : Nat) = gv3 ∧ Uni 10 [(cInline (el l v9))] ∧ (((v3.map aInline) : List AV).length + ([(cInline (el l v9))] : List AV).length) * 192 ≤ 140737488355328 from ⟨rfl, uni_one rfl rfl, by first | omega | (simp; done) | (simp; omega)⟩) (kw (ap1_aInline v3 (el l v9)) (tn 5 (kj (((el l v9).fKind : Int) == 2) z (tn 3 z) (tn 1 (kn (wrE (((v9 : Nat) : Int) + 1) ((v9 + 1 : Nat) : Int) (by omega)) (tn 1 z)))))))))) (by kernel_rfl) ?_
   exact AG ⟨gv3 + 1, _, _, _, by first | omega | assumption | (simp only [lenM_eq]; omega) | (simp; done) | (simp; omega), by first | omega | assumption | (simp only [lenM_eq]; omega) | (simp; done) | (simp; omega), by omega, rfl, rfl⟩ (WK (by kernel_rfl)) (by kernel_rfl) (Nat.lt_succ_self _)
  ·obtain ⟨h2a, h2o⟩ := cond_tt h2
   have h2ap := eq_of_bne_false h2a
   have h2on := notf h2o
   refine GO (kb h2 (tn 4 (kj (((el l v9).fKind : Int) == 2) z (tn 3 z) (tn 1 (kn (wrE (((v9 : Nat) : Int) + 1) ((v9 + 1 : Nat) : Int) (by omega)) (tn 1 z)))))) (by kernel_rfl) ?_
   exact AG ⟨gv3, _, _, _, by first | omega | assumption | (simp only [lenM_eq]; omega) | (simp; done) | (simp; omega), by first | omega | assumption | (simp only [lenM_eq]; omega) | (simp; done) | (simp; omega), by omega, rfl, rfl⟩ (WK (by kernel_rfl)) (by kernel_rfl) (Nat.lt_succ_self _)
 ·have := lenM_eq aInline l
  refine GO (kb h1 z) (by kernel_rfl) ?_
  refine OUT (tn 2 z) (by kernel_rfl) ?_
  exact EN (by kernel_rfl)
def trmL_L1 (l : List DInline) (v0 : List DInline) (k0 : (List DInline) → List DInline) : Nat → (List DInline) → List DInline
 | 0, _ => default
 | n1 + 1, w0 => cond (cond (decide (((lenM aInline w0 : Nat) : Int) > 0)) (cond (((el w0 (Int.toNat (((lenM aInline w0 : Nat) : Int) - 1))).fKind : Int) == 2) true (((el w0 (Int.toNat (((lenM aInline w0 : Nat) : Int) - 1))).fKind : Int) == 3)) false) (trmL_L1 l v0 k0 n1 ((List.drop 0 w0).take (Int.toNat (((lenM aInline w0 : Nat) : Int) - 1) - 0))) w0
def trmL_L0 (l : List DInline) : Nat → (List DInline) → List DInline
 | 0, _ => default
 | n0 + 1, v0 => cond (cond (decide (((lenM aInline v0 : Nat) : Int) > 0)) (((el v0 0).fKind : Int) == 2) false) (trmL_L0 l n0 ((List.drop 1 v0).take (lenM aInline v0 - 1))) (trmL_L1 l v0 (trmL_L0 l n0) (((v0).length) + 1) v0)
def trmL (l : List DInline) : List DInline := trmL_L0 l (((l).length) + 1) l
theorem trmL_to (l : List DInline) (hl : wl wInline l ≤ 1073741824) : CallTo Tryz.prog 47 [(jL (l.map aInline))] [] [] (jL ((trmL l).map aInline)) [] [] := by
 have hw_0 := wl_len (w := wInline) wInline_pos l
 refine BEG (fun r : List DInline => (jL (r.map aInline))) (trmL l) Tryz.func47 (by kernel_rfl) ?_
 refine UF (trmL.eq_1 ..) ?_
 refine GO (tn 1 z) (by kernel_rfl) ?_
 refine LP (fun N M S => ∃ v0 : List DInline, (v0.length ≤ l.length) ∧ (v0.length < N) ∧ M = trmL_L0 l N v0 ∧ S = (sx 44 [(0, (jL (v0.map aInline)))] [] [])) (by kernel_rfl) ⟨_, by first | omega | assumption | (simp only [lenM_eq]; omega) | (simp; done) | (simp; omega), by omega, rfl, rfl⟩ (WK (by kernel_rfl)) ?_
 rintro n0 M S ⟨v0, hv, hF0, rfl, rfl⟩
 obtain ⟨n0, rfl⟩ : ∃ k, n0 = k + 1 := ⟨n0 - 1, by omega⟩
 refine UF (trmL_L0.eq_2 ..) ?_
 refine GO (tn 4 (kj (decide (((lenM aInline v0 : Nat) : Int) > 0)) (tn 1 (he (fun h => by have j0 := h.2; have := lenM_eq aInline v0; have j0p := of_decide_eq_true j0; exact (el_aInline v0 0 (by omega))) (tn 3 z))) z z)) (by kernel_rfl) ?_
 refine CS (fun h1 => ?_) (fun h1 => ?_)
 ·have := lenM_eq aInline v0
  obtain ⟨h1a, h1o⟩ := cond_ff h1
  have := lenM_eq aInline v0
  have h1ap := of_decide_eq_true h1a
  have h1op := eq_of_beq h1o
  refine GO (kb h1 (tn 1 (kp (show 0 ≤ (1 : Int) ∧ (1 : Int) ≤ ((lenM aInline v0 : Nat) : Int) ∧ ((lenM aInline v0 : Nat) : Int) ≤ ((lenM aInline v0 : Nat) : Int) ∧ Uni 10 (v0.map aInline) from ⟨by first | omega | (simp only [lenM_eq, true_and]; omega), by first | omega | (simp only [lenM_eq, true_and]; omega), by first | omega | (simp only [lenM_eq, true_and]; omega), uni_aInline _⟩) (kw (cutL aInline v0 1 (lenM aInline v0 - 1)) (tn 1 z))))) (by kernel_rfl) ?_
  exact AG ⟨_, by simp only [List.length_take, List.length_drop]; omega, by simp only [List.length_take, List.length_drop]; omega, rfl, rfl⟩ (WK (by kernel_rfl)) (by kernel_rfl) (Nat.lt_succ_self _)
 ·have := lenM_eq aInline v0
  refine GO (kb h1 z) (by kernel_rfl) ?_
  refine OUT z (by kernel_rfl) ?_
  refine LP (fun N M S => ∃ w0 : List DInline, (w0.length ≤ l.length) ∧ (w0.length < N) ∧ M = trmL_L1 l v0 (trmL_L0 l n0) N w0 ∧ S = (sx 44 [(0, (jL (w0.map aInline)))] [] [])) (by kernel_rfl) ⟨_, by first | omega | assumption | (simp only [lenM_eq]; omega) | (simp; done) | (simp; omega), by omega, rfl, rfl⟩ (WK (by kernel_rfl)) ?_
  rintro n1 M S ⟨w0, hw, hF1, rfl, rfl⟩
  obtain ⟨n1, rfl⟩ : ∃ k, n1 = k + 1 := ⟨n1 - 1, by omega⟩
  refine UF (trmL_L1.eq_2 ..) ?_
  refine GO (tn 4 (kj (decide (((lenM aInline w0 : Nat) : Int) > 0)) (tn 3 (hn (fun h => by have j0 := h.2; have := lenM_eq aInline w0; have j0p := of_decide_eq_true j0; exact (wrE (((lenM aInline w0 : Nat) : Int) - 1) (((lenM aInline w0 : Nat) : Int) - 1) (by omega))) (he (fun h => by have j0 := h.2; have := lenM_eq aInline w0; have j0p := of_decide_eq_true j0; exact (elI_aInline w0 (((lenM aInline w0 : Nat) : Int) - 1) (by omega) (by omega))) (tn 4 (kj (((el w0 (Int.toNat (((lenM aInline w0 : Nat) : Int) - 1))).fKind : Int) == 2) z (tn 3 (hn (fun h => by have j0 := h.1.2; have := lenM_eq aInline w0; have j0p := of_decide_eq_true j0; have j1 := h.2; have := lenM_eq aInline w0; have j1p := ne_of_beq_false j1; exact (wrE (((lenM aInline w0 : Nat) : Int) - 1) (((lenM aInline w0 : Nat) : Int) - 1) (by omega))) (he (fun h => by have j0 := h.1.2; have := lenM_eq aInline w0; have j0p := of_decide_eq_true j0; have j1 := h.2; have := lenM_eq aInline w0; have j1p := ne_of_beq_false j1; exact (elI_aInline w0 (((lenM aInline w0 : Nat) : Int) - 1) (by omega) (by omega))) (tn 3 z)))) z))))) z z)) (by kernel_rfl) ?_
  refine CS (fun h2 => ?_) (fun h2 => ?_)
  ·have := lenM_eq aInline w0
   obtain ⟨h2a, h2o⟩ := cond_ff h2
   have := lenM_eq aInline w0
   have h2ap := of_decide_eq_true h2a
   have := lenM_eq aInline w0
   refine GO (kb h2 (tn 3 (kn (wrE (((lenM aInline w0 : Nat) : Int) - 1) (((lenM aInline w0 : Nat) : Int) - 1) (by omega)) (kp (show 0 ≤ (0 : Int) ∧ (0 : Int) ≤ ((lenM aInline w0 : Nat) : Int) - 1 ∧ ((lenM aInline w0 : Nat) : Int) - 1 ≤ ((lenM aInline w0 : Nat) : Int) ∧ Uni 10 (w0.map aInline) from ⟨by first | omega | (simp only [lenM_eq, true_and]; omega), by first | omega | (simp only [lenM_eq, true_and]; omega), by first | omega | (simp only [lenM_eq, true_and]; omega), uni_aInline _⟩) (kw (cutL aInline w0 0 (Int.toNat (((lenM aInline w0 : Nat) : Int) - 1) - 0)) (tn 1 z)))))) (by kernel_rfl) ?_
   exact AG ⟨_, by simp only [List.length_take, List.length_drop]; omega, by simp only [List.length_take, List.length_drop]; omega, rfl, rfl⟩ (WK (by kernel_rfl)) (by kernel_rfl) (Nat.lt_succ_self _)
  ·have := lenM_eq aInline w0
   refine GO (kb h2 z) (by kernel_rfl) ?_
   refine OUT (tn 2 z) (by kernel_rfl) ?_
   exact EN (by kernel_rfl)
end Go.Proofs.YtdaglbjgdakmcaaGreat
namespace Go.Eng
def reSt (X : Cf) (S' : St) : Cf := match X with
 | some (c, o, .at d ks _) => some (c, o, .at d ks S')
 | _ => none
theorem GHOST {P : Program} {α : Type} {K : α → Exit → St → Prop} {M : α} {X : Cf} {S' : St} (hg : Ghost (stOf X) S') (hn : Nx P K M (reSt X S')) : Nx P K M X := by
 obtain ⟨hn⟩ := hn
 unfold reSt at hn
 split at hn
 ·rename_i c o d ks S
  exact ⟨W_ghost hg hn⟩
 ·exact hn.elim
theorem ghost_tell {S : St} {t b e sz : Nat} (hs : slotOf S (some t) = .nil) (hb : b < 1000) (hn : S.names b = false) : Ghost S ((S.put (some t) (.vs b 0)).addBox b (.vec e sz [])) := by
 intro G w a hr
 let G' : Gh := { G with ow := fun κ => if κ = (b, 0) then none else G.ow κ }
 have how : ∀ κ c, G'.ow κ = some c → G.ow κ = some c := by
  intro κ c h
  simp only [G'] at h
  split at h
  ·cases h
  ·exact h
 have hkp : ∀ κ, κ ≠ (b, 0) → Keep G w G' w κ := fun κ hκ => ⟨by simp only [G']; rw [if_neg hκ], fun _ _ => ⟨rfl, rfl⟩⟩
 have hstep : Step G w G' w := ⟨⟨fun _ => Nat.le_refl _, Imm.refl _ _, Nat.le_refl _, rfl, rfl, rfl, fun _ _ => rfl, fun _ => Nat.le_refl _, fun κ h0 _ => hkp κ (by intro e; rw [e] at h0; simp at h0)⟩, fun _ _ _ => ⟨rfl, rfl⟩, fun κ c h => .inl ⟨κ, how κ c h⟩⟩
 have hwf : Wf G' w := ⟨fun κ κ' c h h' => hr.wf.inj κ κ' c (how κ c h) (how κ' c h'), fun κ c h => hr.wf.lt κ c (how κ c h), hr.wf.zero⟩
 have hr1 : Rel G' w S a := hr.but hn hstep.toExt hwf hkp rfl
 have hbx : RepB G' w b (.vec e sz []) := Or.inl ⟨rfl, by simp [G']⟩
 have hput : Rel G' w (S.put (some t) (.vs b 0)) a := by
  refine ⟨hr1.wf, by simp only [St.put, List.length_set]; exact hr1.size, fun u s hu => ?_, hr1.bx, hr1.gn, hr1.defers⟩
  simp only [St.put] at hu
  rw [List.getElem?_set] at hu
  split at hu
  ·rename_i hd; subst hd
   split at hu
   ·rename_i hlt
    simp only [Option.some.injEq] at hu; subst hu
    have h0 : S.fr[t]? = some .nil := by
     simp only [slotOf, List.getD_eq_getElem?_getD] at hs
     rw [List.getElem?_eq_getElem hlt] at hs ⊢
     simpa using hs
    have := hr1.fr t _ h0
    exact Or.inl ⟨rfl, this, by simp [G']⟩
   ·cases hu
  ·exact hr1.fr u s hu
 exact ⟨G', hstep, hput.add hbx, fun i hi => by simp only [G']; rw [if_neg (by intro h; simp at h; omega)]⟩
def vecOf (S : St) (t b : Nat) : Option (Nat × List AV) := match slotOf S (some t), S.bx.lookup b with
 | .vs b' n, some (.vec _ _ l) => match decide (b' = b) with
  | true => some (n, l)
  | false => none
 | _, _ => none
theorem ghost_freeze_vec {S : St} {t b n : Nat} {l : List AV} (hv : vecOf S t b = some (n, l)) (hn : n ≤ l.length) : Ghost S ((S.forget b).put (some t) (.av (.sl (l.take n)))) := by
 intro G w a hr
 unfold vecOf at hv
 split at hv
 ·rename_i b' n' e sz l' hs hb
  split at hv
  ·rename_i hd
   have := of_decide_eq_true hd; subst this
   simp only [Option.some.injEq, Prod.mk.injEq] at hv
   obtain ⟨rfl, rfl⟩ := hv
   have hbox := hr.bx _ (lookup_mem hb)
   have put : ∀ {G' : Gh}, Rel G' w (S.forget b') a → (∀ u, RepS G w (.vs b' n') u → Rep G'.U w (.sl (l'.take n')) u) → Rel G' w ((S.forget b').put (some t) (.av (.sl (l'.take n')))) a := by
    intro G' h1 h2
    refine ⟨h1.wf, by simp only [St.put, List.length_set]; exact h1.size, fun u s hu => ?_, h1.bx, h1.gn, h1.defers⟩
    simp only [St.put] at hu
    rw [List.getElem?_set] at hu
    split at hu
    ·rename_i hd; subst hd
     split at hu
     ·rename_i hlt
      simp only [Option.some.injEq] at hu; subst hu
      have hlt' : t < S.fr.length := by simpa [St.forget] using hlt
      have h0 : S.fr[t]? = some (.vs b' n') := by
       simp only [slotOf, List.getD_eq_getElem?_getD] at hs
       rw [List.getElem?_eq_getElem hlt'] at hs ⊢
       simpa using hs
      exact h2 _ (hr.fr t _ h0)
     ·cases hu
    ·exact h1.fr u s hu
   rcases hbox with ⟨hl, how⟩ | ⟨blk, arr, es, g0, g1, g2, g3, g4, g5, g6, ⟨rest, g7⟩, g8⟩
   ·refine ⟨G, Step.refl G w, put (hr.forget b') (fun u hu => ?_), fun _ _ => rfl⟩
    simp only at hl how
    subst hl
    rcases hu with ⟨rfl, rfl, _⟩ | ⟨blk, _, h, _⟩
    ·simpa using Rep_nil _ _
    ·rw [how] at h; cases h
   ·simp only at g1
    have hU : ∀ c, G.U c ≤ (G.setU blk (vcells (es.take n')).length).U c := by
     intro c; simp only [Gh.setU]; split
     ·rename_i h; rw [h, g3]; omega
     ·omega
    have hkp : ∀ κ, κ ≠ (b', 0) → Keep G w (G.setU blk (vcells (es.take n')).length) w κ := fun κ hκ => ⟨rfl, fun c hc => ⟨rfl, by
     simp only [Gh.setU]; rw [if_neg (fun he => hκ (hr.wf.inj κ (b', 0) c hc (by rw [he]; exact g1)))]⟩⟩
    have hstep : Step G w (G.setU blk (vcells (es.take n')).length) w := ⟨⟨hU, Imm.refl _ _, Nat.le_refl _, rfl, rfl, rfl, fun _ _ => rfl, fun _ => Nat.le_refl _, fun κ h0 _ => hkp κ (by intro e; rw [e] at h0; simp at h0)⟩,
     fun c _ hn => ⟨rfl, by simp only [Gh.setU]; rw [if_neg (fun he => hn (b', 0) (by rw [he]; exact g1))]⟩, fun κ c h => .inl ⟨κ, h⟩⟩
    have hwf : Wf (G.setU blk (vcells (es.take n')).length) w := ⟨hr.wf.inj, hr.wf.lt, fun c hc => by simp only [Gh.setU]; rw [if_neg (by omega)]; exact hr.wf.zero c hc⟩
    refine ⟨_, hstep, put ((hr.forget b').but (forget_free S b') hstep.toExt hwf hkp rfl) (fun u hu => ?_), fun _ _ => rfl⟩
    rcases hu with ⟨rfl, rfl, h⟩ | ⟨blk', h0, h, rfl, h3⟩
    ·rw [g1] at h; cases h
    ·rw [g1] at h; simp only [Option.some.injEq] at h; subst h
     simp only [Rep]
     have hlen : (l'.take n').length = n' := by simp; omega
     have htake := vcells_take es n' g6
     refine ⟨some ⟨blk, 0, none⟩, G.cp blk, es.take n', sz, by rw [hlen], (RepL.mono hU (Imm.refl _ _) _ _ g5).take n', fun x hx => g6 x (List.mem_of_mem_take hx), by simp, by rw [hlen]; exact h3, fun _ ad had => by simp at had; subst had; rfl, .inr ⟨blk, 0, rfl, by simp [Gh.setU], fun j x hj => ?_⟩⟩
     have hj' := hj
     rw [htake, List.getElem?_take] at hj'
     split at hj'
     ·have hlt2 : j < (vcells es).length := by
       rcases Nat.lt_or_ge j (vcells es).length with q | q
       ·exact q
       ·rw [List.getElem?_eq_none q] at hj'; cases hj'
      have harr : arr.toList[j]? = some x := by rw [g7, List.getElem?_append_left hlt2]; exact hj'
      exact ⟨by simpa [World.cell?, g2] using harr, g8 x (List.mem_of_getElem? hj')⟩
     ·cases hj'
  ·cases hv
 ·cases hv
theorem tell_weak {S : St} {b e sz : Nat} {l l' : List AV} (hb : S.bx.lookup b = some (.vec e sz l)) (h : l = l') : Weak S (S.setBox b (.vec e sz l')) := by
 subst h
 intro G w a hr
 refine ⟨hr.wf, hr.size, hr.fr, fun p hp => ?_, hr.gn, hr.defers⟩
 simp only [St.setBox, List.mem_map] at hp
 obtain ⟨q, hq, rfl⟩ := hp
 split
 ·rename_i hqb; rw [hqb]; exact hr.bx _ (lookup_mem hb)
 ·exact hr.bx q hq
theorem TELL {P : Program} {α : Type} {K : α → Exit → St → Prop} {M : α} {X : Cf} (t b e sz : Nat) (h : (slotOf (stOf X) (some t), decide (b < 1000), (stOf X).names b) = (.nil, true, false)) (hn : Nx P K M (reSt X (((stOf X).put (some t) (.vs b 0)).addBox b (.vec e sz [])))) : Nx P K M X := by
 simp only [Prod.mk.injEq] at h
 exact GHOST (ghost_tell h.1 (of_decide_eq_true h.2.1) h.2.2) hn
theorem FRZ {P : Program} {α : Type} {K : α → Exit → St → Prop} {M : α} {X : Cf} (t b : Nat) {n : Nat} {l l' : List AV} (h : vecOf (stOf X) t b = some (n, l)) (hn : n ≤ l.length) (hl : l.take n = l') (hx : Nx P K M (reSt X (((stOf X).forget b).put (some t) (.av (.sl l'))))) : Nx P K M X := by
 subst hl
 exact GHOST (ghost_freeze_vec h hn) hx
def vbox (S : St) (b : Nat) : Option (Nat × Nat × List AV) := match S.bx.lookup b with
 | some (.vec e sz l) => some (e, sz, l)
 | _ => none
theorem BOX {P : Program} {α : Type} {K : α → Exit → St → Prop} {M : α} {X : Cf} (b : Nat) {e sz : Nat} {l l' : List AV} (h : vbox (stOf X) b = some (e, sz, l)) (hl : l = l') (hn : Nx P K M (reSt X ((stOf X).setBox b (.vec e sz l')))) : Nx P K M X := by
 have hb : (stOf X).bx.lookup b = some (.vec e sz l) := by
  unfold vbox at h; split at h
  ·rename_i h2; simp only [Option.some.injEq, Prod.mk.injEq] at h; obtain ⟨rfl, rfl, rfl⟩ := h; exact h2
  ·cases h
 obtain ⟨hn⟩ := hn
 unfold reSt at hn
 split at hn
 ·rename_i c o d ks S
  exact ⟨W_weak (tell_weak hb hl) hn⟩
 ·exact hn.elim
end Go.Eng
namespace Go.Proofs.YtdaglbjgdakmcaaGreat
open Go Go.Eng
def mrgText (x : DInline) (s : ByteArray) : DInline := { x with fText := s }
def rmgK (x : DInline) (ks : List DInline) : DInline := { x with fKids := ks }
def rmgS_L0 (rec : List DInline → List DInline) (l : List DInline) : Nat → List DInline → Nat → List DInline
  | 0, _, _ => default
  | n0 + 1, v3, v4 => cond (decide (((v4 : Nat) : Int) < ((lenM aInline l : Nat) : Int)))
      (cond (cond (((el l v4).fKind : Int) == 1) (eqs (el l v4).fText ⟨#[]⟩) false)
        (rmgS_L0 rec l n0 v3 (v4 + 1))
        (cond (cond (cond (((el l v4).fKind : Int) == 1) (decide (((lenM aInline v3 : Nat) : Int) > 0)) false) (((el v3 (Int.toNat (((lenM aInline v3 : Nat) : Int) - 1))).fKind : Int) == 1) false)
          (rmgS_L0 rec l n0 (v3.set (Int.toNat (((lenM aInline v3 : Nat) : Int) - 1)) (mrgText (el v3 (Int.toNat (((lenM aInline v3 : Nat) : Int) - 1))) ((el v3 (Int.toNat (((lenM aInline v3 : Nat) : Int) - 1))).fText ++ (el l v4).fText))) (v4 + 1))
          (rmgS_L0 rec l n0 (v3 ++ [rmgK (el l v4) (rec (el l v4).fKids)]) (v4 + 1))))
      v3
def rmgS (rec : List DInline → List DInline) (l : List DInline) : List DInline := rmgS_L0 rec l ((List.length l - 0) + 1) [] 0
theorem rmg_set (v : List DInline) (i : Int) (h0 : 0 ≤ i) (h : i < (v.length : Int)) (s : ByteArray) :
  (v.map aInline).set i.toNat (((v.map aInline).getD i.toNat (.val undef)).upd 1 (vS s)) = (v.set i.toNat (mrgText (el v i.toNat) s)).map aInline := by
 have h1 := (elI_aInline v i h0 h).2
 rw [List.map_set, List.getD_eq_getElem?_getD, h1, aInline_eq]
 rfl
theorem rmgL_st (rec : List DInline → List DInline) (l : List DInline) (hl : wl wInline l ≤ 536870912) (hrec : ∀ l' : List DInline, wl wInline l' < wl wInline l → wl wInline l' ≤ 536870912 → CallTo Tryz.prog 92 [(jL (l'.map aInline))] [] [] (jL ((rec l').map aInline)) [] []) : CallTo Tryz.prog 92 [(jL (l.map aInline))] [] [] (jL ((rmgS rec l).map aInline)) [] [] := by
 have hw_0 := wl_len (w := wInline) wInline_pos l
 refine BEG (fun r : List DInline => (jL (r.map aInline))) (rmgS rec l) Tryz.func92 (by kernel_rfl) ?_
 refine UF (rmgS.eq_1 ..) ?_
 refine GO (tn 3 z) (by kernel_rfl) ?_
 refine TELL 3 3 41 10 (by kernel_rfl) ?_
 refine LP (fun N M S => ∃ v3 : List DInline, ∃ v4 : Nat, (∀ y ∈ v3, y.fText.size ≤ wl wInline (l.take v4)) ∧ (v3.length ≤ v4) ∧ (v4 ≤ l.length) ∧ (List.length l - v4 < N) ∧ M = rmgS_L0 rec l N v3 v4 ∧ S = (sx 66 [(0, (jL (l.map aInline))), (3, (.vs 3 (lenM aInline v3))), (4, (jI ((v4 : Nat) : Int)))] [(3, .vec 41 10 (v3.map aInline))] [])) (by kernel_rfl) ⟨[], 0, by simp, by simp, by omega, by omega, rfl, rfl⟩ (WK (by kernel_rfl)) ?_
 rintro n0 M S ⟨v3, v4, ht, hv, hi, hF0, rfl, rfl⟩
 obtain ⟨n0, rfl⟩ : ∃ k, n0 = k + 1 := ⟨n0 - 1, by omega⟩
 refine UF (rmgS_L0.eq_2 ..) ?_
 refine GO (tn 4 z) (by kernel_rfl) ?_
 refine CSd (fun h1p h1 => ?_) (fun h1p h1 => ?_)
 ·have := lenM_eq aInline l
  have hl3 := lenM_eq aInline v3
  have hce := wl_el (w := wInline) (l := l) (i := v4) (by omega)
  have hcw := wInline_eq (el l v4)
  simp only [wStr, w1] at hcw
  have htk := wl_take (w := wInline) (l := l) (i := v4) (by omega)
  have htl := wl_take_le (w := wInline) l (v4 + 1)
  refine GO (kb h1 (tn 2 (ke (el_aInline l v4 (by omega)) (tn 5 (kc (hrec ((el l v4).fKids) (by omega) (by omega)) (tn 9 (kj (((el l v4).fKind : Int) == 1) (tn 3 z) z z))))))) (by kernel_rfl) ?_
  refine CS (fun h2 => ?_) (fun h2 => ?_)
  ·refine GO (kb h2 (tn 1 (kn (wrE (((v4 : Nat) : Int) + 1) ((v4 + 1 : Nat) : Int) (by omega)) (tn 1 z)))) (by kernel_rfl) ?_
   exact AG ⟨v3, v4 + 1, fun y hy => Nat.le_trans (ht y hy) (by omega), by omega, by omega, by omega, rfl, rfl⟩ (WK (by kernel_rfl)) (by kernel_rfl) (Nat.lt_succ_self _)
  have hB : (cond (((el l v4).fKind : Int) == 1) (decide (((lenM aInline v3 : Nat) : Int) > 0)) false) = true → 0 < v3.length := fun h => by have := of_decide_eq_true (cond_ff h).2; omega
  refine GO (kb h2 (tn 4 (kj (((el l v4).fKind : Int) == 1) (tn 2 z) z (tn 1 (kj (cond (((el l v4).fKind : Int) == 1) (decide (((lenM aInline v3 : Nat) : Int) > 0)) false) (tn 2 (hn (fun h => wrE (((lenM aInline v3 : Nat) : Int) - 1) (((lenM aInline v3 : Nat) : Int) - 1) (by have := hB h.2; omega)) (hp (fun h => (show 0 ≤ (((lenM aInline v3 : Nat) : Int) - 1) ∧ (((lenM aInline v3 : Nat) : Int) - 1) < ((lenM aInline v3 : Nat) : Int) from by have := hB h.2; omega)) (tn 1 (he (fun h => elI_aInline v3 (((lenM aInline v3 : Nat) : Int) - 1) (by have := hB h.2; omega) (by omega)) (tn 1 z)))))) z z))))) (by kernel_rfl) ?_
  refine CS (fun h3 => ?_) (fun h3 => ?_)
  ·have h3a := hB (cond_ff h3).1
   have hel := elI_aInline v3 (((lenM aInline v3 : Nat) : Int) - 1) (by omega) (by omega)
   have hg : (v3.map aInline).getD (Int.toNat (((lenM aInline v3 : Nat) : Int) - 1)) (.val undef) = cInline (el v3 (Int.toNat (((lenM aInline v3 : Nat) : Int) - 1))) := by rw [List.getD_eq_getElem?_getD, hel.2]; rfl
   have hm : el v3 (Int.toNat (((lenM aInline v3 : Nat) : Int) - 1)) ∈ v3 := el_mem (by omega)
   have htx := ht _ hm
   have hwr := wrE (((lenM aInline v3 : Nat) : Int) - 1) (((lenM aInline v3 : Nat) : Int) - 1) (by omega)
   have hix : 0 ≤ (((lenM aInline v3 : Nat) : Int) - 1) ∧ (((lenM aInline v3 : Nat) : Int) - 1) < ((lenM aInline v3 : Nat) : Int) := by omega
   have hsz : ((ByteArray.size (el v3 (Int.toNat (((lenM aInline v3 : Nat) : Int) - 1))).fText + ByteArray.size (el l v4).fText : Nat) : Int) ≤ IntKind.i64.max := by
    have : IntKind.i64.max = 9223372036854775807 := by decide
    omega
   have hst : 0 ≤ (((lenM aInline v3 : Nat) : Int) - 1) ∧ (((lenM aInline v3 : Nat) : Int) - 1) < (((v3.map aInline).length : Nat) : Int) ∧ 1 + 1 ≤ ((v3.map aInline).getD (Int.toNat (((lenM aInline v3 : Nat) : Int) - 1)) (.val undef)).cells.length ∧ ((v3.map aInline).getD (Int.toNat (((lenM aInline v3 : Nat) : Int) - 1)) (.val undef)).isTup = false ∧ (vS ((el v3 (Int.toNat (((lenM aInline v3 : Nat) : Int) - 1))).fText ++ (el l v4).fText)).isTup = false ∧ (vS ((el v3 (Int.toNat (((lenM aInline v3 : Nat) : Int) - 1))).fText ++ (el l v4).fText)).cells.length = 1 ∧ 0 < 1 := by
    refine ⟨by omega, by rw [List.length_map]; omega, ?_, ?_, rfl, rfl, by decide⟩
    ·rw [hg]; exact of_decide_eq_true rfl
    ·rw [hg]; rfl
   refine GO (kb h3 z) (by kernel_rfl) ?_
   refine DR3 (tn 2 (ko (nO hwr) (kp hwr (tn 2 (ko (nO hwr) (kp hwr (kp hix (tn 1 (ko (eO hel) (kp hel (tn 2 (kp hsz (kp hix (tn 1 (kp hst (kq 4 z)))))))))))))))) (by kernel_rfl) (by kernel_rfl) (by kernel_rfl) ?_
   refine BOX (e := 41) (sz := 10) 3 (by kernel_rfl) (rmg_set v3 (((lenM aInline v3 : Nat) : Int) - 1) (by omega) (by omega) ((el v3 (Int.toNat (((lenM aInline v3 : Nat) : Int) - 1))).fText ++ (el l v4).fText)) ?_
   refine GO (tn 1 (kn (wrE (((v4 : Nat) : Int) + 1) ((v4 + 1 : Nat) : Int) (by omega)) (tn 1 z))) (by kernel_rfl) ?_
   refine AG ⟨_, v4 + 1, fun y hy => ?_, by rw [List.length_set]; omega, by omega, by omega, rfl, rfl⟩ (WKf [(3, .vs 3 (lenM aInline (v3.set (Int.toNat (((lenM aInline v3 : Nat) : Int) - 1)) (mrgText (el v3 (Int.toNat (((lenM aInline v3 : Nat) : Int) - 1))) ((el v3 (Int.toNat (((lenM aInline v3 : Nat) : Int) - 1))).fText ++ (el l v4).fText)))))] (ac (show SV.vs 3 (lenM aInline v3) = .vs 3 (lenM aInline (v3.set (Int.toNat (((lenM aInline v3 : Nat) : Int) - 1)) (mrgText (el v3 (Int.toNat (((lenM aInline v3 : Nat) : Int) - 1))) ((el v3 (Int.toNat (((lenM aInline v3 : Nat) : Int) - 1))).fText ++ (el l v4).fText)))) from by rw [lenM_eq, lenM_eq, List.length_set]) an) (by kernel_rfl)) (by kernel_rfl) (Nat.lt_succ_self _)
   rcases List.mem_or_eq_of_mem_set hy with hy | rfl
   ·have := ht y hy; omega
   ·show ByteArray.size (_ ++ _) ≤ _
    rw [ByteArray.size_append]; omega
  ·refine GO (kb h3 (tn 2 (kp (show Uni 10 [cInline (rmgK (el l v4) (rec (el l v4).fKids))] from uni_one rfl rfl) (kp (show lenM aInline v3 ≤ (v3.map aInline).length ∧ Uni 10 [cInline (rmgK (el l v4) (rec (el l v4).fKids))] ∧ (lenM aInline v3 + ([cInline (rmgK (el l v4) (rec (el l v4).fKids))] : List AV).length) * 192 ≤ 140737488355328 from ⟨Nat.le_refl _, uni_one rfl rfl, by simp; omega⟩) (tn 1 (kq 4 z)))))) (by kernel_rfl) ?_
   refine BOX (e := 41) (sz := 10) 3 (by kernel_rfl) (show (v3.map aInline).take (lenM aInline v3) ++ [cInline (rmgK (el l v4) (rec (el l v4).fKids))] = (v3 ++ [rmgK (el l v4) (rec (el l v4).fKids)]).map aInline from by rw [List.take_of_length_le (show (v3.map aInline).length ≤ lenM aInline v3 from Nat.le_refl _)]; exact ap1_aInline _ _) ?_
   refine GO (tn 1 (kn (wrE (((v4 : Nat) : Int) + 1) ((v4 + 1 : Nat) : Int) (by omega)) (tn 1 z))) (by kernel_rfl) ?_
   refine AG ⟨_, v4 + 1, fun y hy => ?_, by rw [List.length_append, List.length_singleton]; omega, by omega, by omega, rfl, rfl⟩ (WKf [(3, .vs 3 (lenM aInline (v3 ++ [rmgK (el l v4) (rec (el l v4).fKids)])))] (ac (show SV.vs 3 (lenM aInline v3 + 1) = .vs 3 (lenM aInline (v3 ++ [rmgK (el l v4) (rec (el l v4).fKids)])) from by rw [lenM_eq, lenM_eq, List.length_append]; rfl) an) (by kernel_rfl)) (by kernel_rfl) (Nat.lt_succ_self _)
   rcases List.mem_append.1 hy with hy | hy
   ·have := ht y hy; omega
   ·rw [List.mem_singleton.1 hy]; show ByteArray.size (el l v4).fText ≤ _; omega
 ·refine GO (kb h1 z) (by kernel_rfl) ?_
  refine OUT (kq 12 z) (by kernel_rfl) ?_
  refine FRZ 3 3 (by kernel_rfl) (show lenM aInline v3 ≤ (v3.map aInline).length from Nat.le_refl _) (show (v3.map aInline).take (lenM aInline v3) = v3.map aInline from List.take_of_length_le (Nat.le_refl _)) ?_
  refine GO (tn 2 z) (by kernel_rfl) ?_
  exact EN (by kernel_rfl)
def rmgStep (rec : List DInline → List DInline) (acc : List DInline) (x : DInline) : List DInline :=
 cond (cond ((x.fKind : Int) == 1) (eqs x.fText ⟨#[]⟩) false) acc
  (cond (cond (cond ((x.fKind : Int) == 1) (decide (((lenM aInline acc : Nat) : Int) > 0)) false) (((el acc (Int.toNat (((lenM aInline acc : Nat) : Int) - 1))).fKind : Int) == 1) false)
   (acc.set (Int.toNat (((lenM aInline acc : Nat) : Int) - 1)) (mrgText (el acc (Int.toNat (((lenM aInline acc : Nat) : Int) - 1))) ((el acc (Int.toNat (((lenM aInline acc : Nat) : Int) - 1))).fText ++ x.fText)))
   (acc ++ [rmgK x (rec x.fKids)]))
theorem rmgS_L0_eq (rec : List DInline → List DInline) (l : List DInline) : ∀ (n : Nat) (acc : List DInline) (i : Nat), l.length - i < n → rmgS_L0 rec l n acc i = (l.drop i).foldl (rmgStep rec) acc
 | 0, acc, i, h => by omega
 | n + 1, acc, i, h => by
  have hl := lenM_eq aInline l
  rw [rmgS_L0]
  by_cases hi : i < l.length
  ·rw [decide_eq_true (show ((i : Nat) : Int) < ((lenM aInline l : Nat) : Int) by omega), cond_true, List.drop_eq_getElem_cons hi, List.foldl_cons, rmgS_L0_eq rec l n _ _ (by omega), rmgS_L0_eq rec l n _ _ (by omega), rmgS_L0_eq rec l n _ _ (by omega)]
   have he : el l i = l[i] := by simp [el, List.getElem?_eq_getElem hi]
   rw [he, rmgStep]
   generalize l[i] = x
   cases cond ((x.fKind : Int) == 1) (eqs x.fText ⟨#[]⟩) false with
   | true => rfl
   | false =>
    cases cond (cond ((x.fKind : Int) == 1) (decide (((lenM aInline acc : Nat) : Int) > 0)) false) (((el acc (Int.toNat (((lenM aInline acc : Nat) : Int) - 1))).fKind : Int) == 1) false <;> rfl
  ·rw [decide_eq_false (show ¬ ((i : Nat) : Int) < ((lenM aInline l : Nat) : Int) by omega), cond_false, List.drop_eq_nil_of_le (by omega)]; rfl
theorem rmgS_eq (rec : List DInline → List DInline) (l : List DInline) : rmgS rec l = l.foldl (rmgStep rec) [] := by
 rw [rmgS, rmgS_L0_eq rec l _ _ _ (by omega), List.drop_zero]
theorem wl_set {α : Type} [Inhabited α] (w : α → Nat) : ∀ (l : List α) (i : Nat) (y : α), i < l.length → wl w (l.set i y) + w (el l i) = wl w l + w y
 | [], i, y, h => by simp at h
 | x :: l, 0, y, h => by simp [wl, el]; omega
 | x :: l, i + 1, y, h => by
  have := wl_set w l i y (by simpa using h)
  have he : el (x :: l) (i + 1) = el l i := by simp [el]
  rw [he]; simp only [List.set_cons_succ, wl]; omega
theorem rmgStep_wl (rec : List DInline → List DInline) (acc : List DInline) (x : DInline) (h : wl wInline (rec x.fKids) ≤ wl wInline x.fKids) : wl wInline (rmgStep rec acc x) ≤ wl wInline acc + wInline x := by
 have hx := wInline_eq x
 have hl := lenM_eq aInline acc
 unfold rmgStep
 cases cond ((x.fKind : Int) == 1) (eqs x.fText ⟨#[]⟩) false with
 | true => rw [cond_true]; omega
 | false =>
  rw [cond_false]
  cases hc : cond (cond ((x.fKind : Int) == 1) (decide (((lenM aInline acc : Nat) : Int) > 0)) false) (((el acc (Int.toNat (((lenM aInline acc : Nat) : Int) - 1))).fKind : Int) == 1) false with
  | true =>
   rw [cond_true]
   have h1 := of_decide_eq_true (cond_ff (cond_ff hc).1).2
   generalize hi : Int.toNat (((lenM aInline acc : Nat) : Int) - 1) = i
   have h2 := wl_set wInline acc i (mrgText (el acc i) ((el acc i).fText ++ x.fText)) (by omega)
   have h3 := wInline_eq (el acc i)
   have h4 := wInline_eq (mrgText (el acc i) ((el acc i).fText ++ x.fText))
   simp only [mrgText, wStr, w1, ByteArray.size_append] at h3 h4 hx
   simp only [mrgText] at h2 ⊢
   omega
  | false =>
   rw [cond_false, wl_append]
   have h4 := wInline_eq (rmgK x (rec x.fKids))
   simp only [rmgK] at h4 ⊢
   simp only [wl]
   omega
theorem foldl_wl {α β : Type} {w : α → Nat} {w' : β → Nat} {f : List β → α → List β} : ∀ (l : List α) (acc : List β), (∀ x ∈ l, ∀ acc, wl w' (f acc x) ≤ wl w' acc + w x) → wl w' (l.foldl f acc) ≤ wl w' acc + wl w l
 | [], acc, _ => by simp [wl]
 | x :: l, acc, h => by
  have h1 := h x (by simp) acc
  have h2 := foldl_wl l (f acc x) (fun y hy => h y (by simp [hy]))
  rw [List.foldl_cons]; simp only [wl]; omega
def rmgN : Nat → List DInline → List DInline
 | 0, _ => default
 | n + 1, l => rmgS (rmgN n) l
theorem rmgN_bd : ∀ (n : Nat) (l : List DInline), wl wInline l < n → wl wInline (rmgN n l) ≤ wl wInline l
 | 0, l, h => by omega
 | n + 1, l, h => by
  rw [rmgN, rmgS_eq]
  refine Nat.le_trans (foldl_wl (w := wInline) l [] (fun x hx acc => rmgStep_wl _ acc x ?_)) (by simp [wl])
  have h1 := wl_mem (w := wInline) hx
  have h2 := wInline_eq x
  exact rmgN_bd n x.fKids (by omega)
theorem rmgN_to : ∀ (n : Nat) (l : List DInline), wl wInline l < n → wl wInline l ≤ 536870912 → CallTo Tryz.prog 92 [(jL (l.map aInline))] [] [] (jL ((rmgN n l).map aInline)) [] []
 | 0, l, h, _ => absurd h (Nat.not_lt_zero _)
 | n + 1, l, h, hl => rmgL_st (rmgN n) l hl (fun l' q1 q2 => rmgN_to n l' (by omega) q2)
def rmgL (l : List DInline) : List DInline := rmgN (wl wInline l + 1) l
theorem rmgL_bd (l : List DInline) : wl wInline (rmgL l) ≤ wl wInline l := rmgN_bd _ l (Nat.lt_succ_self _)
theorem rmgL_to (l : List DInline) (hl : wl wInline l ≤ 536870912) : CallTo Tryz.prog 92 [(jL (l.map aInline))] [] [] (jL ((rmgL l).map aInline)) [] [] := rmgN_to _ l (Nat.lt_succ_self _) hl
end Go.Proofs.YtdaglbjgdakmcaaGreat
namespace Go.Proofs.YtdaglbjgdakmcaaGreat
open Go Go.Eng
theorem size_e0 : ByteArray.size ⟨#[]⟩ = 0 := rfl
theorem mgq {x : DInline} (h : cond ((x.fKind : Int) != 1) true (!eqs x.fText (⟨#[]⟩)) = true) (hk : x.fKind = 1) : 0 < x.fText.size := by
 rw [hk] at h; exact size_neqs_t (by simpa using h)
theorem mgq2 {l : List DInline} {x : DInline} (hq : ∀ y ∈ l, y.fKind = 1 → 0 < y.fText.size) (h : cond ((x.fKind : Int) != 1) true (!eqs x.fText (⟨#[]⟩)) = true) : ∀ y ∈ l ++ [x], y.fKind = 1 → 0 < y.fText.size := by
 intro y hy
 simp only [List.mem_append, List.mem_singleton] at hy
 rcases hy with hy | rfl
 ·exact hq y hy
 ·exact mgq h
def mrgL_L2 (l : List DInline) (v3 : List DInline) (v12 : Nat) (w6 : List DInline) (w7 : Nat) (k0 : (List DInline) → Nat → List DInline) (k1 : (List DInline) → Nat → List DInline) : Nat → Nat → ByteArray → List DInline
 | 0, _, _ => default
 | n2 + 1, x7, xb9_1 => cond (cond (decide (((x7 : Nat) : Int) < ((lenM aInline v3 : Nat) : Int))) (((el v3 x7).fKind : Int) == 1) false) (mrgL_L2 l v3 v12 w6 w7 k0 k1 n2 (x7 + 1) (xb9_1 ++ ((el v3 x7).fText))) (k1 (w6 ++ ([DInline.mk ((el v3 w7).fKind) xb9_1 ((el v3 w7).fDest) ((el v3 w7).fTitle) ((el v3 w7).fAttr) ((el v3 w7).fArgs) ((el v3 w7).fCites) ((el v3 w7).fKids)])) x7)
def mrgL_L1 (l : List DInline) (v3 : List DInline) (v12 : Nat) (k0 : (List DInline) → Nat → List DInline) : Nat → (List DInline) → Nat → List DInline
 | 0, _, _ => default
 | n1 + 1, w6, w7 => cond (decide (((w7 : Nat) : Int) < ((lenM aInline v3 : Nat) : Int))) (cond (cond (cond (((el v3 w7).fKind : Int) == 1) (decide (((w7 + 1 : Nat) : Int) < ((lenM aInline v3 : Nat) : Int))) false) (((el v3 (w7 + 1)).fKind : Int) == 1) false) (mrgL_L2 l v3 v12 w6 w7 k0 (mrgL_L1 l v3 v12 k0 n1) ((v3.length - (w7 + 1)) + 1) (w7 + 1) ((⟨#[]⟩) ++ ((el v3 w7).fText))) (mrgL_L1 l v3 v12 k0 n1 (w6 ++ ([el v3 w7])) (w7 + 1))) w6
def mrgL_L0 (l : List DInline) : Nat → (List DInline) → Nat → List DInline
 | 0, _, _ => default
 | n0 + 1, v3, v12 => cond (decide (((v12 : Nat) : Int) < ((lenM aInline l : Nat) : Int))) (cond (cond (((el l v12).fKind : Int) != 1) true (!eqs ((el l v12).fText) (⟨#[]⟩))) (mrgL_L0 l n0 (v3 ++ ([el l v12])) (v12 + 1)) (mrgL_L0 l n0 v3 (v12 + 1))) (mrgL_L1 l v3 v12 (mrgL_L0 l n0) ((v3.length - 0) + 1) ([]) 0)
def mrgL (l : List DInline) : List DInline := mrgL_L0 l ((List.length l - 0) + 1) ([]) 0
theorem mrgL_to (l : List DInline) (hl : wl wInline l ≤ 536870912) : CallTo Tryz.prog 67 [(jL (l.map aInline))] [] [] (jL ((mrgL l).map aInline)) [] [] := by
 have hw_0 := wl_len (w := wInline) wInline_pos l
 refine BEG (fun r : List DInline => (jL (r.map aInline))) (mrgL l) Tryz.func67 (by kernel_rfl) ?_
 refine UF (mrgL.eq_1 ..) ?_
 refine GO (tn 5 z) (by kernel_rfl) ?_
 refine LP (fun N M S => ∃ gv3 : Nat, ∃ v3 : List DInline, ∃ v12 : Nat, (wl wInline v3 ≤ wl wInline (l.take v12)) ∧ (v3.length ≤ v12) ∧ (v12 ≤ l.length) ∧ (∀ y ∈ v3, y.fKind = 1 → 0 < y.fText.size) ∧ (List.length l - v12 < N) ∧ M = mrgL_L0 l N v3 v12 ∧ S = (sx 86 [(3, (.own (203, 42) gv3 10 (v3.map aInline))), (10, (jL (l.map aInline))), (11, (jI ((lenM aInline l : Nat) : Int))), (12, (jI ((v12 : Nat) : Int)))] [] [((203, 42), gv3)])) (by kernel_rfl) ⟨0, _, _, by simp [wl], by first | omega | assumption | (simp only [lenM_eq]; omega) | (simp; done) | (simp; omega), by first | omega | assumption | (simp only [lenM_eq]; omega) | (simp; done) | (simp; omega), by simp, by omega, rfl, rfl⟩ (WKf [(3, (.own (203, 42) 0 10 (([]).map aInline)))] (ac (show ((([]).map aInline) : List AV) = [] ∧ 0 < 42 ∧ (0 : Nat) = 0 from ⟨rfl, by decide, rfl⟩) an) (by kernel_rfl)) ?_
 rintro n0 M S ⟨gv3, v3, v12, hv, hv2, hi, hq, hF0, rfl, rfl⟩
 obtain ⟨n0, rfl⟩ : ∃ k, n0 = k + 1 := ⟨n0 - 1, by omega⟩
 refine UF (mrgL_L0.eq_2 ..) ?_
 refine GO (tn 1 z) (by kernel_rfl) ?_
 refine CSd (fun h1p h1 => ?_) (fun h1p h1 => ?_)
 ·have := lenM_eq aInline l
  have hce := wl_el (w := wInline) (l := l) (i := v12) (by omega)
  have hcw := wInline_eq (el l v12)
  simp only [wStr, w1] at hcw
  have htk := wl_take (w := wInline) (l := l) (i := v12) (by omega)
  refine GO (kb h1 (ke (el_aInline l v12 (by omega)) (tn 7 (kj (((el l v12).fKind : Int) != 1) z (tn 3 z) z)))) (by kernel_rfl) ?_
  refine CS (fun h2 => ?_) (fun h2 => ?_)
  ·refine GO (kb h2 (tn 2 (kp (show Uni 10 [(cInline (el l v12))] from (uni_one rfl rfl)) (kp (show (gv3 : Nat) = gv3 ∧ Uni 10 [(cInline (el l v12))] ∧ (((v3.map aInline) : List AV).length + ([(cInline (el l v12))] : List AV).length) * 192 ≤ 140737488355328 from ⟨rfl, uni_one rfl rfl, by first | omega | (simp; done) | (simp; omega)⟩) (kw (ap1_aInline v3 (el l v12)) (tn 1 (kn (wrE (((v12 : Nat) : Int) + 1) ((v12 + 1 : Nat) : Int) (by omega)) (tn 1 z)))))))) (by kernel_rfl) ?_
   exact AG ⟨gv3 + 1, _, _, by simp only [wl_append, wl]; omega, by first | omega | assumption | (simp only [lenM_eq]; omega) | (simp; done) | (simp; omega), by first | omega | assumption | (simp only [lenM_eq]; omega) | (simp; done) | (simp; omega), mgq2 hq h2, by omega, rfl, rfl⟩ (WK (by kernel_rfl)) (by kernel_rfl) (Nat.lt_succ_self _)
  ·obtain ⟨h2a, h2o⟩ := cond_tt h2
   have h2ap := eq_of_bne_false h2a
   have h2on := notf h2o
   have h2oz := size_neqs_f h2o
   refine GO (kb h2 (kn (wrE (((v12 : Nat) : Int) + 1) ((v12 + 1 : Nat) : Int) (by omega)) (tn 1 z))) (by kernel_rfl) ?_
   exact AG ⟨gv3, _, _, by first | omega | assumption | (simp only [lenM_eq]; omega) | (simp; done) | (simp; omega), by first | omega | assumption | (simp only [lenM_eq]; omega) | (simp; done) | (simp; omega), by first | omega | assumption | (simp only [lenM_eq]; omega) | (simp; done) | (simp; omega), hq, by omega, rfl, rfl⟩ (WK (by kernel_rfl)) (by kernel_rfl) (Nat.lt_succ_self _)
 ·have := lenM_eq aInline l
  refine GO (kb h1 z) (by kernel_rfl) ?_
  refine OUT (tn 2 z) (by kernel_rfl) ?_
  refine LP (fun N M S => ∃ gw6 : Nat, ∃ w6 : List DInline, ∃ w7 : Nat, ∃ gwk1300_6 : Nat, (w6.length ≤ w7) ∧ (w7 ≤ v3.length) ∧ (v3.length - w7 < N) ∧ M = mrgL_L1 l v3 v12 (mrgL_L0 l n0) N w6 w7 ∧ S = (sx 86 [(3, (.own (203, 42) gv3 10 (v3.map aInline))), (6, (.own (206, 42) gw6 10 (w6.map aInline))), (7, (jI ((w7 : Nat) : Int)))] [] [((206, 42), gw6), ((1300, 6), gwk1300_6), ((203, 42), gv3)])) (by kernel_rfl) ⟨0, _, _, 0, by first | omega | assumption | (simp only [lenM_eq]; omega) | (simp; done) | (simp; omega), by first | omega | assumption | (simp only [lenM_eq]; omega) | (simp; done) | (simp; omega), by omega, rfl, rfl⟩ (WKf [(6, (.own (206, 42) 0 10 (([]).map aInline)))] (ac (show ((([]).map aInline) : List AV) = [] ∧ 0 < 42 ∧ (0 : Nat) = 0 from ⟨rfl, by decide, rfl⟩) an) (by kernel_rfl)) ?_
  rintro n1 M S ⟨gw6, w6, w7, gwk1300_6, hw, hw2, hF1, rfl, rfl⟩
  obtain ⟨n1, rfl⟩ : ∃ k, n1 = k + 1 := ⟨n1 - 1, by omega⟩
  refine UF (mrgL_L1.eq_2 ..) ?_
  refine GO (tn 4 z) (by kernel_rfl) ?_
  refine CSd (fun h3p h3 => ?_) (fun h3p h3 => ?_)
  ·have := lenM_eq aInline v3
   have hce := wl_el (w := wInline) (l := v3) (i := w7) (by omega)
   have hcw := wInline_eq (el v3 w7)
   simp only [wStr, w1] at hcw
   have htk := wl_take (w := wInline) (l := v3) (i := w7) (by omega)
   have hq1 := hq _ (el_mem (l := v3) (i := w7) (by omega))
   have hv3 := wl_len (w := wInline) wInline_pos v3
   have hv9 := wl_take_le (w := wInline) l v12
   refine GO (kb h3 (tn 2 (ke (el_aInline v3 w7 (by omega)) (tn 4 (kn (wrE (((w7 : Nat) : Int) + 1) ((w7 + 1 : Nat) : Int) (by omega)) (tn 5 (kj (((el v3 w7).fKind : Int) == 1) (tn 4 z) z (tn 1 (kj (cond (((el v3 w7).fKind : Int) == 1) (decide (((w7 + 1 : Nat) : Int) < ((lenM aInline v3 : Nat) : Int))) false) (tn 2 (he (fun h => by have j0 := h.2; have := lenM_eq aInline v3; obtain ⟨j0a, j0o⟩ := cond_ff j0; have j0ap := eq_of_beq j0a; have := lenM_eq aInline v3; have j0op := of_decide_eq_true j0o; have hce := wl_el (w := wInline) (l := v3) (i := w7) (by omega); have hcw := wInline_eq (el v3 w7); simp only [wStr, w1] at hcw; have htk := wl_take (w := wInline) (l := v3) (i := w7) (by omega); have hq1 := hq _ (el_mem (l := v3) (i := w7) (by omega)); have hv3 := wl_len (w := wInline) wInline_pos v3; have hv9 := wl_take_le (w := wInline) l v12; exact (el_aInline v3 (w7 + 1) (by omega))) (tn 3 z))) z z))))))))) (by kernel_rfl) ?_
   refine CS (fun h4 => ?_) (fun h4 => ?_)
   ·have := lenM_eq aInline v3
    obtain ⟨h4a, h4o⟩ := cond_ff h4
    have := lenM_eq aInline v3
    obtain ⟨h4aa, h4ao⟩ := cond_ff h4a
    have h4aap := eq_of_beq h4aa
    have := lenM_eq aInline v3
    have h4aop := of_decide_eq_true h4ao
    have hce := wl_el (w := wInline) (l := v3) (i := w7) (by omega)
    have hcw := wInline_eq (el v3 w7)
    simp only [wStr, w1] at hcw
    have htk := wl_take (w := wInline) (l := v3) (i := w7) (by omega)
    have hq1 := hq _ (el_mem (l := v3) (i := w7) (by omega))
    have hv3 := wl_len (w := wInline) wInline_pos v3
    have hv9 := wl_take_le (w := wInline) l v12
    have h4op := eq_of_beq h4o
    refine GO (kb h4 (tn 1 (kq 15 z))) (by kernel_rfl) ?_
    refine RT [(9, 0, (.son 9)), (9, 1, (.own (1300, 6) gwk1300_6 1 (bytesAV (⟨#[]⟩))))] (ac (show (AV.val (.pointer none)) = .val (.pointer none) from rfl) (ac (show (bytesAV ⟨#[]⟩ : List AV) = [] ∧ 0 < 6 ∧ (gwk1300_6 : Nat) = gwk1300_6 from ⟨rfl, by decide, rfl⟩) an)) (by kernel_rfl) ?_
    refine GO (tn 2 (kg (show CallTo Tryz.prog 62 [(.ptr 9 0), (jS ((el v3 w7).fText))] [(9, (.cells 85 [(.son 9), (.own (1300, 6) gwk1300_6 1 (bytesAV (⟨#[]⟩)))]))] [((1300, 6), gwk1300_6)] (.av (.tup [(vI ((ByteArray.size ((el v3 w7).fText) : Nat) : Int)), (.val (.nilIface))])) [(9, (.cells 85 [(.son 9), (.own (1300, 6) (gwk1300_6 + 1) 1 (bytesAV ((⟨#[]⟩) ++ ((el v3 w7).fText))))]))] [((1300, 6), gwk1300_6 + 1)] from (by have h := CallTo_ren (swap_inv (9, 0) (1000, 0) rfl) (WriteString_to (⟨#[]⟩, gwk1300_6) ((el v3 w7).fText) (by show ByteArray.size ((⟨#[]⟩) ++ ((el v3 w7).fText)) ≤ 1000000000; rw [ByteArray.size_append]; first | omega | (rw [size_e0]; omega))); exact h)) (show (gwk1300_6 : Nat) = gwk1300_6 ∧ True from ⟨rfl, trivial⟩) z)) (by kernel_rfl) ?_
    refine LP (fun N M S => ∃ x7 : Nat, ∃ gxb9_1 : Nat, ∃ xb9_1 : ByteArray, (w7 < x7) ∧ (x7 ≤ v3.length) ∧ (xb9_1.size ≤ wl wInline (v3.take x7)) ∧ (0 < xb9_1.size) ∧ (v3.length - x7 < N) ∧ M = mrgL_L2 l v3 v12 w6 w7 (mrgL_L0 l n0) (mrgL_L1 l v3 v12 (mrgL_L0 l n0) n1) N x7 xb9_1 ∧ S = (sx 86 [(3, (.own (203, 42) gv3 10 (v3.map aInline))), (6, (.own (206, 42) gw6 10 (w6.map aInline))), (7, (jI ((x7 : Nat) : Int))), (8, (.ptr 8 0)), (9, (.ptr 9 0))] [(9, (.cells 85 [(.son 9), (.own (1300, 6) gxb9_1 1 (bytesAV xb9_1))])), (8, (.cells 41 (sInline (el v3 w7))))] [((1300, 6), gxb9_1), ((206, 42), gw6), ((203, 42), gv3)])) (by kernel_rfl) ⟨_, gwk1300_6 + 1, _, by first | omega | assumption | (simp only [lenM_eq]; omega) | (simp; done) | (simp; omega), by first | omega | assumption | (simp only [lenM_eq]; omega) | (simp; done) | (simp; omega), by rw [ByteArray.size_append, size_e0]; omega, by rw [ByteArray.size_append, size_e0]; exact Nat.lt_of_lt_of_le (hq1 h4aap) (by omega), by omega, rfl, rfl⟩ (WK (by kernel_rfl)) ?_
    rintro n2 M S ⟨x7, gxb9_1, xb9_1, hx, hx2, hx3, hx4, hF2, rfl, rfl⟩
    obtain ⟨n2, rfl⟩ : ∃ k, n2 = k + 1 := ⟨n2 - 1, by omega⟩
    refine UF (mrgL_L2.eq_2 ..) ?_
    have hv8 := wl_take_le (w := wInline) v3 x7
    refine GO (tn 5 (kj (decide (((x7 : Nat) : Int) < ((lenM aInline v3 : Nat) : Int))) (tn 2 (he (fun h => by have j0 := h.2; have := lenM_eq aInline v3; have j0p := of_decide_eq_true j0; have hce2 := wl_el (w := wInline) (l := v3) (i := x7) (by omega); have hcw2 := wInline_eq (el v3 x7); simp only [wStr, w1] at hcw2; have htk2 := wl_take (w := wInline) (l := v3) (i := x7) (by omega); exact (el_aInline v3 x7 (by omega))) (tn 3 z))) z z)) (by kernel_rfl) ?_
    refine CS (fun h5 => ?_) (fun h5 => ?_)
    ·have := lenM_eq aInline v3
     obtain ⟨h5a, h5o⟩ := cond_ff h5
     have := lenM_eq aInline v3
     have h5ap := of_decide_eq_true h5a
     have hce2 := wl_el (w := wInline) (l := v3) (i := x7) (by omega)
     have hcw2 := wInline_eq (el v3 x7)
     simp only [wStr, w1] at hcw2
     have htk2 := wl_take (w := wInline) (l := v3) (i := x7) (by omega)
     have h5op := eq_of_beq h5o
     refine GO (kb h5 (tn 2 (ke (el_aInline v3 x7 (by omega)) (tn 2 (kg (show CallTo Tryz.prog 62 [(.ptr 9 0), (jS ((el v3 x7).fText))] [(9, (.cells 85 [(.son 9), (.own (1300, 6) gxb9_1 1 (bytesAV xb9_1))]))] [((1300, 6), gxb9_1)] (.av (.tup [(vI ((ByteArray.size ((el v3 x7).fText) : Nat) : Int)), (.val (.nilIface))])) [(9, (.cells 85 [(.son 9), (.own (1300, 6) (gxb9_1 + 1) 1 (bytesAV (xb9_1 ++ ((el v3 x7).fText))))]))] [((1300, 6), gxb9_1 + 1)] from (by have h := CallTo_ren (swap_inv (9, 0) (1000, 0) rfl) (WriteString_to (xb9_1, gxb9_1) ((el v3 x7).fText) (by show ByteArray.size (xb9_1 ++ ((el v3 x7).fText)) ≤ 1000000000; rw [ByteArray.size_append]; first | omega | (rw [size_e0]; omega))); exact h)) (show (gxb9_1 : Nat) = gxb9_1 ∧ True from ⟨rfl, trivial⟩) (tn 1 (kn (wrE (((x7 : Nat) : Int) + 1) ((x7 + 1 : Nat) : Int) (by omega)) (tn 1 z)))))))) (by kernel_rfl) ?_
     exact AG ⟨_, gxb9_1 + 1, _, by first | omega | assumption | (simp only [lenM_eq]; omega) | (simp; done) | (simp; omega), by first | omega | assumption | (simp only [lenM_eq]; omega) | (simp; done) | (simp; omega), by rw [ByteArray.size_append]; omega, by rw [ByteArray.size_append]; omega, by omega, rfl, rfl⟩ (WK (by kernel_rfl)) (by kernel_rfl) (Nat.lt_succ_self _)
    ·have := lenM_eq aInline v3
     refine GO (kb h5 z) (by kernel_rfl) ?_
     refine OUT (kg (show CallTo Tryz.prog 43 [(.ptr 9 0)] [(9, (.cells 85 [(.son 9), (.own (1300, 6) gxb9_1 1 (bytesAV xb9_1))]))] [((1300, 6), gxb9_1)] (jS xb9_1) [(9, (.cells 85 [(.son 9), (jL (bytesAV xb9_1))]))] [((1300, 6), gxb9_1 + 1)] from (by have h := CallTo_ren (swap_inv (9, 0) (1000, 0) rfl) (String_to (.son 1000) 1300 gxb9_1 xb9_1 (by omega) (by omega)); exact h)) (show (gxb9_1 : Nat) = gxb9_1 ∧ True from ⟨rfl, trivial⟩) (tn 4 (kp (show Uni 10 [(.agg [(vI ((el v3 w7).fKind)), (vS xb9_1), (vS ((el v3 w7).fDest)), (vS ((el v3 w7).fTitle)), (vS (((el v3 w7).fAttr).fID)), (.sl ((((el v3 w7).fAttr).fClasses).map strAV)), (.sl ((((el v3 w7).fAttr).fPairs).map aPair)), (.sl (((el v3 w7).fArgs).map strAV)), (.sl (((el v3 w7).fCites).map aCited)), (.sl (((el v3 w7).fKids).map aInline))])] from (uni_one rfl rfl)) (kp (show (gw6 : Nat) = gw6 ∧ Uni 10 [(.agg [(vI ((el v3 w7).fKind)), (vS xb9_1), (vS ((el v3 w7).fDest)), (vS ((el v3 w7).fTitle)), (vS (((el v3 w7).fAttr).fID)), (.sl ((((el v3 w7).fAttr).fClasses).map strAV)), (.sl ((((el v3 w7).fAttr).fPairs).map aPair)), (.sl (((el v3 w7).fArgs).map strAV)), (.sl (((el v3 w7).fCites).map aCited)), (.sl (((el v3 w7).fKids).map aInline))])] ∧ (((w6.map aInline) : List AV).length + ([(.agg [(vI ((el v3 w7).fKind)), (vS xb9_1), (vS ((el v3 w7).fDest)), (vS ((el v3 w7).fTitle)), (vS (((el v3 w7).fAttr).fID)), (.sl ((((el v3 w7).fAttr).fClasses).map strAV)), (.sl ((((el v3 w7).fAttr).fPairs).map aPair)), (.sl (((el v3 w7).fArgs).map strAV)), (.sl (((el v3 w7).fCites).map aCited)), (.sl (((el v3 w7).fKids).map aInline))])] : List AV).length) * 192 ≤ 140737488355328 from ⟨rfl, uni_one rfl rfl, by first | omega | (simp; done) | (simp; omega)⟩) (kw (ap1_aInline w6 (DInline.mk ((el v3 w7).fKind) xb9_1 ((el v3 w7).fDest) ((el v3 w7).fTitle) ((el v3 w7).fAttr) ((el v3 w7).fArgs) ((el v3 w7).fCites) ((el v3 w7).fKids))) (tn 1 z)))))) (by kernel_rfl) ?_
     exact AG ⟨gw6 + 1, _, _, gxb9_1 + 1, by first | omega | assumption | (simp only [lenM_eq]; omega) | (simp; done) | (simp; omega), by first | omega | assumption | (simp only [lenM_eq]; omega) | (simp; done) | (simp; omega), by omega, rfl, rfl⟩ (WK (by kernel_rfl)) (by kernel_rfl) (Nat.lt_succ_self _)
   ·have := lenM_eq aInline v3
    refine GO (kb h4 (tn 2 (kp (show Uni 10 [(cInline (el v3 w7))] from (uni_one rfl rfl)) (kp (show (gw6 : Nat) = gw6 ∧ Uni 10 [(cInline (el v3 w7))] ∧ (((w6.map aInline) : List AV).length + ([(cInline (el v3 w7))] : List AV).length) * 192 ≤ 140737488355328 from ⟨rfl, uni_one rfl rfl, by first | omega | (simp; done) | (simp; omega)⟩) (kw (ap1_aInline w6 (el v3 w7)) (tn 1 z)))))) (by kernel_rfl) ?_
    exact AG ⟨gw6 + 1, _, _, gwk1300_6, by first | omega | assumption | (simp only [lenM_eq]; omega) | (simp; done) | (simp; omega), by first | omega | assumption | (simp only [lenM_eq]; omega) | (simp; done) | (simp; omega), by omega, rfl, rfl⟩ (WK (by kernel_rfl)) (by kernel_rfl) (Nat.lt_succ_self _)
  ·have := lenM_eq aInline v3
   refine GO (kb h3 z) (by kernel_rfl) ?_
   refine OUT (tn 2 z) (by kernel_rfl) ?_
   exact EN (by kernel_rfl)
end Go.Proofs.YtdaglbjgdakmcaaGreat
namespace Go.Proofs.YtdaglbjgdakmcaaGreat
open Go Go.Eng
theorem dT {p : Prop} [Decidable p] (h : p) : decide p = true := decide_eq_true h
theorem dF {p : Prop} [Decidable p] (h : ¬ p) : decide p = false := decide_eq_false h
theorem condE {α : Type} (b : Bool) (x y : α) : cond b x y = if b = true then x else y := by cases b <;> rfl
def brk2 (k : Int) : Bool := cond (k == 2) true (k == 3)
def sg : Bool → List DInline → List DInline
 | _, [] => []
 | a, x :: r => (if cond (x.fKind != 2) true (!a) = true then x :: sg (brk2 x.fKind) r else sg (brk2 x.fKind) r)
theorem sngL_L0_eq (l : List DInline) : ∀ (n : Nat) (acc : List DInline) (a : Bool) (i : Nat), l.length - i < n → sngL_L0 l n acc a i = acc ++ sg a (l.drop i)
 | 0, acc, a, i, h => by omega
 | n + 1, acc, a, i, h => by
  have hl := lenM_eq aInline l
  rw [sngL_L0]
  by_cases hi : i < l.length
  ·rw [dT (by omega), cond_true, drop_el hi, sg, condE]
   show (if cond ((el l i).fKind != 2) true (!a) = true then _ else _) = _
   split
   ·rw [sngL_L0_eq l n _ _ _ (by omega)]; simp [brk2]
   ·rw [sngL_L0_eq l n _ _ _ (by omega)]; simp [brk2]
  ·rw [dF (by omega), cond_false, List.drop_eq_nil_of_le (by omega)]; simp [sg]
theorem sngL_eq (l : List DInline) : sngL l = sg false l := by
 rw [sngL, sngL_L0_eq l _ _ _ _ (by omega)]; simp
theorem sg_sub : ∀ (a : Bool) (l : List DInline) (x : DInline), x ∈ sg a l → x ∈ l
 | a, [], x, h => by simp [sg] at h
 | a, y :: r, x, h => by
  rw [sg] at h
  split at h
  ·simp only [List.mem_cons] at h ⊢
   rcases h with h | h
   ·exact .inl h
   ·exact .inr (sg_sub _ r x h)
  ·exact List.mem_cons_of_mem _ (sg_sub _ r x h)
theorem sg_wl {w : DInline → Nat} : ∀ (a : Bool) (l : List DInline), wl w (sg a l) ≤ wl w l
 | a, [] => by simp [sg]
 | a, y :: r => by
  have := sg_wl (w := w) (brk2 y.fKind) r
  rw [sg]; split <;> simp only [wl] <;> omega
def fltq (x : DInline) : Bool := cond (x.fKind != 1) true (!eqs x.fText ⟨#[]⟩)
def flt (l : List DInline) : List DInline := l.filter fltq
def setText (x : DInline) (s : ByteArray) : DInline := DInline.mk x.fKind s x.fDest x.fTitle x.fAttr x.fArgs x.fCites x.fKids
def mga : DInline → List DInline → List DInline
 | x, [] => [x]
 | x, y :: r => if x.fKind = 1 ∧ y.fKind = 1 then mga (setText x (x.fText ++ y.fText)) r else x :: mga y r
def mg : List DInline → List DInline
 | [] => []
 | x :: r => mga x r
theorem setText_self (x : DInline) : setText x x.fText = x := by cases x; rfl
theorem empty_app (s : ByteArray) : (⟨#[]⟩ : ByteArray) ++ s = s := by
 cases s; apply ByteArray.ext; simp [ByteArray.data_append]
theorem mrgL_L2_eq (l v3 : List DInline) (v12 : Nat) (w6 : List DInline) (w7 : Nat) (k0 k1 : List DInline → Nat → List DInline) (hx : (el v3 w7).fKind = 1)
  (hk : ∀ w j, w7 < j → k1 w j = w ++ mg (v3.drop j)) : ∀ (n j : Nat) (xb : ByteArray), w7 < j → v3.length - j < n → mrgL_L2 l v3 v12 w6 w7 k0 k1 n j xb = w6 ++ mga (setText (el v3 w7) xb) (v3.drop j)
 | 0, j, xb, hj, h => by omega
 | n + 1, j, xb, hj, h => by
  have hl := lenM_eq aInline v3
  rw [mrgL_L2]
  by_cases hi : j < v3.length
  ·rw [dT (by omega), cond_true, drop_el hi, mga]
   by_cases hk1 : (el v3 j).fKind = 1
   ·rw [show ((el v3 j).fKind == 1) = true from beq_iff_eq.2 hk1, cond_true, mrgL_L2_eq l v3 v12 w6 w7 k0 k1 hx hk n _ _ (by omega) (by omega), if_pos ⟨hx, hk1⟩]
    rfl
   ·rw [show ((el v3 j).fKind == 1) = false from beq_eq_false_iff_ne.2 hk1, cond_false, hk _ _ hj, if_neg (fun h => hk1 h.2), drop_el hi, List.append_assoc]
    rfl
  ·rw [dF (by omega), cond_false, cond_false, hk _ _ hj, List.drop_eq_nil_of_le (by omega)]
   simp [mga, mg, setText]
theorem mrgL_L1_eq (l v3 : List DInline) (v12 : Nat) (k0 : List DInline → Nat → List DInline) : ∀ (n : Nat) (w6 : List DInline) (w7 : Nat), v3.length - w7 < n → mrgL_L1 l v3 v12 k0 n w6 w7 = w6 ++ mg (v3.drop w7)
 | 0, w6, w7, h => by omega
 | n + 1, w6, w7, h => by
  have hl := lenM_eq aInline v3
  rw [mrgL_L1]
  by_cases hi : w7 < v3.length
  ·rw [dT (by omega), cond_true, drop_el hi]
   by_cases h1 : (el v3 w7).fKind = 1
   ·by_cases h2 : w7 + 1 < v3.length
    ·by_cases h3 : (el v3 (w7 + 1)).fKind = 1
     ·rw [show cond (cond ((el v3 w7).fKind == 1) (decide (((w7 + 1 : Nat) : Int) < ((lenM aInline v3 : Nat) : Int))) false) ((el v3 (w7 + 1)).fKind == 1) false = true from by
       rw [beq_iff_eq.2 h1, cond_true, dT (by omega), cond_true, beq_iff_eq.2 h3], cond_true]
      rw [mrgL_L2_eq l v3 v12 w6 w7 k0 _ h1 (fun w j hj => ?_) _ _ _ (by omega) (by omega), empty_app, setText_self]
      ·rfl
      ·by_cases hjl : v3.length - j < n
       ·exact mrgL_L1_eq l v3 v12 k0 n w j hjl
       ·omega
     ·rw [show cond (cond ((el v3 w7).fKind == 1) (decide (((w7 + 1 : Nat) : Int) < ((lenM aInline v3 : Nat) : Int))) false) ((el v3 (w7 + 1)).fKind == 1) false = false from by
       rw [beq_iff_eq.2 h1, cond_true, dT (by omega), cond_true, beq_eq_false_iff_ne.2 h3], cond_false, mrgL_L1_eq l v3 v12 k0 n _ _ (by omega), drop_el h2]
      simp [mg, mga, h3]
    ·rw [show cond (cond ((el v3 w7).fKind == 1) (decide (((w7 + 1 : Nat) : Int) < ((lenM aInline v3 : Nat) : Int))) false) ((el v3 (w7 + 1)).fKind == 1) false = false from by
      rw [beq_iff_eq.2 h1, cond_true, dF (by omega), cond_false], cond_false, mrgL_L1_eq l v3 v12 k0 n _ _ (by omega), List.drop_eq_nil_of_le (i := w7 + 1) (by omega)]
     simp [mg, mga]
   ·rw [show cond (cond ((el v3 w7).fKind == 1) (decide (((w7 + 1 : Nat) : Int) < ((lenM aInline v3 : Nat) : Int))) false) ((el v3 (w7 + 1)).fKind == 1) false = false from by
     rw [beq_eq_false_iff_ne.2 h1, cond_false, cond_false], cond_false, mrgL_L1_eq l v3 v12 k0 n _ _ (by omega)]
    by_cases h2 : w7 + 1 < v3.length
    ·rw [drop_el h2]; simp [mg, mga, h1]
    ·rw [List.drop_eq_nil_of_le (i := w7 + 1) (by omega)]; simp [mg, mga]
  ·rw [dF (by omega), cond_false, List.drop_eq_nil_of_le (by omega)]; simp [mg]
theorem mrgL_L0_eq (l : List DInline) : ∀ (n : Nat) (acc : List DInline) (i : Nat), l.length - i < n → mrgL_L0 l n acc i = mg (acc ++ flt (l.drop i))
 | 0, acc, i, h => by omega
 | n + 1, acc, i, h => by
  have hl := lenM_eq aInline l
  rw [mrgL_L0]
  by_cases hi : i < l.length
  ·rw [dT (by omega), cond_true, drop_el hi, condE]
   show (if fltq (el l i) = true then _ else _) = _
   split
   ·rename_i hq; rw [mrgL_L0_eq l n _ _ (by omega), flt, flt, List.filter_cons, if_pos hq, List.append_assoc]; rfl
   ·rename_i hq; rw [mrgL_L0_eq l n _ _ (by omega), flt, flt, List.filter_cons, if_neg hq]
  ·rw [dF (by omega), cond_false, mrgL_L1_eq l acc i (mrgL_L0 l n) ((acc.length - 0) + 1) [] 0 (by omega)]; simp [flt, List.drop_eq_nil_of_le (show l.length ≤ i by omega)]
theorem mrgL_eq (l : List DInline) : mrgL l = mg (flt l) := by
 rw [mrgL, mrgL_L0_eq l _ _ _ (by omega)]; simp
theorem flt_wl {w : DInline → Nat} : ∀ l : List DInline, wl w (flt l) ≤ wl w l
 | [] => by simp [flt]
 | x :: l => by
  have := flt_wl (w := w) l
  rw [flt, List.filter_cons]; split
  ·simp only [wl]; simp only [flt] at this; omega
  ·simp only [wl]; simp only [flt] at this; omega
theorem mga_wl : ∀ (r : List DInline) (x : DInline), wl wInline (mga x r) ≤ wInline x + wl wInline r
 | [], x => by simp [mga, wl]
 | y :: r, x => by
  rw [mga]; split
  ·have h1 := mga_wl r (setText x (x.fText ++ y.fText))
   have h2 := wInline_eq x; have h3 := wInline_eq y; have h4 := wInline_eq (setText x (x.fText ++ y.fText))
   simp only [setText, wStr, ByteArray.size_append] at h1 h2 h3 h4
   simp only [wl]; simp only [setText]; omega
  ·have h1 := mga_wl r y
   simp only [wl]; omega
theorem mg_wl : ∀ l : List DInline, wl wInline (mg l) ≤ wl wInline l
 | [] => by simp [mg]
 | x :: r => by rw [mg]; exact mga_wl r x
theorem mrgL_bd (l : List DInline) : wl wInline (mrgL l) ≤ wl wInline l := by rw [mrgL_eq]; exact Nat.le_trans (mg_wl _) (flt_wl _)
theorem sngL_bd (l : List DInline) : wl wInline (sngL l) ≤ wl wInline l := by rw [sngL_eq]; exact sg_wl _ _
def dropS : List DInline → List DInline
 | [] => []
 | x :: r => if x.fKind = 2 then dropS r else x :: r
def dropB : List DInline → List DInline
 | [] => []
 | x :: r => match dropB r with
  | [] => if brk2 x.fKind = true then [] else [x]
  | y :: r' => x :: y :: r'
theorem dropB_snoc (l : List DInline) (x : DInline) : dropB (l ++ [x]) = if brk2 x.fKind = true then dropB l else l ++ [x] := by
 induction l with
 | nil => simp [dropB]
 | cons y l ih =>
  by_cases hb : brk2 x.fKind = true
  ·rw [if_pos hb] at ih ⊢
   simp only [List.cons_append, dropB, ih]
  ·rw [if_neg hb] at ih ⊢
   simp only [List.cons_append, dropB, ih]
   cases l <;> rfl
theorem take_last {l : List DInline} (h : 0 < l.length) : l = l.take (l.length - 1) ++ [el l (l.length - 1)] := by
 have h1 : l.drop (l.length - 1) = [el l (l.length - 1)] := by rw [drop_el (by omega), List.drop_eq_nil_of_le (by omega)]
 rw [← h1, List.take_append_drop]
theorem trmL_L1_eq (l v0 : List DInline) (k0 : List DInline → List DInline) : ∀ (n : Nat) (w0 : List DInline), w0.length < n → trmL_L1 l v0 k0 n w0 = dropB w0
 | 0, w0, h => by omega
 | n + 1, w0, h => by
  have hl := lenM_eq aInline w0
  rw [trmL_L1]
  by_cases h0 : 0 < w0.length
  ·have e1 : Int.toNat (((lenM aInline w0 : Nat) : Int) - 1) = w0.length - 1 := by omega
   rw [dT (by omega), cond_true, e1]
   rw [show dropB w0 = dropB (w0.take (w0.length - 1) ++ [el w0 (w0.length - 1)]) from by rw [← take_last h0], dropB_snoc]
   show cond (brk2 (el w0 (w0.length - 1)).fKind) _ _ = _
   rw [condE]
   split
   ·rw [trmL_L1_eq l v0 k0 n _ (by simp only [List.length_take, List.length_drop]; omega)]; simp
   ·exact take_last h0
  ·have : w0 = [] := List.eq_nil_of_length_eq_zero (by omega)
   subst this; simp [dropB, lenM]
theorem trmL_L0_eq (l : List DInline) : ∀ (n : Nat) (v0 : List DInline), v0.length < n → trmL_L0 l n v0 = dropB (dropS v0)
 | 0, v0, h => by omega
 | n + 1, v0, h => by
  have hl := lenM_eq aInline v0
  rw [trmL_L0]
  match v0, h with
  | [], h => rw [trmL_L1_eq _ _ _ _ _ (by simp)]; simp [dropS, lenM]
  | x :: r, h =>
   rw [dT (by simp only [List.length_cons] at hl; omega), cond_true]
   show cond (x.fKind == 2) _ _ = _
   by_cases h2 : x.fKind = 2
   ·rw [beq_iff_eq.2 h2, cond_true, trmL_L0_eq l n _ (by simp only [List.length_take, List.length_drop, List.length_cons] at h ⊢; omega)]
    simp [dropS, h2, lenM]
   ·rw [beq_eq_false_iff_ne.2 h2, cond_false, trmL_L1_eq _ _ _ _ _ (by omega)]
    simp [dropS, h2]
theorem trmL_eq (l : List DInline) : trmL l = dropB (dropS l) := trmL_L0_eq l _ l (by omega)
theorem dropS_wl {w : DInline → Nat} : ∀ l : List DInline, wl w (dropS l) ≤ wl w l
 | [] => by simp [dropS]
 | x :: r => by have := dropS_wl (w := w) r; rw [dropS]; split <;> simp only [wl] <;> omega
theorem dropB_wl {w : DInline → Nat} : ∀ l : List DInline, wl w (dropB l) ≤ wl w l
 | [] => by simp [dropB]
 | x :: r => by
  have := dropB_wl (w := w) r
  rw [dropB]; split
  ·split <;> simp only [wl] <;> omega
  ·rename_i y r' he; rw [he] at this; simp only [wl] at this ⊢; omega
theorem trmL_bd (l : List DInline) : wl wInline (trmL l) ≤ wl wInline l := by rw [trmL_eq]; exact Nat.le_trans (dropB_wl _) (dropS_wl _)
theorem getP_L0_sz (a : DAttr) (k : ByteArray) : ∀ (n i : Nat), (getP_L0 a k n i).1.size ≤ wl wPair a.fPairs
 | 0, i => by show (0 : Nat) ≤ _; omega
 | n + 1, i => by
  have hl := lenM_eq aPair a.fPairs
  rw [getP_L0]
  refine condP (fun r : ByteArray × Bool => r.1.size ≤ wl wPair a.fPairs) (fun q => condP (fun r : ByteArray × Bool => r.1.size ≤ wl wPair a.fPairs) (fun _ => ?_) (fun _ => getP_L0_sz a k n _)) (fun _ => Nat.zero_le _)
  have q1 := of_decide_eq_true q
  have hce := wl_el (w := wPair) (l := a.fPairs) (i := i) (by omega)
  simp only [wPair, wStr] at hce
  show (el a.fPairs i).fValue.size ≤ _
  omega
theorem getP_sz (a : DAttr) (k : ByteArray) : (getP a k).1.size ≤ wAttr a := by
 have h1 := getP_L0_sz a k ((List.length a.fPairs - 0) + 1) 0
 have h2 := wAttr_eq a
 rw [getP]; omega
theorem wInline_mk (k : Int) (t d ti : ByteArray) (a : DAttr) (ar : List ByteArray) (c : List DCited) (ks : List DInline) : wInline (DInline.mk k t d ti a ar c ks) = 1 + 1 + (t.size + 1) + (d.size + 1) + (ti.size + 1) + wAttr a + wl wStr ar + wl wCited c + wl wInline ks := wInline_eq _
theorem wBlock_mk (k lv : Int) (i t d ti : ByteArray) (a : DAttr) (li : List DInline) (ks : List DBlock) : wBlock (DBlock.mk k lv i t d ti a li ks) = 1 + 1 + 1 + (i.size + 1) + (t.size + 1) + (d.size + 1) + (ti.size + 1) + wAttr a + wl wInline li + wl wBlock ks := wBlock_eq _
def setKids (x : DInline) (ks : List DInline) : DInline := DInline.mk x.fKind x.fText x.fDest x.fTitle x.fAttr x.fArgs x.fCites ks
def emk (k : Int) : Bool := cond (k == 6) (k == 6) (cond (k == 7) (k == 7) (k == 8))
def tdk (ks : List DInline) (x : DInline) : List DInline := if emk x.fKind = true ∧ ks = [] then [] else [setKids x ks]
theorem setKids_wl (x : DInline) (ks : List DInline) (h : wl wInline ks ≤ wl wInline x.fKids) : wInline (setKids x ks) ≤ wInline x := by
 rw [setKids, wInline_mk, wInline_eq x]; simp only [wStr, w1]; omega
theorem size_cond (b : Bool) (x y : ByteArray) : (cond b x y).size ≤ x.size + y.size := by cases b <;> simp
def whenA : ByteArray := ⟨#[119, 104, 101, 110]⟩
end Go.Proofs.YtdaglbjgdakmcaaGreat
namespace Go.Proofs.YtdaglbjgdakmcaaGreat
open Go Go.Eng
def tdyLS_L0 (rec : (List DInline) → List DInline) (l : List DInline) : Nat → (List DInline) → Nat → List DInline
 | 0, _, _ => default
 | n0 + 1, v3, v8 => cond (decide (((v8 : Nat) : Int) < ((lenM aInline l : Nat) : Int))) (cond (cond (((el l v8).fKind : Int) == 6) (((el l v8).fKind : Int) == 6) (cond (((el l v8).fKind : Int) == 7) (((el l v8).fKind : Int) == 7) (((el l v8).fKind : Int) == 8))) (cond (decide (((lenM aInline (rec ((el l v8).fKids)) : Nat) : Int) > 0)) (tdyLS_L0 rec l n0 (v3 ++ ([DInline.mk ((el l v8).fKind) ((el l v8).fText) ((el l v8).fDest) ((el l v8).fTitle) ((el l v8).fAttr) ((el l v8).fArgs) ((el l v8).fCites) (rec ((el l v8).fKids))])) (v8 + 1)) (tdyLS_L0 rec l n0 v3 (v8 + 1))) (tdyLS_L0 rec l n0 (v3 ++ ([DInline.mk ((el l v8).fKind) ((el l v8).fText) ((el l v8).fDest) ((el l v8).fTitle) ((el l v8).fAttr) ((el l v8).fArgs) ((el l v8).fCites) (rec ((el l v8).fKids))])) (v8 + 1))) (sngL (mrgL v3))
def tdyLS (rec : (List DInline) → List DInline) (l : List DInline) : List DInline := tdyLS_L0 rec l ((List.length l - 0) + 1) ([]) 0
theorem tdyL_st (rec : (List DInline) → List DInline) (l : List DInline) (hl : wl wInline l ≤ 536870912) (hrec : ∀ (l' : List DInline), wl wInline l' < wl wInline l → wl wInline l' ≤ 536870912 → CallTo Tryz.prog 48 [(jL ((l').map aInline))] [] [] (jL ((rec l').map aInline)) [] []) (hrb : ∀ (l' : List DInline), wl wInline l' < wl wInline l → wl wInline l' ≤ 536870912 → wl wInline (rec l') ≤ wl wInline l') : CallTo Tryz.prog 48 [(jL (l.map aInline))] [] [] (jL ((tdyLS rec l).map aInline)) [] [] := by
 have hw_0 := wl_len (w := wInline) wInline_pos l
 refine BEG (fun r : List DInline => (jL (r.map aInline))) (tdyLS rec l) Tryz.func48 (by kernel_rfl) ?_
 refine UF (tdyLS.eq_1 ..) ?_
 refine GO (tn 5 z) (by kernel_rfl) ?_
 refine LP (fun N M S => ∃ gv3 : Nat, ∃ v3 : List DInline, ∃ v8 : Nat, (wl wInline v3 ≤ wl wInline (l.take v8)) ∧ (v3.length ≤ v8) ∧ (v8 ≤ l.length) ∧ (List.length l - v8 < N) ∧ M = tdyLS_L0 rec l N v3 v8 ∧ S = (sx 38 [(3, (.own (203, 42) gv3 10 (v3.map aInline))), (6, (jL (l.map aInline))), (7, (jI ((lenM aInline l : Nat) : Int))), (8, (jI ((v8 : Nat) : Int)))] [] [((203, 42), gv3)])) (by kernel_rfl) ⟨0, _, _, by simp [wl], by first | omega | assumption | (simp only [lenM_eq]; omega) | (simp; done) | (simp; omega), by first | omega | assumption | (simp only [lenM_eq]; omega) | (simp; done) | (simp; omega), by omega, rfl, rfl⟩ (WKf [(3, (.own (203, 42) 0 10 (([]).map aInline)))] (ac (show ((([]).map aInline) : List AV) = [] ∧ 0 < 42 ∧ (0 : Nat) = 0 from ⟨rfl, by decide, rfl⟩) an) (by kernel_rfl)) ?_
 rintro n0 M S ⟨gv3, v3, v8, hv, hv2, hi, hF0, rfl, rfl⟩
 obtain ⟨n0, rfl⟩ : ∃ k, n0 = k + 1 := ⟨n0 - 1, by omega⟩
 refine UF (tdyLS_L0.eq_2 ..) ?_
 have htl := wl_take_le (w := wInline) l v8
 refine GO (tn 1 z) (by kernel_rfl) ?_
 refine CSd (fun h1p h1 => ?_) (fun h1p h1 => ?_)
 ·have := lenM_eq aInline l
  have hce := wl_el (w := wInline) (l := l) (i := v8) (by omega)
  have hcw := wInline_eq (el l v8)
  simp only [wStr, w1] at hcw
  have htk := wl_take (w := wInline) (l := l) (i := v8) (by omega)
  have := hrb ((el l v8).fKids) (by omega) (by omega)
  refine GO (kb h1 (ke (el_aInline l v8 (by omega)) (tn 5 (kc (hrec ((el l v8).fKids) (by omega) (by omega)) (tn 6 (ks (((el l v8).fKind : Int) == 6) [22] z (tn 2 (ks (((el l v8).fKind : Int) == 7) [22] z (tn 2 z) z)) z)))))) (by kernel_rfl) ?_
  refine CS (fun h2 => ?_) (fun h2 => ?_)
  ·refine GO (kb h2 (tn 4 z)) (by kernel_rfl) ?_
   refine CSd (fun h3p h3 => ?_) (fun h3p h3 => ?_)
   ·have := lenM_eq aInline (rec ((el l v8).fKids))
    refine GO (kb h3 (tn 2 (kp (show Uni 10 [(.agg [(vI ((el l v8).fKind)), (vS ((el l v8).fText)), (vS ((el l v8).fDest)), (vS ((el l v8).fTitle)), (vS (((el l v8).fAttr).fID)), (.sl ((((el l v8).fAttr).fClasses).map strAV)), (.sl ((((el l v8).fAttr).fPairs).map aPair)), (.sl (((el l v8).fArgs).map strAV)), (.sl (((el l v8).fCites).map aCited)), (.sl ((rec ((el l v8).fKids)).map aInline))])] from (uni_one rfl rfl)) (kp (show (gv3 : Nat) = gv3 ∧ Uni 10 [(.agg [(vI ((el l v8).fKind)), (vS ((el l v8).fText)), (vS ((el l v8).fDest)), (vS ((el l v8).fTitle)), (vS (((el l v8).fAttr).fID)), (.sl ((((el l v8).fAttr).fClasses).map strAV)), (.sl ((((el l v8).fAttr).fPairs).map aPair)), (.sl (((el l v8).fArgs).map strAV)), (.sl (((el l v8).fCites).map aCited)), (.sl ((rec ((el l v8).fKids)).map aInline))])] ∧ (((v3.map aInline) : List AV).length + ([(.agg [(vI ((el l v8).fKind)), (vS ((el l v8).fText)), (vS ((el l v8).fDest)), (vS ((el l v8).fTitle)), (vS (((el l v8).fAttr).fID)), (.sl ((((el l v8).fAttr).fClasses).map strAV)), (.sl ((((el l v8).fAttr).fPairs).map aPair)), (.sl (((el l v8).fArgs).map strAV)), (.sl (((el l v8).fCites).map aCited)), (.sl ((rec ((el l v8).fKids)).map aInline))])] : List AV).length) * 192 ≤ 140737488355328 from ⟨rfl, uni_one rfl rfl, by first | omega | (simp; done) | (simp; omega)⟩) (kw (ap1_aInline v3 (DInline.mk ((el l v8).fKind) ((el l v8).fText) ((el l v8).fDest) ((el l v8).fTitle) ((el l v8).fAttr) ((el l v8).fArgs) ((el l v8).fCites) (rec ((el l v8).fKids)))) (tn 1 (kn (wrE (((v8 : Nat) : Int) + 1) ((v8 + 1 : Nat) : Int) (by omega)) (tn 1 z)))))))) (by kernel_rfl) ?_
    exact AG ⟨gv3 + 1, _, _, by first | (simp only [wl_append, wl, wInline_mk]; omega) | omega, by first | omega | assumption | (simp only [lenM_eq]; omega) | (simp; done) | (simp; omega), by first | omega | assumption | (simp only [lenM_eq]; omega) | (simp; done) | (simp; omega), by omega, rfl, rfl⟩ (WK (by kernel_rfl)) (by kernel_rfl) (Nat.lt_succ_self _)
   ·have := lenM_eq aInline (rec ((el l v8).fKids))
    refine GO (kb h3 (kn (wrE (((v8 : Nat) : Int) + 1) ((v8 + 1 : Nat) : Int) (by omega)) (tn 1 z))) (by kernel_rfl) ?_
    exact AG ⟨gv3, _, _, by first | (simp only [wl_append, wl, wInline_mk]; omega) | omega, by first | omega | assumption | (simp only [lenM_eq]; omega) | (simp; done) | (simp; omega), by first | omega | assumption | (simp only [lenM_eq]; omega) | (simp; done) | (simp; omega), by omega, rfl, rfl⟩ (WK (by kernel_rfl)) (by kernel_rfl) (Nat.lt_succ_self _)
  ·refine GO (kb h2 (tn 2 (kp (show Uni 10 [(.agg [(vI ((el l v8).fKind)), (vS ((el l v8).fText)), (vS ((el l v8).fDest)), (vS ((el l v8).fTitle)), (vS (((el l v8).fAttr).fID)), (.sl ((((el l v8).fAttr).fClasses).map strAV)), (.sl ((((el l v8).fAttr).fPairs).map aPair)), (.sl (((el l v8).fArgs).map strAV)), (.sl (((el l v8).fCites).map aCited)), (.sl ((rec ((el l v8).fKids)).map aInline))])] from (uni_one rfl rfl)) (kp (show (gv3 : Nat) = gv3 ∧ Uni 10 [(.agg [(vI ((el l v8).fKind)), (vS ((el l v8).fText)), (vS ((el l v8).fDest)), (vS ((el l v8).fTitle)), (vS (((el l v8).fAttr).fID)), (.sl ((((el l v8).fAttr).fClasses).map strAV)), (.sl ((((el l v8).fAttr).fPairs).map aPair)), (.sl (((el l v8).fArgs).map strAV)), (.sl (((el l v8).fCites).map aCited)), (.sl ((rec ((el l v8).fKids)).map aInline))])] ∧ (((v3.map aInline) : List AV).length + ([(.agg [(vI ((el l v8).fKind)), (vS ((el l v8).fText)), (vS ((el l v8).fDest)), (vS ((el l v8).fTitle)), (vS (((el l v8).fAttr).fID)), (.sl ((((el l v8).fAttr).fClasses).map strAV)), (.sl ((((el l v8).fAttr).fPairs).map aPair)), (.sl (((el l v8).fArgs).map strAV)), (.sl (((el l v8).fCites).map aCited)), (.sl ((rec ((el l v8).fKids)).map aInline))])] : List AV).length) * 192 ≤ 140737488355328 from ⟨rfl, uni_one rfl rfl, by first | omega | (simp; done) | (simp; omega)⟩) (kw (ap1_aInline v3 (DInline.mk ((el l v8).fKind) ((el l v8).fText) ((el l v8).fDest) ((el l v8).fTitle) ((el l v8).fAttr) ((el l v8).fArgs) ((el l v8).fCites) (rec ((el l v8).fKids)))) (tn 1 (kn (wrE (((v8 : Nat) : Int) + 1) ((v8 + 1 : Nat) : Int) (by omega)) (tn 1 z)))))))) (by kernel_rfl) ?_
   exact AG ⟨gv3 + 1, _, _, by first | (simp only [wl_append, wl, wInline_mk]; omega) | omega, by first | omega | assumption | (simp only [lenM_eq]; omega) | (simp; done) | (simp; omega), by first | omega | assumption | (simp only [lenM_eq]; omega) | (simp; done) | (simp; omega), by omega, rfl, rfl⟩ (WK (by kernel_rfl)) (by kernel_rfl) (Nat.lt_succ_self _)
 ·have := lenM_eq aInline l
  refine GO (kb h1 z) (by kernel_rfl) ?_
  have := mrgL_bd v3
  have := sngL_bd (mrgL v3)
  refine OUT (tn 1 (kc (mrgL_to v3 (by omega)) (kc (sngL_to (mrgL v3) (by omega)) (tn 1 z)))) (by kernel_rfl) ?_
  exact EN (by kernel_rfl)
def tdyLN : Nat → (List DInline) → List DInline
 | 0, _ => default
 | n + 1, l => tdyLS (tdyLN n) l
theorem tdyLS_L0_eq (rec : (List DInline) → List DInline) (l : List DInline) : ∀ (n : Nat) (acc : List DInline) (i : Nat), l.length - i < n → tdyLS_L0 rec l n acc i = sngL (mrgL (acc ++ (l.drop i).flatMap (fun x => tdk (rec x.fKids) x)))
 | 0, acc, i, h => by omega
 | n + 1, acc, i, h => by
  have hl := lenM_eq aInline l
  rw [tdyLS_L0]
  by_cases hi : i < l.length
  ·have hlk := lenM_eq aInline (rec (el l i).fKids)
   rw [dT (by omega), cond_true, drop_el hi, List.flatMap_cons, ← List.append_assoc]
   show cond (emk (el l i).fKind) (cond _ (tdyLS_L0 rec l n (acc ++ [setKids (el l i) (rec (el l i).fKids)]) (i + 1)) _) (tdyLS_L0 rec l n (acc ++ [setKids (el l i) (rec (el l i).fKids)]) (i + 1)) = _
   rw [tdyLS_L0_eq rec l n _ _ (by omega), tdyLS_L0_eq rec l n _ _ (by omega), tdk]
   cases hk : emk (el l i).fKind with
   | false => simp
   | true =>
    by_cases hz : rec (el l i).fKids = []
    ·rw [dF (by rw [hz] at hlk ⊢; simp [lenM])]; simp [hz]
    ·have := List.length_pos_iff.2 hz
     rw [dT (by omega)]; simp [hz]
  ·rw [dF (by omega), cond_false, List.drop_eq_nil_of_le (by omega)]
   simp
theorem tdyLS_eq (rec : (List DInline) → List DInline) (l : List DInline) : tdyLS rec l = sngL (mrgL (l.flatMap (fun x => tdk (rec x.fKids) x))) := by
 rw [tdyLS, tdyLS_L0_eq rec l _ _ _ (by omega)]; simp
theorem tdk_wl (ks : List DInline) (x : DInline) (h : wl wInline ks ≤ wl wInline x.fKids) : wl wInline (tdk ks x) ≤ wInline x := by
 rw [tdk]; split
 ·simp [wl]
 ·have := setKids_wl x ks h; simp only [wl]; omega
theorem tdyLN_bd : ∀ (n : Nat) (l : List DInline), wl wInline l < n → wl wInline l ≤ 536870912 → wl wInline (tdyLN n l) ≤ wl wInline l
 | 0, l, h, _ => by omega
 | n + 1, l, h, hl => by
  rw [tdyLN, tdyLS_eq]
  refine Nat.le_trans (sngL_bd _) (Nat.le_trans (mrgL_bd _) (flat_wl (fun x hx => tdk_wl _ _ ?_)))
  have h1 := wl_mem (w := wInline) hx
  have h2 := wInline_eq x
  exact tdyLN_bd n x.fKids (by omega) (by omega)
theorem tdyLN_to : ∀ (n : Nat) (l : List DInline), wl wInline l < n → wl wInline l ≤ 536870912 → CallTo Tryz.prog 48 [(jL (l.map aInline))] [] [] (jL ((tdyLN n l).map aInline)) [] []
 | 0, l, h0, _ => absurd h0 (Nat.not_lt_zero _)
 | n + 1, l, h0, hl => by
  exact tdyL_st (tdyLN n) l hl (fun l' q1 hl' => tdyLN_to n l' (by omega) hl') (fun l' q1 hl' => tdyLN_bd n l' (by omega) hl')
def tdyL (l : List DInline) : List DInline := tdyLN (wl wInline l + 1) l
theorem tdyL_to (l : List DInline) (hl : wl wInline l ≤ 536870912) : CallTo Tryz.prog 48 [(jL (l.map aInline))] [] [] (jL ((tdyL l).map aInline)) [] [] := tdyLN_to _ l (Nat.lt_succ_self _) hl
theorem tdyL_bd (l : List DInline) (hl : wl wInline l ≤ 536870912) : wl wInline (tdyL l) ≤ wl wInline l := tdyLN_bd _ l (Nat.lt_succ_self _) hl
end Go.Proofs.YtdaglbjgdakmcaaGreat
namespace Go.Proofs.YtdaglbjgdakmcaaGreat
open Go Go.Eng
def rtdL_L1 (l : List DInline) (v3 : List DInline) (v4 : Nat) (k0 : (List DInline) → Nat → List DInline) : Nat → (List DInline) → Nat → List DInline
 | 0, _, _ => default
 | n1 + 1, w6, w7 => cond (decide (((w7 : Nat) : Int) < ((lenM aInline (rmgL v3) : Nat) : Int))) (cond (cond (cond (((el (rmgL v3) w7).fKind : Int) == 2) (decide (((lenM aInline w6 : Nat) : Int) > 0)) false) (brk ((el w6 (Int.toNat (((lenM aInline w6 : Nat) : Int) - 1))).fKind)) false) (rtdL_L1 l v3 v4 k0 n1 w6 (w7 + 1)) (rtdL_L1 l v3 v4 k0 n1 (w6 ++ ([el (rmgL v3) w7])) (w7 + 1))) w6
def rtdL_L0 (l : List DInline) : Nat → (List DInline) → Nat → List DInline
 | 0, _, _ => default
 | n0 + 1, v3, v4 => cond (decide (((v4 : Nat) : Int) < ((lenM aInline l : Nat) : Int))) (cond (cond (cond (cond (((el l v4).fKind : Int) == 6) true (((el l v4).fKind : Int) == 7)) true (((el l v4).fKind : Int) == 8)) (((lenM aInline ((el l v4).fKids) : Nat) : Int) == 0) false) (rtdL_L0 l n0 v3 (v4 + 1)) (rtdL_L0 l n0 (v3 ++ ([el l v4])) (v4 + 1))) (rtdL_L1 l v3 v4 (rtdL_L0 l n0) ((List.length (rmgL v3) - 0) + 1) ([]) 0)
def rtdL (l : List DInline) : List DInline := rtdL_L0 l ((List.length l - 0) + 1) ([]) 0
theorem rtdL_to (l : List DInline) (hl : wl wInline l ≤ 536870912) : CallTo Tryz.prog 71 [(jL (l.map aInline))] [] [] (jL ((rtdL l).map aInline)) [] [] := by
 have hw_0 := wl_len (w := wInline) wInline_pos l
 refine BEG (fun r : List DInline => (jL (r.map aInline))) (rtdL l) Tryz.func71 (by kernel_rfl) ?_
 refine UF (rtdL.eq_1 ..) ?_
 refine GO (tn 3 z) (by kernel_rfl) ?_
 refine LP (fun N M S => ∃ gv3 : Nat, ∃ v3 : List DInline, ∃ v4 : Nat, (wl wInline v3 ≤ wl wInline (l.take v4)) ∧ (v3.length ≤ v4) ∧ (v4 ≤ l.length) ∧ (List.length l - v4 < N) ∧ M = rtdL_L0 l N v3 v4 ∧ S = (sx 82 [(0, (jL (l.map aInline))), (3, (.own (203, 42) gv3 10 (v3.map aInline))), (4, (jI ((v4 : Nat) : Int)))] [] [((203, 42), gv3)])) (by kernel_rfl) ⟨0, _, _, by simp [wl], by first | omega | assumption | (simp only [lenM_eq]; omega) | (simp; done) | (simp; omega), by first | omega | assumption | (simp only [lenM_eq]; omega) | (simp; done) | (simp; omega), by omega, rfl, rfl⟩ (WKf [(3, (.own (203, 42) 0 10 (([]).map aInline)))] (ac (show ((([]).map aInline) : List AV) = [] ∧ 0 < 42 ∧ (0 : Nat) = 0 from ⟨rfl, by decide, rfl⟩) an) (by kernel_rfl)) ?_
 rintro n0 M S ⟨gv3, v3, v4, hv, hv2, hi, hF0, rfl, rfl⟩
 obtain ⟨n0, rfl⟩ : ∃ k, n0 = k + 1 := ⟨n0 - 1, by omega⟩
 refine UF (rtdL_L0.eq_2 ..) ?_
 have htl := wl_take_le (w := wInline) l v4
 refine GO (tn 4 z) (by kernel_rfl) ?_
 refine CSd (fun h1p h1 => ?_) (fun h1p h1 => ?_)
 ·have := lenM_eq aInline l
  have hce := wl_el (w := wInline) (l := l) (i := v4) (by omega)
  have hcw := wInline_eq (el l v4)
  simp only [wStr, w1] at hcw
  have htk := wl_take (w := wInline) (l := l) (i := v4) (by omega)
  refine GO (kb h1 (tn 2 (ke (el_aInline l v4 (by omega)) (tn 6 (kj (((el l v4).fKind : Int) == 6) z (tn 2 z) (tn 1 (kj (cond (((el l v4).fKind : Int) == 6) true (((el l v4).fKind : Int) == 7)) z (tn 2 z) (tn 1 (kj (cond (cond (((el l v4).fKind : Int) == 6) true (((el l v4).fKind : Int) == 7)) true (((el l v4).fKind : Int) == 8)) (tn 2 (he (fun h => by have j0 := h.2; exact (el_aInline l v4 (by omega))) (tn 4 z))) z z))))))))) (by kernel_rfl) ?_
  refine CS (fun h2 => ?_) (fun h2 => ?_)
  ·have := lenM_eq aInline ((el l v4).fKids)
   obtain ⟨h2a, h2o⟩ := cond_ff h2
   have := lenM_eq aInline ((el l v4).fKids)
   have h2op := eq_of_beq h2o
   refine GO (kb h2 (tn 1 (kn (wrE (((v4 : Nat) : Int) + 1) ((v4 + 1 : Nat) : Int) (by omega)) (tn 1 z)))) (by kernel_rfl) ?_
   exact AG ⟨gv3, _, _, by first | (simp only [wl_append, wl]; omega) | omega, by first | omega | assumption | (simp only [lenM_eq]; omega) | (simp; done) | (simp; omega), by first | omega | assumption | (simp only [lenM_eq]; omega) | (simp; done) | (simp; omega), by omega, rfl, rfl⟩ (WK (by kernel_rfl)) (by kernel_rfl) (Nat.lt_succ_self _)
  ·have := lenM_eq aInline ((el l v4).fKids)
   refine GO (kb h2 (tn 3 (ke (el_aInline l v4 (by omega)) (tn 1 (kp (show Uni 10 [(cInline (el l v4))] from (uni_one rfl rfl)) (kp (show (gv3 : Nat) = gv3 ∧ Uni 10 [(cInline (el l v4))] ∧ (((v3.map aInline) : List AV).length + ([(cInline (el l v4))] : List AV).length) * 192 ≤ 140737488355328 from ⟨rfl, uni_one rfl rfl, by first | omega | (simp; done) | (simp; omega)⟩) (kw (ap1_aInline v3 (el l v4)) (tn 2 (kn (wrE (((v4 : Nat) : Int) + 1) ((v4 + 1 : Nat) : Int) (by omega)) (tn 1 z)))))))))) (by kernel_rfl) ?_
   exact AG ⟨gv3 + 1, _, _, by first | (simp only [wl_append, wl]; omega) | omega, by first | omega | assumption | (simp only [lenM_eq]; omega) | (simp; done) | (simp; omega), by first | omega | assumption | (simp only [lenM_eq]; omega) | (simp; done) | (simp; omega), by omega, rfl, rfl⟩ (WK (by kernel_rfl)) (by kernel_rfl) (Nat.lt_succ_self _)
 ·have := lenM_eq aInline l
  refine GO (kb h1 z) (by kernel_rfl) ?_
  have := rmgL_bd v3
  refine OUT (tn 1 (kc (rmgL_to v3 (by omega)) (tn 3 z))) (by kernel_rfl) ?_
  refine LP (fun N M S => ∃ gw6 : Nat, ∃ w6 : List DInline, ∃ w7 : Nat, (w6.length ≤ w7) ∧ (w7 ≤ (rmgL v3).length) ∧ (List.length (rmgL v3) - w7 < N) ∧ M = rtdL_L1 l v3 v4 (rtdL_L0 l n0) N w6 w7 ∧ S = (sx 82 [(3, (jL ((rmgL v3).map aInline))), (6, (.own (206, 42) gw6 10 (w6.map aInline))), (7, (jI ((w7 : Nat) : Int)))] [] [((206, 42), gw6), ((203, 42), gv3)])) (by kernel_rfl) ⟨0, _, _, by first | omega | assumption | (simp only [lenM_eq]; omega) | (simp; done) | (simp; omega), by first | omega | assumption | (simp only [lenM_eq]; omega) | (simp; done) | (simp; omega), by omega, rfl, rfl⟩ (WKf [(6, (.own (206, 42) 0 10 (([]).map aInline)))] (ac (show ((([]).map aInline) : List AV) = [] ∧ 0 < 42 ∧ (0 : Nat) = 0 from ⟨rfl, by decide, rfl⟩) an) (by kernel_rfl)) ?_
  rintro n1 M S ⟨gw6, w6, w7, hw, hw2, hF1, rfl, rfl⟩
  obtain ⟨n1, rfl⟩ : ∃ k, n1 = k + 1 := ⟨n1 - 1, by omega⟩
  refine UF (rtdL_L1.eq_2 ..) ?_
  have hrb := rmgL_bd v3
  have hrl := wl_len (w := wInline) wInline_pos (rmgL v3)
  have htl := wl_take_le (w := wInline) l v4
  refine GO (tn 4 z) (by kernel_rfl) ?_
  refine CSd (fun h3p h3 => ?_) (fun h3p h3 => ?_)
  ·have := lenM_eq aInline (rmgL v3)
   refine GO (kb h3 (tn 2 (ke (el_aInline (rmgL v3) w7 (by omega)) (tn 4 (kj (((el (rmgL v3) w7).fKind : Int) == 2) (tn 3 z) z (tn 1 (kj (cond (((el (rmgL v3) w7).fKind : Int) == 2) (decide (((lenM aInline w6 : Nat) : Int) > 0)) false) (tn 3 (hn (fun h => by have j0 := h.2; have := lenM_eq aInline w6; obtain ⟨j0a, j0o⟩ := cond_ff j0; have j0ap := eq_of_beq j0a; have := lenM_eq aInline w6; have j0op := of_decide_eq_true j0o; exact (wrE (((lenM aInline w6 : Nat) : Int) - 1) (((lenM aInline w6 : Nat) : Int) - 1) (by omega))) (he (fun h => by have j0 := h.2; have := lenM_eq aInline w6; obtain ⟨j0a, j0o⟩ := cond_ff j0; have j0ap := eq_of_beq j0a; have := lenM_eq aInline w6; have j0op := of_decide_eq_true j0o; exact (elI_aInline w6 (((lenM aInline w6 : Nat) : Int) - 1) (by omega) (by omega))) (tn 2 (kc (brk_to ((el w6 (Int.toNat (((lenM aInline w6 : Nat) : Int) - 1))).fKind)) z))))) z z))))))) (by kernel_rfl) ?_
   refine CS (fun h4 => ?_) (fun h4 => ?_)
   ·have := lenM_eq aInline w6
    obtain ⟨h4a, h4o⟩ := cond_ff h4
    have := lenM_eq aInline w6
    obtain ⟨h4aa, h4ao⟩ := cond_ff h4a
    have h4aap := eq_of_beq h4aa
    have := lenM_eq aInline w6
    have h4aop := of_decide_eq_true h4ao
    have := lenM_eq aInline w6
    refine GO (kb h4 (tn 1 (kn (wrE (((w7 : Nat) : Int) + 1) ((w7 + 1 : Nat) : Int) (by omega)) (tn 1 z)))) (by kernel_rfl) ?_
    exact AG ⟨gw6, _, _, by first | omega | assumption | (simp only [lenM_eq]; omega) | (simp; done) | (simp; omega), by first | omega | assumption | (simp only [lenM_eq]; omega) | (simp; done) | (simp; omega), by omega, rfl, rfl⟩ (WK (by kernel_rfl)) (by kernel_rfl) (Nat.lt_succ_self _)
   ·have := lenM_eq aInline w6
    refine GO (kb h4 (tn 3 (ke (el_aInline (rmgL v3) w7 (by omega)) (tn 1 (kp (show Uni 10 [(cInline (el (rmgL v3) w7))] from (uni_one rfl rfl)) (kp (show (gw6 : Nat) = gw6 ∧ Uni 10 [(cInline (el (rmgL v3) w7))] ∧ (((w6.map aInline) : List AV).length + ([(cInline (el (rmgL v3) w7))] : List AV).length) * 192 ≤ 140737488355328 from ⟨rfl, uni_one rfl rfl, by first | omega | (simp; done) | (simp; omega)⟩) (kw (ap1_aInline w6 (el (rmgL v3) w7)) (tn 2 (kn (wrE (((w7 : Nat) : Int) + 1) ((w7 + 1 : Nat) : Int) (by omega)) (tn 1 z)))))))))) (by kernel_rfl) ?_
    exact AG ⟨gw6 + 1, _, _, by first | omega | assumption | (simp only [lenM_eq]; omega) | (simp; done) | (simp; omega), by first | omega | assumption | (simp only [lenM_eq]; omega) | (simp; done) | (simp; omega), by omega, rfl, rfl⟩ (WK (by kernel_rfl)) (by kernel_rfl) (Nat.lt_succ_self _)
  ·have := lenM_eq aInline (rmgL v3)
   refine GO (kb h3 z) (by kernel_rfl) ?_
   refine OUT (tn 2 z) (by kernel_rfl) ?_
   exact EN (by kernel_rfl)
end Go.Proofs.YtdaglbjgdakmcaaGreat
namespace Go.Proofs.YtdaglbjgdakmcaaGreat
open Go Go.Eng
theorem getR_L0_eq (a : DAttr) (key : ByteArray) : ∀ n i, getR_L0 a key n i = getP_L0 a key n i
 | 0, _ => rfl
 | n + 1, i => by rw [getR_L0, getP_L0, getR_L0_eq a key n]
theorem getR_eq (a : DAttr) (key : ByteArray) : getR a key = getP a key := getR_L0_eq a key _ _
theorem getR_sz (a : DAttr) (k : ByteArray) : (getR a k).1.size ≤ wAttr a := by rw [getR_eq]; exact getP_sz a k
def sgR (acc : List DInline) (x : DInline) : List DInline := cond (cond (cond ((x.fKind : Int) == 2) (decide (((lenM aInline acc : Nat) : Int) > 0)) false) (brk ((el acc (Int.toNat (((lenM aInline acc : Nat) : Int) - 1))).fKind)) false) acc (acc ++ [x])
def keepR (x : DInline) : Bool := !(cond (cond (cond ((x.fKind : Int) == 6) true ((x.fKind : Int) == 7)) true ((x.fKind : Int) == 8)) (((lenM aInline x.fKids : Nat) : Int) == 0) false)
theorem rtdL_L1_eq (l v3 : List DInline) (v4 : Nat) (k0 : List DInline → Nat → List DInline) : ∀ (n : Nat) (acc : List DInline) (i : Nat), (rmgL v3).length - i < n → rtdL_L1 l v3 v4 k0 n acc i = ((rmgL v3).drop i).foldl sgR acc
 | 0, acc, i, h => by omega
 | n + 1, acc, i, h => by
  have hl := lenM_eq aInline (rmgL v3)
  rw [rtdL_L1]
  by_cases hi : i < (rmgL v3).length
  ·rw [dT (by omega), cond_true, drop_el hi, List.foldl_cons, rtdL_L1_eq l v3 v4 k0 n _ _ (by omega), rtdL_L1_eq l v3 v4 k0 n _ _ (by omega), sgR]
   generalize el (rmgL v3) i = x
   cases cond (cond ((x.fKind : Int) == 2) (decide (((lenM aInline acc : Nat) : Int) > 0)) false) (brk ((el acc (Int.toNat (((lenM aInline acc : Nat) : Int) - 1))).fKind)) false <;> rfl
  ·rw [dF (by omega), cond_false, List.drop_eq_nil_of_le (by omega)]; rfl
theorem rtdL_L0_eq (l : List DInline) : ∀ (n : Nat) (acc : List DInline) (i : Nat), l.length - i < n → rtdL_L0 l n acc i = (rmgL (acc ++ (l.drop i).filter keepR)).foldl sgR []
 | 0, acc, i, h => by omega
 | n + 1, acc, i, h => by
  have hl := lenM_eq aInline l
  rw [rtdL_L0]
  by_cases hi : i < l.length
  ·rw [dT (by omega), cond_true, drop_el hi, rtdL_L0_eq l n _ _ (by omega), rtdL_L0_eq l n _ _ (by omega), List.filter_cons]
   generalize hx : el l i = x
   have hk : keepR x = !(cond (cond (cond ((x.fKind : Int) == 6) true ((x.fKind : Int) == 7)) true ((x.fKind : Int) == 8)) (((lenM aInline x.fKids : Nat) : Int) == 0) false) := rfl
   cases hc : cond (cond (cond ((x.fKind : Int) == 6) true ((x.fKind : Int) == 7)) true ((x.fKind : Int) == 8)) (((lenM aInline x.fKids : Nat) : Int) == 0) false with
   | true => rw [hc] at hk; simp [hk]
   | false => rw [hc] at hk; simp [hk]
  ·rw [dF (by omega), cond_false, List.drop_eq_nil_of_le (by omega), List.filter_nil, List.append_nil]
   exact rtdL_L1_eq l acc i (rtdL_L0 l n) _ [] 0 (by omega)
theorem rtdL_eq (l : List DInline) : rtdL l = (rmgL (l.filter keepR)).foldl sgR [] := by
 rw [rtdL, rtdL_L0_eq l _ _ _ (by omega)]; simp
theorem filter_wl {α : Type} {w : α → Nat} (p : α → Bool) : ∀ l : List α, wl w (l.filter p) ≤ wl w l
 | [] => Nat.le_refl _
 | x :: l => by
  have := filter_wl (w := w) p l
  rw [List.filter_cons]; split <;> simp only [wl] <;> omega
theorem rtdL_bd (l : List DInline) : wl wInline (rtdL l) ≤ wl wInline l := by
 rw [rtdL_eq]
 refine Nat.le_trans (foldl_wl (w := wInline) _ [] (fun x _ acc => ?_)) (by simp only [wl, Nat.zero_add]; exact Nat.le_trans (rmgL_bd _) (filter_wl _ _))
 unfold sgR
 cases cond (cond ((x.fKind : Int) == 2) (decide (((lenM aInline acc : Nat) : Int) > 0)) false) (brk ((el acc (Int.toNat (((lenM aInline acc : Nat) : Int) - 1))).fKind)) false with
 | true => rw [cond_true]; omega
 | false => rw [cond_false, wl_append]; simp [wl]
end Go.Proofs.YtdaglbjgdakmcaaGreat
namespace Go.Proofs.YtdaglbjgdakmcaaGreat
open Go Go.Eng
set_option maxHeartbeats 2000000 in
theorem rEval_to (s : ByteArray) (hs : s.size ≤ maxLen) (fl : List ByteArray) (hfl : fl.length ≤ maxLen) : CallTo Tryz.prog 49 [(jS s), (jL (fl.map strAV))] [] [] (.av (.tup [.val (.bool (evalR s fl).1), .val (.int .i64 (evalR s fl).2)])) [] [] := by
 refine CallTo_of_body (n := 19) Tryz.func49 rfl (by kernel_rfl) Tryz.ntmps49 (by simp) (by simp) (by simp) (by simp [OkSV, SV.keys, ABox.svs, PV.keys]) (by simp [OkSV, SV.keys, ABox.svs, PV.keys]) (by simp [OkSV, SV.keys, ABox.svs, PV.keys]) (by simp [OkSV, SV.keys, ABox.svs, PV.keys]) rfl rfl ?_
 refine W_eq (sx 19 [(0, (jS s)), (1, (jL (fl.map strAV)))] [] []) (by kernel_rfl) ?_
 refine WN ?_
 refine GO (tn 3 (kg (Read_to s (by assumption)) trivial (tn 8 z))) (by kernel_rfl) ?_
 rcases Bool.eq_false_or_eq_true (((readR s).2 : Int) != 0) with hb1 | hb1
 ·have hb1p := bne_iff_ne.1 hb1
  refine GO (kb hb1 (tn 3 z)) (by kernel_rfl) ?_
  exact LEAF .ret (S2 := (sx 19 [(4, (jB false)), (5, (jI ((readR s).2)))] [] [])) (by kernel_rfl) (WK (by kernel_rfl)) (ends (r := (.av (.tup [(vB false), (vI ((readR s).2))]))) (by simp) (by kernel_rfl) (by rw [evalR]; first | (rw [if_pos (by assumption)]; done) | (rw [if_neg (by assumption)]; done)) (by simp) (by simp))
 ·have hb1p := eq_of_bne_false hb1
  refine GO (kb hb1 (tn 2 (kg (show CallTo Tryz.prog 69 [(.av (.agg [(vI (Nd.kind ((readR s).1))), (vS (Nd.name ((readR s).1))), (.sl (av2 (Nd.kids ((readR s).1))))])), (jL (fl.map strAV))] [] [] (jB (valR fl ((readR s).1))) [] [] from (valueR_to fl hfl _ (ok_readR s))) trivial (tn 2 z)))) (by kernel_rfl) ?_
  exact LEAF .ret (S2 := (sx 19 [(4, (jB (valR fl ((readR s).1)))), (5, (jI 0))] [] [])) (by kernel_rfl) (WK (by kernel_rfl)) (ends (r := (.av (.tup [(vB (valR fl ((readR s).1))), (vI 0)]))) (by simp) (by kernel_rfl) (by rw [evalR]; first | (rw [if_pos (by assumption)]; done) | (rw [if_neg (by assumption)]; done)) (by simp) (by simp))
end Go.Proofs.YtdaglbjgdakmcaaGreat
namespace Go.Proofs.YtdaglbjgdakmcaaGreat
open Go Go.Eng
def linPS_L0 (rec : (List ByteArray) → (List DInline) → List DInline × Int) (w : List ByteArray) (l : List DInline) : Nat → (List DInline) → Nat → (List DInline × Int)
 | 0, _, _ => default
 | n0 + 1, v6, v17 => cond (decide (((v17 : Nat) : Int) < ((lenM aInline l : Nat) : Int))) (cond (cond (((el l v17).fKind : Int) == 11) ((getP ((el l v17).fAttr) (⟨#[119, 104, 101, 110]⟩)).2) false) (cond (((hldP w (cond (((el l v17).fKind : Int) == 11) ((getP ((el l v17).fAttr) (⟨#[119, 104, 101, 110]⟩)).1) (⟨#[]⟩))).2 : Int) != 0) ([], (hldP w (cond (((el l v17).fKind : Int) == 11) ((getP ((el l v17).fAttr) (⟨#[119, 104, 101, 110]⟩)).1) (⟨#[]⟩))).2) (cond (!(hldP w (cond (((el l v17).fKind : Int) == 11) ((getP ((el l v17).fAttr) (⟨#[119, 104, 101, 110]⟩)).1) (⟨#[]⟩))).1) (linPS_L0 rec w l n0 v6 (v17 + 1)) (cond (((rec w ((el l v17).fKids)).2 : Int) != 0) ([], (rec w ((el l v17).fKids)).2) (linPS_L0 rec w l n0 (v6 ++ ((rec w ((el l v17).fKids)).1)) (v17 + 1))))) (cond (((rec w ((el l v17).fKids)).2 : Int) != 0) ([], (rec w ((el l v17).fKids)).2) (linPS_L0 rec w l n0 (v6 ++ ([DInline.mk ((el l v17).fKind) ((el l v17).fText) ((el l v17).fDest) ((el l v17).fTitle) (cpyA ((el l v17).fAttr)) ((el l v17).fArgs) ((el l v17).fCites) ((rec w ((el l v17).fKids)).1)])) (v17 + 1)))) (v6, 0)
def linPS (rec : (List ByteArray) → (List DInline) → List DInline × Int) (w : List ByteArray) (l : List DInline) : (List DInline × Int) := linPS_L0 rec w l ((List.length l - 0) + 1) ([]) 0
theorem linP_st (rec : (List ByteArray) → (List DInline) → List DInline × Int) (w : List ByteArray) (l : List DInline) (hl : wl wInline l ≤ 536870912) (hrec : ∀ (w' : List ByteArray) (l' : List DInline), wl wInline l' < wl wInline l → wl wInline l' ≤ 536870912 → CallTo Tryz.prog 45 [(.av (.agg [(.rm (setF w' []) (trues (setF w' [])))])), (jL ((l').map aInline))] [] [] (.av (.tup [(.sl (((rec w' l').1).map aInline)), (vI ((rec w' l').2))])) [] []) (hrb : ∀ (w' : List ByteArray) (l' : List DInline), wl wInline l' < wl wInline l → wl wInline l' ≤ 536870912 → wl wInline (rec w' l').1 ≤ wl wInline l') : CallTo Tryz.prog 45 [(.av (.agg [(.rm (setF w []) (trues (setF w [])))])), (jL (l.map aInline))] [] [] (.av (.tup [(.sl (((linPS rec w l).1).map aInline)), (vI ((linPS rec w l).2))])) [] [] := by
 have hw_0 := wl_len (w := wInline) wInline_pos l
 refine BEG (fun r : (List DInline × Int) => (.av (.tup [(.sl (r.1.map aInline)), (vI r.2)]))) (linPS rec w l) Tryz.func45 (by kernel_rfl) ?_
 refine UF (linPS.eq_1 ..) ?_
 refine GO (tn 7 z) (by kernel_rfl) ?_
 refine LP (fun N M S => ∃ gv6 : Nat, ∃ v6 : List DInline, ∃ v17 : Nat, ∃ gvk64_10 : Nat, ∃ gvk68_97 : Nat, (wl wInline v6 ≤ wl wInline (l.take v17)) ∧ (v17 ≤ l.length) ∧ (List.length l - v17 < N) ∧ M = linPS_L0 rec w l N v6 v17 ∧ S = (sx 76 [(2, (.ptr 2 0)), (6, (.own (206, 42) gv6 10 (v6.map aInline))), (15, (jL (l.map aInline))), (16, (jI ((lenM aInline l : Nat) : Int))), (17, (jI ((v17 : Nat) : Int)))] [(2, (.cells 57 [(.av (.rm (setF w []) (trues (setF w []))))]))] [((206, 42), gv6), ((64, 10), gvk64_10), ((68, 97), gvk68_97)])) (by kernel_rfl) ⟨0, _, _, 0, 0, by simp [wl], by first | omega | assumption | (simp only [lenM_eq]; omega) | (simp; done) | (simp; omega), by omega, rfl, rfl⟩ (WKf [(6, (.own (206, 42) 0 10 (([]).map aInline)))] (ac (show ((([]).map aInline) : List AV) = [] ∧ 0 < 42 ∧ (0 : Nat) = 0 from ⟨rfl, by decide, rfl⟩) an) (by kernel_rfl)) ?_
 rintro n0 M S ⟨gv6, v6, v17, gvk64_10, gvk68_97, hv, hi, hF0, rfl, rfl⟩
 obtain ⟨n0, rfl⟩ : ∃ k, n0 = k + 1 := ⟨n0 - 1, by omega⟩
 refine UF (linPS_L0.eq_2 ..) ?_
 refine GO (tn 1 z) (by kernel_rfl) ?_
 refine CSd (fun h1p h1 => ?_) (fun h1p h1 => ?_)
 ·have := lenM_eq aInline l
  have hce := wl_el (w := wInline) (l := l) (i := v17) (by omega)
  have hcw := wInline_eq (el l v17)
  simp only [wStr, w1] at hcw
  have htk := wl_take (w := wInline) (l := l) (i := v17) (by omega)
  have hca := wAttr_eq (el l v17).fAttr
  have hcp := wl_len (w := wPair) wPair_pos (el l v17).fAttr.fPairs
  have hcr := wl_len (w := wStr) wStr_pos (el l v17).fArgs
  have hcc := wl_len (w := wCited) wCited_pos (el l v17).fCites
  have hvl := wl_len (w := wInline) wInline_pos v6
  have htl := wl_take_le (w := wInline) l v17
  refine GO (kb h1 (ke (el_aInline l v17 (by omega)) (tn 8 (ks (((el l v17).fKind : Int) == 11) [9, 10] (tn 2 (hc (fun h => by have j0 := h.2; have j0p := eq_of_beq j0; have := getP_sz ((el l v17).fAttr) (⟨#[119, 104, 101, 110]⟩); exact (getP_to ((el l v17).fAttr) (⟨#[119, 104, 101, 110]⟩) (by omega))) (tn 5 z))) z (tn 1 z))))) (by kernel_rfl) ?_
  refine CS (fun h2 => ?_) (fun h2 => ?_)
  ·have hsz := size_cond (((el l v17).fKind : Int) == 11) (getP ((el l v17).fAttr) (⟨#[119, 104, 101, 110]⟩)).1 ⟨#[]⟩
   have hgs := getP_sz ((el l v17).fAttr) (⟨#[119, 104, 101, 110]⟩)
   rw [size_e0] at hsz
   obtain ⟨h2a, h2o⟩ := cond_ff h2
   have h2ap := eq_of_beq h2a
   refine GO (kb h2 (tn 2 (kc (hldP_to w (cond (((el l v17).fKind : Int) == 11) ((getP ((el l v17).fAttr) (⟨#[119, 104, 101, 110]⟩)).1) (⟨#[]⟩)) (by omega)) (tn 7 z)))) (by kernel_rfl) ?_
   refine CSn (fun h3p h3 => ?_) (fun h3p h3 => ?_)
   ·refine GO (kb h3 (tn 3 z)) (by kernel_rfl) ?_
    refine OUT z (by kernel_rfl) ?_
    exact EN (by kernel_rfl)
   ·refine GO (kb h3 (tn 2 z)) (by kernel_rfl) ?_
    refine CS (fun h4 => ?_) (fun h4 => ?_)
    ·have h4n := nott h4
     refine GO (kb h4 (kn (wrE (((v17 : Nat) : Int) + 1) ((v17 + 1 : Nat) : Int) (by omega)) (tn 1 z))) (by kernel_rfl) ?_
     exact AG ⟨gv6, _, _, gvk64_10, gvk68_97, by first | (simp only [wl_append, wl, wInline_mk, wBlock_mk, cpyA]; omega) | omega, by first | omega | assumption | (simp only [lenM_eq]; omega) | (simp; done) | (simp; omega), by omega, rfl, rfl⟩ (WK (by kernel_rfl)) (by kernel_rfl) (Nat.lt_succ_self _)
    ·have h4n := notf h4
     have := wl_len (w := wInline) wInline_pos (rec w ((el l v17).fKids)).1
     have := hrb w ((el l v17).fKids) (by omega) (by omega)
     refine GO (kb h4 (tn 3 (kc (hrec w ((el l v17).fKids) (by omega) (by omega)) (tn 7 z)))) (by kernel_rfl) ?_
     refine CSn (fun h5p h5 => ?_) (fun h5p h5 => ?_)
     ·refine GO (kb h5 (tn 3 z)) (by kernel_rfl) ?_
      refine OUT z (by kernel_rfl) ?_
      exact EN (by kernel_rfl)
     ·refine GO (kb h5 (tn 1 (kb h2 (tn 2 (kp (show (gv6 : Nat) = gv6 ∧ Uni 10 (((rec w ((el l v17).fKids)).1).map aInline) ∧ (((v6.map aInline) : List AV).length + ((((rec w ((el l v17).fKids)).1).map aInline) : List AV).length) * 192 ≤ 140737488355328 from ⟨rfl, uni_aInline _, by first | omega | (simp; done) | (simp; omega)⟩) (kw (apL aInline v6 ((rec w ((el l v17).fKids)).1)) (tn 1 (kn (wrE (((v17 : Nat) : Int) + 1) ((v17 + 1 : Nat) : Int) (by omega)) (tn 1 z))))))))) (by kernel_rfl) ?_
      exact AG ⟨gv6 + 1, _, _, gvk64_10, gvk68_97, by first | (simp only [wl_append, wl, wInline_mk, wBlock_mk, cpyA]; omega) | omega, by first | omega | assumption | (simp only [lenM_eq]; omega) | (simp; done) | (simp; omega), by omega, rfl, rfl⟩ (WK (by kernel_rfl)) (by kernel_rfl) (Nat.lt_succ_self _)
  ·have := wl_len (w := wInline) wInline_pos (rec w ((el l v17).fKids)).1
   have := hrb w ((el l v17).fKids) (by omega) (by omega)
   refine GO (kb h2 (tn 3 (kc (hrec w ((el l v17).fKids) (by omega) (by omega)) (tn 7 z)))) (by kernel_rfl) ?_
   refine CSn (fun h6p h6 => ?_) (fun h6p h6 => ?_)
   ·refine GO (kb h6 (tn 3 z)) (by kernel_rfl) ?_
    refine OUT z (by kernel_rfl) ?_
    exact EN (by kernel_rfl)
   ·refine GO (kb h6 (tn 1 (kb h2 (tn 2 (kc (cpyA_to ((el l v17).fAttr) (by omega)) (tn 7 (kp (show Uni 1 (((el l v17).fArgs).map strAV) ∧ ((((el l v17).fArgs).map strAV) : List AV).length * 16 ≤ 140737488355328 from ⟨uni_strAV _, by first | omega | (simp; done) | (simp; omega)⟩) (kw (Eq.refl (((el l v17).fArgs).map strAV)) (tn 4 (kp (show Uni 4 (((el l v17).fCites).map aCited) ∧ ((((el l v17).fCites).map aCited) : List AV).length * 56 ≤ 140737488355328 from ⟨uni_aCited _, by first | omega | (simp; done) | (simp; omega)⟩) (kw (Eq.refl (((el l v17).fCites).map aCited)) (tn 4 (kp (show Uni 10 [(.agg [(vI ((el l v17).fKind)), (vS ((el l v17).fText)), (vS ((el l v17).fDest)), (vS ((el l v17).fTitle)), (vS ((cpyA ((el l v17).fAttr)).fID)), (.sl (((cpyA ((el l v17).fAttr)).fClasses).map strAV)), (.sl (((cpyA ((el l v17).fAttr)).fPairs).map aPair)), (.sl (((el l v17).fArgs).map strAV)), (.sl (((el l v17).fCites).map aCited)), (.sl (((rec w ((el l v17).fKids)).1).map aInline))])] from (uni_one rfl rfl)) (kp (show (gv6 : Nat) = gv6 ∧ Uni 10 [(.agg [(vI ((el l v17).fKind)), (vS ((el l v17).fText)), (vS ((el l v17).fDest)), (vS ((el l v17).fTitle)), (vS ((cpyA ((el l v17).fAttr)).fID)), (.sl (((cpyA ((el l v17).fAttr)).fClasses).map strAV)), (.sl (((cpyA ((el l v17).fAttr)).fPairs).map aPair)), (.sl (((el l v17).fArgs).map strAV)), (.sl (((el l v17).fCites).map aCited)), (.sl (((rec w ((el l v17).fKids)).1).map aInline))])] ∧ (((v6.map aInline) : List AV).length + ([(.agg [(vI ((el l v17).fKind)), (vS ((el l v17).fText)), (vS ((el l v17).fDest)), (vS ((el l v17).fTitle)), (vS ((cpyA ((el l v17).fAttr)).fID)), (.sl (((cpyA ((el l v17).fAttr)).fClasses).map strAV)), (.sl (((cpyA ((el l v17).fAttr)).fPairs).map aPair)), (.sl (((el l v17).fArgs).map strAV)), (.sl (((el l v17).fCites).map aCited)), (.sl (((rec w ((el l v17).fKids)).1).map aInline))])] : List AV).length) * 192 ≤ 140737488355328 from ⟨rfl, uni_one rfl rfl, by first | omega | (simp; done) | (simp; omega)⟩) (kw (ap1_aInline v6 (DInline.mk ((el l v17).fKind) ((el l v17).fText) ((el l v17).fDest) ((el l v17).fTitle) (cpyA ((el l v17).fAttr)) ((el l v17).fArgs) ((el l v17).fCites) ((rec w ((el l v17).fKids)).1))) (tn 1 (kn (wrE (((v17 : Nat) : Int) + 1) ((v17 + 1 : Nat) : Int) (by omega)) (tn 1 z)))))))))))))))))) (by kernel_rfl) ?_
    exact AG ⟨gv6 + 1, _, _, gvk64_10 + 1, gvk68_97 + 1, by first | (simp only [wl_append, wl, wInline_mk, wBlock_mk, cpyA]; omega) | omega, by first | omega | assumption | (simp only [lenM_eq]; omega) | (simp; done) | (simp; omega), by omega, rfl, rfl⟩ (WK (by kernel_rfl)) (by kernel_rfl) (Nat.lt_succ_self _)
 ·have := lenM_eq aInline l
  refine GO (kb h1 z) (by kernel_rfl) ?_
  refine OUT (tn 3 z) (by kernel_rfl) ?_
  exact EN (by kernel_rfl)
def linPN : Nat → (List ByteArray) → (List DInline) → List DInline × Int
 | 0, _, _ => default
 | n + 1, w, l => linPS (linPN n) w l
def inlW (w : List ByteArray) (rec : List DInline → List DInline × Int) (x : DInline) : List DInline × Int :=
 if x.fKind = 11 ∧ (getP x.fAttr whenA).2 = true then
  (if (hldP w (getP x.fAttr whenA).1).2 ≠ 0 then ([], (hldP w (getP x.fAttr whenA).1).2) else if (hldP w (getP x.fAttr whenA).1).1 = true then (if (rec x.fKids).2 ≠ 0 then ([], (rec x.fKids).2) else ((rec x.fKids).1, 0)) else ([], 0))
 else (if (rec x.fKids).2 ≠ 0 then ([], (rec x.fKids).2) else ([setKids x (rec x.fKids).1], 0))
def seqE {α β : Type} (f : α → List β × Int) : List α → List β → List β × Int
 | [], acc => (acc, 0)
 | x :: r, acc => if (f x).2 ≠ 0 then ([], (f x).2) else seqE f r (acc ++ (f x).1)
theorem linPS_L0_eq (rec : (List ByteArray) → (List DInline) → List DInline × Int) (w : List ByteArray) (l : List DInline) : ∀ (n : Nat) (acc : List DInline) (i : Nat), l.length - i < n → linPS_L0 rec w l n acc i = seqE (inlW w (rec w)) (l.drop i) acc
 | 0, acc, i, h => by omega
 | n + 1, acc, i, h => by
  have hl := lenM_eq aInline l
  rw [linPS_L0]
  by_cases hi : i < l.length
  ·rw [dT (by omega), cond_true, drop_el hi, seqE, linPS_L0_eq rec w l n _ _ (by omega), linPS_L0_eq rec w l n _ _ (by omega), linPS_L0_eq rec w l n _ _ (by omega)]
   show cond (cond _ (getP (el l i).fAttr whenA).2 _) _ _ = _
   generalize el l i = x
   cases hk : (x.fKind == 11) with
   | true =>
    have hk' := eq_of_beq hk
    cases hw : (getP x.fAttr whenA).2 with
    | true =>
     simp only [cond_true, inlW, hk', hw, and_self, if_true]
     simp only [show (⟨#[119, 104, 101, 110]⟩ : ByteArray) = whenA from rfl]
     by_cases h1 : (hldP w (getP x.fAttr whenA).1).2 = 0
     ·simp only [h1, bne_self_eq_false, cond_false, ne_eq, not_true_eq_false, if_false]
      cases hv : (hldP w (getP x.fAttr whenA).1).1 with
      | true =>
       by_cases h2 : (rec w x.fKids).2 = 0
       ·simp [h2]
       ·simp [h2, bne_iff_ne.2 h2]
      | false => simp
     ·simp [h1, bne_iff_ne.2 h1]
    | false =>
     simp only [cond_true, cond_false, inlW, hw, Bool.false_eq_true, and_false, if_false]
     by_cases h2 : (rec w x.fKids).2 = 0
     ·simp [h2, setKids, cpyA]
     ·simp [h2, bne_iff_ne.2 h2]
   | false =>
    have hk' := ne_of_beq_false hk
    simp only [cond_false, inlW, hk', false_and, if_false]
    by_cases h2 : (rec w x.fKids).2 = 0
    ·simp [h2, setKids, cpyA]
    ·simp [h2, bne_iff_ne.2 h2]
  ·rw [dF (by omega), cond_false, List.drop_eq_nil_of_le (by omega)]; rfl
theorem linPS_eq (rec : (List ByteArray) → (List DInline) → List DInline × Int) (w : List ByteArray) (l : List DInline) : linPS rec w l = seqE (inlW w (rec w)) l [] := by
 rw [linPS, linPS_L0_eq rec w l _ _ _ (by omega)]; simp
theorem seqE_wl {α β : Type} {w : α → Nat} {w' : β → Nat} {f : α → List β × Int} : ∀ {l : List α} {acc : List β}, (∀ x ∈ l, wl w' (f x).1 ≤ w x) → wl w' (seqE f l acc).1 ≤ wl w' acc + wl w l
 | [], acc, _ => by simp [seqE, wl]
 | x :: l, acc, h => by
  have h1 := h x (by simp)
  have h2 := seqE_wl (l := l) (acc := acc ++ (f x).1) (fun y hy => h y (by simp [hy]))
  rw [seqE]; split
  ·simp [wl]
  ·rw [wl_append] at h2; simp only [wl]; omega
theorem inlW_wl (w : List ByteArray) (rec : List DInline → List DInline × Int) (x : DInline) (h : wl wInline (rec x.fKids).1 ≤ wl wInline x.fKids) : wl wInline (inlW w rec x).1 ≤ wInline x := by
 have h1 := wInline_eq x
 have h2 := setKids_wl x _ h
 unfold inlW
 repeat' split
 all_goals first | (simp [wl]; done) | (simp only [wl]; omega)
theorem linPN_bd : ∀ (n : Nat) (w : List ByteArray) (l : List DInline), wl wInline l < n → wl wInline l ≤ 536870912 → wl wInline (linPN n w l).1 ≤ wl wInline l
 | 0, w, l, h, _ => by omega
 | n + 1, w, l, h, hl => by
  rw [linPN, linPS_eq]
  refine Nat.le_trans (seqE_wl (fun x hx => inlW_wl _ _ _ ?_)) (by simp [wl])
  have h1 := wl_mem (w := wInline) hx
  have h2 := wInline_eq x
  exact linPN_bd n w x.fKids (by omega) (by omega)
theorem linPN_to : ∀ (n : Nat) (w : List ByteArray) (l : List DInline), wl wInline l < n → wl wInline l ≤ 536870912 → CallTo Tryz.prog 45 [(.av (.agg [(.rm (setF w []) (trues (setF w [])))])), (jL (l.map aInline))] [] [] (.av (.tup [(.sl (((linPN n w l).1).map aInline)), (vI ((linPN n w l).2))])) [] []
 | 0, w, l, h0, _ => absurd h0 (Nat.not_lt_zero _)
 | n + 1, w, l, h0, hl => by
  exact linP_st (linPN n) w l hl (fun w' l' q1 hl' => linPN_to n w' l' (by omega) hl') (fun w' l' q1 hl' => linPN_bd n w' l' (by omega) hl')
def linP (w : List ByteArray) (l : List DInline) : List DInline × Int := linPN (wl wInline l + 1) w l
theorem linP_to (w : List ByteArray) (l : List DInline) (hl : wl wInline l ≤ 536870912) : CallTo Tryz.prog 45 [(.av (.agg [(.rm (setF w []) (trues (setF w [])))])), (jL (l.map aInline))] [] [] (.av (.tup [(.sl (((linP w l).1).map aInline)), (vI ((linP w l).2))])) [] [] := linPN_to _ w l (Nat.lt_succ_self _) hl
theorem linP_bd (w : List ByteArray) (l : List DInline) (hl : wl wInline l ≤ 536870912) : wl wInline (linP w l).1 ≤ wl wInline l := linPN_bd _ w l (Nat.lt_succ_self _) hl
end Go.Proofs.YtdaglbjgdakmcaaGreat
namespace Go.Proofs.YtdaglbjgdakmcaaGreat
open Go Go.Eng
def opnPS_L0 (rec : (List DInline) → (List ByteArray) → List DInline × Int) (l : List DInline) (flags : List ByteArray) : Nat → (List DInline) → Nat → (List DInline × Int)
 | 0, _, _ => default
 | n0 + 1, v6, v7 => cond (decide (((v7 : Nat) : Int) < ((lenM aInline l : Nat) : Int))) (cond (cond (((el l v7).fKind : Int) == 11) ((getR ((el l v7).fAttr) (⟨#[119, 104, 101, 110]⟩)).2) false) (cond (((evalR ((getR ((el l v7).fAttr) (⟨#[119, 104, 101, 110]⟩)).1) flags).2 : Int) != 0) ([], (evalR ((getR ((el l v7).fAttr) (⟨#[119, 104, 101, 110]⟩)).1) flags).2) (cond (!(evalR ((getR ((el l v7).fAttr) (⟨#[119, 104, 101, 110]⟩)).1) flags).1) (opnPS_L0 rec l flags n0 v6 (v7 + 1)) (cond (((rec ((el l v7).fKids) flags).2 : Int) != 0) ([], (rec ((el l v7).fKids) flags).2) (opnPS_L0 rec l flags n0 (v6 ++ ((rec ((el l v7).fKids) flags).1)) (v7 + 1))))) (cond (((rec ((el l v7).fKids) flags).2 : Int) != 0) ([], (rec ((el l v7).fKids) flags).2) (opnPS_L0 rec l flags n0 (v6 ++ ([DInline.mk ((el l v7).fKind) ((el l v7).fText) ((el l v7).fDest) ((el l v7).fTitle) ((el l v7).fAttr) ((el l v7).fArgs) ((el l v7).fCites) (rtdL ((rec ((el l v7).fKids) flags).1))])) (v7 + 1)))) (v6, 0)
def opnPS (rec : (List DInline) → (List ByteArray) → List DInline × Int) (l : List DInline) (flags : List ByteArray) : (List DInline × Int) := opnPS_L0 rec l flags ((List.length l - 0) + 1) ([]) 0
theorem opnP_st (rec : (List DInline) → (List ByteArray) → List DInline × Int) (l : List DInline) (flags : List ByteArray) (hl : wl wInline l ≤ 536870912) (hf : flags.length ≤ 1000000) (hrec : ∀ (l' : List DInline) (flags' : List ByteArray), wl wInline l' < wl wInline l → wl wInline l' ≤ 536870912 → flags'.length ≤ 1000000 → CallTo Tryz.prog 70 [(jL ((l').map aInline)), (jL ((flags').map strAV))] [] [] (.av (.tup [(.sl (((rec l' flags').1).map aInline)), (vI ((rec l' flags').2))])) [] []) (hrb : ∀ (l' : List DInline) (flags' : List ByteArray), wl wInline l' < wl wInline l → wl wInline l' ≤ 536870912 → flags'.length ≤ 1000000 → wl wInline (rec l' flags').1 ≤ wl wInline l') : CallTo Tryz.prog 70 [(jL (l.map aInline)), (jL (flags.map strAV))] [] [] (.av (.tup [(.sl (((opnPS rec l flags).1).map aInline)), (vI ((opnPS rec l flags).2))])) [] [] := by
 have hw_0 := wl_len (w := wInline) wInline_pos l
 refine BEG (fun r : (List DInline × Int) => (.av (.tup [(.sl (r.1.map aInline)), (vI r.2)]))) (opnPS rec l flags) Tryz.func70 (by kernel_rfl) ?_
 refine UF (opnPS.eq_1 ..) ?_
 refine GO (tn 4 z) (by kernel_rfl) ?_
 refine LP (fun N M S => ∃ gv6 : Nat, ∃ v6 : List DInline, ∃ v7 : Nat, (wl wInline v6 ≤ wl wInline (l.take v7)) ∧ (v7 ≤ l.length) ∧ (List.length l - v7 < N) ∧ M = opnPS_L0 rec l flags N v6 v7 ∧ S = (sx 72 [(0, (jL (l.map aInline))), (1, (jL (flags.map strAV))), (6, (.own (206, 42) gv6 10 (v6.map aInline))), (7, (jI ((v7 : Nat) : Int)))] [] [((206, 42), gv6)])) (by kernel_rfl) ⟨0, _, _, by simp [wl], by first | omega | assumption | (simp only [lenM_eq]; omega) | (simp; done) | (simp; omega), by omega, rfl, rfl⟩ (WKf [(6, (.own (206, 42) 0 10 (([]).map aInline)))] (ac (show ((([]).map aInline) : List AV) = [] ∧ 0 < 42 ∧ (0 : Nat) = 0 from ⟨rfl, by decide, rfl⟩) an) (by kernel_rfl)) ?_
 rintro n0 M S ⟨gv6, v6, v7, hv, hi, hF0, rfl, rfl⟩
 obtain ⟨n0, rfl⟩ : ∃ k, n0 = k + 1 := ⟨n0 - 1, by omega⟩
 refine UF (opnPS_L0.eq_2 ..) ?_
 refine GO (tn 4 z) (by kernel_rfl) ?_
 refine CSd (fun h1p h1 => ?_) (fun h1p h1 => ?_)
 ·have := lenM_eq aInline l
  have hce := wl_el (w := wInline) (l := l) (i := v7) (by omega)
  have hcw := wInline_eq (el l v7)
  simp only [wStr, w1] at hcw
  have htk := wl_take (w := wInline) (l := l) (i := v7) (by omega)
  have hca := wAttr_eq (el l v7).fAttr
  have hcp := wl_len (w := wPair) wPair_pos (el l v7).fAttr.fPairs
  have hvl := wl_len (w := wInline) wInline_pos v6
  have htl := wl_take_le (w := wInline) l v7
  have hgs := getR_sz ((el l v7).fAttr) (⟨#[119, 104, 101, 110]⟩)
  have := getR_sz ((el l v7).fAttr) (⟨#[119, 104, 101, 110]⟩)
  refine GO (kb h1 (tn 2 (ke (el_aInline l v7 (by omega)) (tn 5 (kc (getR_to ((el l v7).fAttr) (⟨#[119, 104, 101, 110]⟩) (by omega)) (tn 9 (kj (((el l v7).fKind : Int) == 11) (tn 1 z) z (tn 2 z)))))))) (by kernel_rfl) ?_
  refine CS (fun h2 => ?_) (fun h2 => ?_)
  ·obtain ⟨h2a, h2o⟩ := cond_ff h2
   have h2ap := eq_of_beq h2a
   refine GO (kb h2 (tn 2 (kc (rEval_to ((getR ((el l v7).fAttr) (⟨#[119, 104, 101, 110]⟩)).1) (by unfold maxLen; omega) flags (by unfold maxLen; omega)) (tn 7 z)))) (by kernel_rfl) ?_
   refine CSn (fun h3p h3 => ?_) (fun h3p h3 => ?_)
   ·refine GO (kb h3 (tn 3 z)) (by kernel_rfl) ?_
    refine OUT z (by kernel_rfl) ?_
    exact EN (by kernel_rfl)
   ·refine GO (kb h3 (tn 2 z)) (by kernel_rfl) ?_
    refine CS (fun h4 => ?_) (fun h4 => ?_)
    ·have h4n := nott h4
     refine GO (kb h4 (tn 1 (kn (wrE (((v7 : Nat) : Int) + 1) ((v7 + 1 : Nat) : Int) (by omega)) (tn 1 z)))) (by kernel_rfl) ?_
     exact AG ⟨gv6, _, _, by first | (simp only [wl_append, wl, wInline_mk, wBlock_mk, cpyA]; omega) | omega, by first | omega | assumption | (simp only [lenM_eq]; omega) | (simp; done) | (simp; omega), by omega, rfl, rfl⟩ (WK (by kernel_rfl)) (by kernel_rfl) (Nat.lt_succ_self _)
    ·have h4n := notf h4
     have := wl_len (w := wInline) wInline_pos (rec ((el l v7).fKids) flags).1
     have := hrb ((el l v7).fKids) flags (by omega) (by omega) (by omega)
     refine GO (kb h4 (tn 3 (kc (hrec ((el l v7).fKids) flags (by omega) (by omega) (by omega)) (tn 7 z)))) (by kernel_rfl) ?_
     refine CSn (fun h5p h5 => ?_) (fun h5p h5 => ?_)
     ·refine GO (kb h5 (tn 3 z)) (by kernel_rfl) ?_
      refine OUT z (by kernel_rfl) ?_
      exact EN (by kernel_rfl)
     ·refine GO (kb h5 (tn 1 (kb h2 (tn 2 (kp (show (gv6 : Nat) = gv6 ∧ Uni 10 (((rec ((el l v7).fKids) flags).1).map aInline) ∧ (((v6.map aInline) : List AV).length + ((((rec ((el l v7).fKids) flags).1).map aInline) : List AV).length) * 192 ≤ 140737488355328 from ⟨rfl, uni_aInline _, by first | omega | (simp; done) | (simp; omega)⟩) (kw (apL aInline v6 ((rec ((el l v7).fKids) flags).1)) (tn 2 (kn (wrE (((v7 : Nat) : Int) + 1) ((v7 + 1 : Nat) : Int) (by omega)) (tn 1 z))))))))) (by kernel_rfl) ?_
      exact AG ⟨gv6 + 1, _, _, by first | (simp only [wl_append, wl, wInline_mk, wBlock_mk, cpyA]; omega) | omega, by first | omega | assumption | (simp only [lenM_eq]; omega) | (simp; done) | (simp; omega), by omega, rfl, rfl⟩ (WK (by kernel_rfl)) (by kernel_rfl) (Nat.lt_succ_self _)
  ·have := wl_len (w := wInline) wInline_pos (rec ((el l v7).fKids) flags).1
   have := hrb ((el l v7).fKids) flags (by omega) (by omega) (by omega)
   refine GO (kb h2 (tn 3 (kc (hrec ((el l v7).fKids) flags (by omega) (by omega) (by omega)) (tn 7 z)))) (by kernel_rfl) ?_
   refine CSn (fun h6p h6 => ?_) (fun h6p h6 => ?_)
   ·refine GO (kb h6 (tn 3 z)) (by kernel_rfl) ?_
    refine OUT z (by kernel_rfl) ?_
    exact EN (by kernel_rfl)
   ·have := rtdL_bd ((rec ((el l v7).fKids) flags).1)
    refine GO (kb h6 (tn 1 (kb h2 (tn 1 (kc (rtdL_to ((rec ((el l v7).fKids) flags).1) (by omega)) (tn 4 (kp (show Uni 10 [(.agg [(vI ((el l v7).fKind)), (vS ((el l v7).fText)), (vS ((el l v7).fDest)), (vS ((el l v7).fTitle)), (vS (((el l v7).fAttr).fID)), (.sl ((((el l v7).fAttr).fClasses).map strAV)), (.sl ((((el l v7).fAttr).fPairs).map aPair)), (.sl (((el l v7).fArgs).map strAV)), (.sl (((el l v7).fCites).map aCited)), (.sl ((rtdL ((rec ((el l v7).fKids) flags).1)).map aInline))])] from (uni_one rfl rfl)) (kp (show (gv6 : Nat) = gv6 ∧ Uni 10 [(.agg [(vI ((el l v7).fKind)), (vS ((el l v7).fText)), (vS ((el l v7).fDest)), (vS ((el l v7).fTitle)), (vS (((el l v7).fAttr).fID)), (.sl ((((el l v7).fAttr).fClasses).map strAV)), (.sl ((((el l v7).fAttr).fPairs).map aPair)), (.sl (((el l v7).fArgs).map strAV)), (.sl (((el l v7).fCites).map aCited)), (.sl ((rtdL ((rec ((el l v7).fKids) flags).1)).map aInline))])] ∧ (((v6.map aInline) : List AV).length + ([(.agg [(vI ((el l v7).fKind)), (vS ((el l v7).fText)), (vS ((el l v7).fDest)), (vS ((el l v7).fTitle)), (vS (((el l v7).fAttr).fID)), (.sl ((((el l v7).fAttr).fClasses).map strAV)), (.sl ((((el l v7).fAttr).fPairs).map aPair)), (.sl (((el l v7).fArgs).map strAV)), (.sl (((el l v7).fCites).map aCited)), (.sl ((rtdL ((rec ((el l v7).fKids) flags).1)).map aInline))])] : List AV).length) * 192 ≤ 140737488355328 from ⟨rfl, uni_one rfl rfl, by first | omega | (simp; done) | (simp; omega)⟩) (kw (ap1_aInline v6 (DInline.mk ((el l v7).fKind) ((el l v7).fText) ((el l v7).fDest) ((el l v7).fTitle) ((el l v7).fAttr) ((el l v7).fArgs) ((el l v7).fCites) (rtdL ((rec ((el l v7).fKids) flags).1)))) (tn 2 (kn (wrE (((v7 : Nat) : Int) + 1) ((v7 + 1 : Nat) : Int) (by omega)) (tn 1 z)))))))))))) (by kernel_rfl) ?_
    exact AG ⟨gv6 + 1, _, _, by first | (simp only [wl_append, wl, wInline_mk, wBlock_mk, cpyA]; omega) | omega, by first | omega | assumption | (simp only [lenM_eq]; omega) | (simp; done) | (simp; omega), by omega, rfl, rfl⟩ (WK (by kernel_rfl)) (by kernel_rfl) (Nat.lt_succ_self _)
 ·have := lenM_eq aInline l
  refine GO (kb h1 z) (by kernel_rfl) ?_
  refine OUT (tn 3 z) (by kernel_rfl) ?_
  exact EN (by kernel_rfl)
def opnPN : Nat → (List DInline) → (List ByteArray) → List DInline × Int
 | 0, _, _ => default
 | n + 1, l, flags => opnPS (opnPN n) l flags
def opnW (w : List ByteArray) (rec : List DInline → List DInline × Int) (x : DInline) : List DInline × Int :=
 if x.fKind = 11 ∧ (getR x.fAttr ⟨#[119, 104, 101, 110]⟩).2 = true then
  (if (evalR (getR x.fAttr ⟨#[119, 104, 101, 110]⟩).1 w).2 ≠ 0 then ([], (evalR (getR x.fAttr ⟨#[119, 104, 101, 110]⟩).1 w).2) else if (evalR (getR x.fAttr ⟨#[119, 104, 101, 110]⟩).1 w).1 = true then (if (rec x.fKids).2 ≠ 0 then ([], (rec x.fKids).2) else ((rec x.fKids).1, 0)) else ([], 0))
 else (if (rec x.fKids).2 ≠ 0 then ([], (rec x.fKids).2) else ([setKids x (rtdL (rec x.fKids).1)], 0))
theorem opnPS_L0_eq (rec : (List DInline) → (List ByteArray) → List DInline × Int) (l : List DInline) (w : List ByteArray) : ∀ (n : Nat) (acc : List DInline) (i : Nat), l.length - i < n → opnPS_L0 rec l w n acc i = seqE (opnW w (fun ks => rec ks w)) (l.drop i) acc
 | 0, acc, i, h => by omega
 | n + 1, acc, i, h => by
  have hl := lenM_eq aInline l
  rw [opnPS_L0]
  by_cases hi : i < l.length
  ·rw [dT (by omega), cond_true, drop_el hi, seqE, opnPS_L0_eq rec l w n _ _ (by omega), opnPS_L0_eq rec l w n _ _ (by omega), opnPS_L0_eq rec l w n _ _ (by omega)]
   generalize el l i = x
   cases hk : (x.fKind == 11) with
   | true =>
    have hk' := eq_of_beq hk
    cases hw : (getR x.fAttr ⟨#[119, 104, 101, 110]⟩).2 with
    | true =>
     simp only [cond_true, opnW, hk', hw, and_self, if_true]
     by_cases h1 : (evalR (getR x.fAttr ⟨#[119, 104, 101, 110]⟩).1 w).2 = 0
     ·simp only [h1, bne_self_eq_false, cond_false, ne_eq, not_true_eq_false, if_false]
      cases hv : (evalR (getR x.fAttr ⟨#[119, 104, 101, 110]⟩).1 w).1 with
      | true =>
       by_cases h2 : (rec x.fKids w).2 = 0
       ·simp [h2]
       ·simp [h2, bne_iff_ne.2 h2]
      | false => simp
     ·simp [h1, bne_iff_ne.2 h1]
    | false =>
     simp only [cond_true, cond_false, opnW, hw, Bool.false_eq_true, and_false, if_false]
     by_cases h2 : (rec x.fKids w).2 = 0
     ·simp [h2, setKids]
     ·simp [h2, bne_iff_ne.2 h2]
   | false =>
    have hk' := ne_of_beq_false hk
    simp only [cond_false, opnW, hk', false_and, if_false]
    by_cases h2 : (rec x.fKids w).2 = 0
    ·simp [h2, setKids]
    ·simp [h2, bne_iff_ne.2 h2]
  ·rw [dF (by omega), cond_false, List.drop_eq_nil_of_le (by omega)]; rfl
theorem opnPS_eq (rec : (List DInline) → (List ByteArray) → List DInline × Int) (l : List DInline) (w : List ByteArray) : opnPS rec l w = seqE (opnW w (fun ks => rec ks w)) l [] := by
 rw [opnPS, opnPS_L0_eq rec l w _ _ _ (by omega)]; simp
theorem opnW_wl (w : List ByteArray) (rec : List DInline → List DInline × Int) (x : DInline) (h : wl wInline (rec x.fKids).1 ≤ wl wInline x.fKids) : wl wInline (opnW w rec x).1 ≤ wInline x := by
 have h1 := wInline_eq x
 have h2 := setKids_wl x _ (Nat.le_trans (rtdL_bd (rec x.fKids).1) h)
 unfold opnW
 repeat' split
 all_goals first | (simp [wl]; done) | (simp only [wl]; omega)
theorem opnPN_bd : ∀ (n : Nat) (l : List DInline) (w : List ByteArray), wl wInline l < n → wl wInline l ≤ 536870912 → w.length ≤ 1000000 → wl wInline (opnPN n l w).1 ≤ wl wInline l
 | 0, l, w, h, _, _ => by omega
 | n + 1, l, w, h, hl, hw => by
  rw [opnPN, opnPS_eq]
  refine Nat.le_trans (seqE_wl (fun x hx => opnW_wl _ _ _ ?_)) (by simp [wl])
  have h1 := wl_mem (w := wInline) hx
  have h2 := wInline_eq x
  exact opnPN_bd n x.fKids w (by omega) (by omega) hw
theorem opnPN_to : ∀ (n : Nat) (l : List DInline) (flags : List ByteArray), wl wInline l < n → wl wInline l ≤ 536870912 → flags.length ≤ 1000000 → CallTo Tryz.prog 70 [(jL (l.map aInline)), (jL (flags.map strAV))] [] [] (.av (.tup [(.sl (((opnPN n l flags).1).map aInline)), (vI ((opnPN n l flags).2))])) [] []
 | 0, l, flags, h0, _, _ => absurd h0 (Nat.not_lt_zero _)
 | n + 1, l, flags, h0, hl, hf => by
  exact opnP_st (opnPN n) l flags hl hf (fun l' flags' q1 hl' hf' => opnPN_to n l' flags' (by omega) hl' hf') (fun l' flags' q1 hl' hf' => opnPN_bd n l' flags' (by omega) hl' hf')
def opnP (l : List DInline) (flags : List ByteArray) : List DInline × Int := opnPN (wl wInline l + 1) l flags
theorem opnP_to (l : List DInline) (flags : List ByteArray) (hl : wl wInline l ≤ 536870912) (hf : flags.length ≤ 1000000) : CallTo Tryz.prog 70 [(jL (l.map aInline)), (jL (flags.map strAV))] [] [] (.av (.tup [(.sl (((opnP l flags).1).map aInline)), (vI ((opnP l flags).2))])) [] [] := opnPN_to _ l flags (Nat.lt_succ_self _) hl hf
theorem opnP_bd (l : List DInline) (flags : List ByteArray) (hl : wl wInline l ≤ 536870912) (hf : flags.length ≤ 1000000) : wl wInline (opnP l flags).1 ≤ wl wInline l := opnPN_bd _ l flags (Nat.lt_succ_self _) hl hf
end Go.Proofs.YtdaglbjgdakmcaaGreat
namespace Go.Proofs.YtdaglbjgdakmcaaGreat
open Go Go.Eng
def rlnP_L1 (l : List DInline) (flags : List ByteArray) (v8 : List DInline) (k0 : (List DInline) → (List DInline × Int)) : Nat → (List DInline) → (List DInline × Int)
 | 0, _ => default
 | n1 + 1, w8 => cond (cond (decide (((lenM aInline w8 : Nat) : Int) > 0)) (brk ((el w8 (Int.toNat (((lenM aInline w8 : Nat) : Int) - 1))).fKind)) false) (rlnP_L1 l flags v8 k0 n1 ((List.drop 0 w8).take (Int.toNat (((lenM aInline w8 : Nat) : Int) - 1) - 0))) (w8, 0)
def rlnP_L0 (l : List DInline) (flags : List ByteArray) : Nat → (List DInline) → (List DInline × Int)
 | 0, _ => default
 | n0 + 1, v8 => cond (cond (decide (((lenM aInline v8 : Nat) : Int) > 0)) (((el v8 0).fKind : Int) == 2) false) (rlnP_L0 l flags n0 ((List.drop 1 v8).take (lenM aInline v8 - 1))) (rlnP_L1 l flags v8 (rlnP_L0 l flags n0) (((v8).length) + 1) v8)
def rlnP (l : List DInline) (flags : List ByteArray) : (List DInline × Int) := cond (((opnP l flags).2 : Int) != 0) ([], (opnP l flags).2) (rlnP_L0 l flags (((rtdL ((opnP l flags).1)).length) + 1) (rtdL ((opnP l flags).1)))
theorem rlnP_to (l : List DInline) (flags : List ByteArray) (hl : wl wInline l ≤ 536870912) (hf : flags.length ≤ 1000000) : CallTo Tryz.prog 50 [(jL (l.map aInline)), (jL (flags.map strAV))] [] [] (.av (.tup [(.sl (((rlnP l flags).1).map aInline)), (vI ((rlnP l flags).2))])) [] [] := by
 have hw_0 := wl_len (w := wInline) wInline_pos l
 have hob := opnP_bd l flags hl hf
 have htb := rtdL_bd (opnP l flags).1
 have htn := wl_len (w := wInline) wInline_pos (rtdL (opnP l flags).1)
 refine BEG (fun r : (List DInline × Int) => (.av (.tup [(.sl (r.1.map aInline)), (vI r.2)]))) (rlnP l flags) Tryz.func50 (by kernel_rfl) ?_
 refine UF (rlnP.eq_1 ..) ?_
 have := opnP_bd l flags (by omega) (by omega)
 refine GO (tn 4 (kc (opnP_to l flags (by omega) (by omega)) (tn 7 z))) (by kernel_rfl) ?_
 refine CSn (fun h1p h1 => ?_) (fun h1p h1 => ?_)
 ·refine GO (kb h1 (tn 3 z)) (by kernel_rfl) ?_
  exact EN (by kernel_rfl)
 ·have := rtdL_bd ((opnP l flags).1)
  refine GO (kb h1 (tn 1 (kc (rtdL_to ((opnP l flags).1) (by omega)) (tn 1 z)))) (by kernel_rfl) ?_
  refine LP (fun N M S => ∃ v8 : List DInline, (v8.length ≤ (rtdL (opnP l flags).1).length) ∧ (v8.length < N) ∧ M = rlnP_L0 l flags N v8 ∧ S = (sx 51 [(8, (jL (v8.map aInline)))] [] [])) (by kernel_rfl) ⟨_, by first | omega | assumption | (simp only [lenM_eq]; omega) | (simp; done) | (simp; omega), by omega, rfl, rfl⟩ (WK (by kernel_rfl)) ?_
  rintro n0 M S ⟨v8, hv, hF0, rfl, rfl⟩
  obtain ⟨n0, rfl⟩ : ∃ k, n0 = k + 1 := ⟨n0 - 1, by omega⟩
  refine UF (rlnP_L0.eq_2 ..) ?_
  refine GO (tn 4 (kj (decide (((lenM aInline v8 : Nat) : Int) > 0)) (tn 1 (he (fun h => by have j0 := h.2; have := lenM_eq aInline v8; have j0p := of_decide_eq_true j0; exact (el_aInline v8 0 (by omega))) (tn 3 z))) z z)) (by kernel_rfl) ?_
  refine CS (fun h2 => ?_) (fun h2 => ?_)
  ·have := lenM_eq aInline v8
   obtain ⟨h2a, h2o⟩ := cond_ff h2
   have := lenM_eq aInline v8
   have h2ap := of_decide_eq_true h2a
   have h2op := eq_of_beq h2o
   refine GO (kb h2 (tn 1 (kp (show 0 ≤ (1 : Int) ∧ (1 : Int) ≤ ((lenM aInline v8 : Nat) : Int) ∧ ((lenM aInline v8 : Nat) : Int) ≤ ((lenM aInline v8 : Nat) : Int) ∧ Uni 10 (v8.map aInline) from ⟨by first | omega | (simp only [lenM_eq, true_and]; omega), by first | omega | (simp only [lenM_eq, true_and]; omega), by first | omega | (simp only [lenM_eq, true_and]; omega), uni_aInline _⟩) (kw (cutL aInline v8 1 (lenM aInline v8 - 1)) (tn 1 z))))) (by kernel_rfl) ?_
   exact AG ⟨_, by simp only [List.length_take, List.length_drop]; omega, by simp only [List.length_take, List.length_drop]; omega, rfl, rfl⟩ (WK (by kernel_rfl)) (by kernel_rfl) (Nat.lt_succ_self _)
  ·have := lenM_eq aInline v8
   refine GO (kb h2 z) (by kernel_rfl) ?_
   refine OUT z (by kernel_rfl) ?_
   refine LP (fun N M S => ∃ w8 : List DInline, (w8.length ≤ (rtdL (opnP l flags).1).length) ∧ (w8.length < N) ∧ M = rlnP_L1 l flags v8 (rlnP_L0 l flags n0) N w8 ∧ S = (sx 51 [(8, (jL (w8.map aInline)))] [] [])) (by kernel_rfl) ⟨_, by first | omega | assumption | (simp only [lenM_eq]; omega) | (simp; done) | (simp; omega), by omega, rfl, rfl⟩ (WK (by kernel_rfl)) ?_
   rintro n1 M S ⟨w8, hw, hF1, rfl, rfl⟩
   obtain ⟨n1, rfl⟩ : ∃ k, n1 = k + 1 := ⟨n1 - 1, by omega⟩
   refine UF (rlnP_L1.eq_2 ..) ?_
   refine GO (tn 4 (kj (decide (((lenM aInline w8 : Nat) : Int) > 0)) (tn 3 (hn (fun h => by have j0 := h.2; have := lenM_eq aInline w8; have j0p := of_decide_eq_true j0; exact (wrE (((lenM aInline w8 : Nat) : Int) - 1) (((lenM aInline w8 : Nat) : Int) - 1) (by omega))) (he (fun h => by have j0 := h.2; have := lenM_eq aInline w8; have j0p := of_decide_eq_true j0; exact (elI_aInline w8 (((lenM aInline w8 : Nat) : Int) - 1) (by omega) (by omega))) (tn 2 (kc (brk_to ((el w8 (Int.toNat (((lenM aInline w8 : Nat) : Int) - 1))).fKind)) z))))) z z)) (by kernel_rfl) ?_
   refine CS (fun h3 => ?_) (fun h3 => ?_)
   ·have := lenM_eq aInline w8
    obtain ⟨h3a, h3o⟩ := cond_ff h3
    have := lenM_eq aInline w8
    have h3ap := of_decide_eq_true h3a
    have := lenM_eq aInline w8
    refine GO (kb h3 (tn 3 (kn (wrE (((lenM aInline w8 : Nat) : Int) - 1) (((lenM aInline w8 : Nat) : Int) - 1) (by omega)) (kp (show 0 ≤ (0 : Int) ∧ (0 : Int) ≤ ((lenM aInline w8 : Nat) : Int) - 1 ∧ ((lenM aInline w8 : Nat) : Int) - 1 ≤ ((lenM aInline w8 : Nat) : Int) ∧ Uni 10 (w8.map aInline) from ⟨by first | omega | (simp only [lenM_eq, true_and]; omega), by first | omega | (simp only [lenM_eq, true_and]; omega), by first | omega | (simp only [lenM_eq, true_and]; omega), uni_aInline _⟩) (kw (cutL aInline w8 0 (Int.toNat (((lenM aInline w8 : Nat) : Int) - 1) - 0)) (tn 1 z)))))) (by kernel_rfl) ?_
    exact AG ⟨_, by simp only [List.length_take, List.length_drop]; omega, by simp only [List.length_take, List.length_drop]; omega, rfl, rfl⟩ (WK (by kernel_rfl)) (by kernel_rfl) (Nat.lt_succ_self _)
   ·have := lenM_eq aInline w8
    refine GO (kb h3 z) (by kernel_rfl) ?_
    refine OUT (tn 3 z) (by kernel_rfl) ?_
    exact EN (by kernel_rfl)
end Go.Proofs.YtdaglbjgdakmcaaGreat
namespace Go.Proofs.YtdaglbjgdakmcaaGreat
open Go Go.Eng
def chsP (rec : List ByteArray → List DBlock → List DBlock × Int) (w : List ByteArray) (b : DBlock) : (List DBlock × Int) := cond (!(getP b.fAttr (⟨#[119, 104, 101, 110]⟩)).2) ([], 8) (cond (cond (((hldP w ((getP b.fAttr (⟨#[119, 104, 101, 110]⟩)).1)).2 : Int) != 0) true (!(hldP w ((getP b.fAttr (⟨#[119, 104, 101, 110]⟩)).1)).1)) ([], (hldP w ((getP b.fAttr (⟨#[119, 104, 101, 110]⟩)).1)).2) ((rec w b.fKids).1, (rec w b.fKids).2))
theorem chsP_to (rec : List ByteArray → List DBlock → List DBlock × Int) (w : List ByteArray) (b : DBlock) (hb : wBlock b ≤ 536870912) (hrec : ∀ (w' : List ByteArray) (l' : List DBlock), wl wBlock l' < wBlock b → wl wBlock l' ≤ 536870912 → CallTo Tryz.prog 24 [(.av (.agg [(.rm (setF w' []) (trues (setF w' [])))])), (jL ((l').map aBlock))] [] [] (.av (.tup [(.sl (((rec w' l').1).map aBlock)), (vI ((rec w' l').2))])) [] []) : CallTo Tryz.prog 44 [(.av (.agg [(.rm (setF w []) (trues (setF w [])))])), (.av (cBlock b))] [] [] (.av (.tup [(.sl (((chsP rec w b).1).map aBlock)), (vI ((chsP rec w b).2))])) [] [] := by
 have hwb := wBlock_eq b
 simp only [wStr, w1] at hwb
 have hca := wAttr_eq b.fAttr
 have hcp := wl_len (w := wPair) wPair_pos b.fAttr.fPairs
 refine BEG (fun r : (List DBlock × Int) => (.av (.tup [(.sl (r.1.map aBlock)), (vI r.2)]))) (chsP rec w b) Tryz.func44 (by kernel_rfl) ?_
 refine UF (chsP.eq_1 ..) ?_
 have := getP_sz b.fAttr (⟨#[119, 104, 101, 110]⟩)
 refine GO (tn 6 (kc (getP_to b.fAttr (⟨#[119, 104, 101, 110]⟩) (by omega)) (tn 7 z))) (by kernel_rfl) ?_
 refine CS (fun h1 => ?_) (fun h1 => ?_)
 ·have h1n := nott h1
  refine GO (kb h1 (tn 2 z)) (by kernel_rfl) ?_
  exact EN (by kernel_rfl)
 ·have h1n := notf h1
  refine GO (kb h1 (tn 2 (kc (hldP_to w ((getP b.fAttr (⟨#[119, 104, 101, 110]⟩)).1) (by omega)) (tn 8 (kj (((hldP w ((getP b.fAttr (⟨#[119, 104, 101, 110]⟩)).1)).2 : Int) != 0) z (tn 2 z) z))))) (by kernel_rfl) ?_
  refine CS (fun h2 => ?_) (fun h2 => ?_)
  ·refine GO (kb h2 (tn 3 z)) (by kernel_rfl) ?_
   exact EN (by kernel_rfl)
  ·obtain ⟨h2a, h2o⟩ := cond_tt h2
   have h2ap := eq_of_bne_false h2a
   have h2on := notf h2o
   refine GO (kb h2 (tn 3 (kc (hrec w b.fKids (by omega) (by omega)) (tn 4 z)))) (by kernel_rfl) ?_
   exact EN (by kernel_rfl)
end Go.Proofs.YtdaglbjgdakmcaaGreat
namespace Go.Proofs.YtdaglbjgdakmcaaGreat
open Go Go.Eng
def ifS : ByteArray := ⟨#[105, 102]⟩
def setBlk (b : DBlock) (li : List DInline) (ks : List DBlock) : DBlock := DBlock.mk b.fKind b.fLevel b.fInfo b.fText b.fDest b.fTitle b.fAttr li ks
def isIf (b : DBlock) : Bool := cond (b.fKind == 13) (eqs b.fInfo ifS) false
def chsW (w : List ByteArray) (rec : List DBlock → List DBlock × Int) (b : DBlock) : List DBlock × Int :=
 if (getP b.fAttr whenA).2 = true then
  (if (hldP w (getP b.fAttr whenA).1).2 ≠ 0 then ([], (hldP w (getP b.fAttr whenA).1).2) else if (hldP w (getP b.fAttr whenA).1).1 = true then rec b.fKids else ([], 0))
 else ([], 8)
theorem chsP_eq (rec : List ByteArray → List DBlock → List DBlock × Int) (w : List ByteArray) (b : DBlock) : chsP rec w b = chsW w (rec w) b := by
 unfold chsP chsW
 simp only [show (⟨#[119, 104, 101, 110]⟩ : ByteArray) = whenA from rfl]
 cases (getP b.fAttr whenA).2 with
 | false => simp
 | true =>
  simp only [Bool.not_true, cond_false, if_true]
  by_cases h1 : (hldP w (getP b.fAttr whenA).1).2 = 0
  ·cases hv : (hldP w (getP b.fAttr whenA).1).1 <;> simp [h1]
  ·simp [h1, bne_iff_ne.2 h1]
theorem chsP_wl (rec : List ByteArray → List DBlock → List DBlock × Int) (w : List ByteArray) (b : DBlock) (h : wl wBlock (rec w b.fKids).1 ≤ wl wBlock b.fKids) : wl wBlock (chsP rec w b).1 ≤ wBlock b ∧ (chsP rec w b).1.length ≤ wBlock b := by
 have h1 := wBlock_eq b
 have h2 : wl wBlock (chsP rec w b).1 ≤ wBlock b := by
  rw [chsP_eq]; unfold chsW
  repeat' split
  all_goals first | (simp [wl]; done) | omega
 exact ⟨h2, Nat.le_trans (wl_len wBlock_pos _) h2⟩
def blkPS_L0 (rec : (List ByteArray) → (List DBlock) → List DBlock × Int) (w : List ByteArray) (l : List DBlock) : Nat → (List DBlock) → Nat → (List DBlock × Int)
 | 0, _, _ => default
 | n0 + 1, v6, v16 => cond (decide (((v16 : Nat) : Int) < ((lenM aBlock l : Nat) : Int))) (cond (cond (((el l v16).fKind : Int) == 13) (eqs ((el l v16).fInfo) (⟨#[105, 102]⟩)) false) (cond (((chsP rec w (el l v16)).2 : Int) != 0) ([], (chsP rec w (el l v16)).2) (blkPS_L0 rec w l n0 (v6 ++ ((chsP rec w (el l v16)).1)) (v16 + 1))) (cond (((linP w ((el l v16).fLine)).2 : Int) != 0) ([], (linP w ((el l v16).fLine)).2) (cond (((rec w ((el l v16).fKids)).2 : Int) != 0) ([], (rec w ((el l v16).fKids)).2) (cond (cond (((el l v16).fKind : Int) != 1) true (decide (((lenM aInline (trmL (tdyL ((linP w ((el l v16).fLine)).1))) : Nat) : Int) > 0))) (blkPS_L0 rec w l n0 (v6 ++ ([DBlock.mk ((el l v16).fKind) ((el l v16).fLevel) ((el l v16).fInfo) ((el l v16).fText) ((el l v16).fDest) ((el l v16).fTitle) (cpyA ((el l v16).fAttr)) (trmL (tdyL ((linP w ((el l v16).fLine)).1))) ((rec w ((el l v16).fKids)).1)])) (v16 + 1)) (blkPS_L0 rec w l n0 v6 (v16 + 1)))))) (v6, 0)
def blkPS (rec : (List ByteArray) → (List DBlock) → List DBlock × Int) (w : List ByteArray) (l : List DBlock) : (List DBlock × Int) := blkPS_L0 rec w l ((List.length l - 0) + 1) ([]) 0
theorem blkP_st (rec : (List ByteArray) → (List DBlock) → List DBlock × Int) (w : List ByteArray) (l : List DBlock) (hl : wl wBlock l ≤ 536870912) (hrec : ∀ (w' : List ByteArray) (l' : List DBlock), wl wBlock l' < wl wBlock l → wl wBlock l' ≤ 536870912 → CallTo Tryz.prog 24 [(.av (.agg [(.rm (setF w' []) (trues (setF w' [])))])), (jL ((l').map aBlock))] [] [] (.av (.tup [(.sl (((rec w' l').1).map aBlock)), (vI ((rec w' l').2))])) [] []) (hrb : ∀ (w' : List ByteArray) (l' : List DBlock), wl wBlock l' < wl wBlock l → wl wBlock l' ≤ 536870912 → wl wBlock (rec w' l').1 ≤ wl wBlock l') : CallTo Tryz.prog 24 [(.av (.agg [(.rm (setF w []) (trues (setF w [])))])), (jL (l.map aBlock))] [] [] (.av (.tup [(.sl (((blkPS rec w l).1).map aBlock)), (vI ((blkPS rec w l).2))])) [] [] := by
 have hw_0 := wl_len (w := wBlock) wBlock_pos l
 refine BEG (fun r : (List DBlock × Int) => (.av (.tup [(.sl (r.1.map aBlock)), (vI r.2)]))) (blkPS rec w l) Tryz.func24 (by kernel_rfl) ?_
 refine UF (blkPS.eq_1 ..) ?_
 refine GO (tn 7 z) (by kernel_rfl) ?_
 refine LP (fun N M S => ∃ gv6 : Nat, ∃ v6 : List DBlock, ∃ v16 : Nat, (wl wBlock v6 ≤ wl wBlock (l.take v16)) ∧ (v16 ≤ l.length) ∧ (List.length l - v16 < N) ∧ M = blkPS_L0 rec w l N v6 v16 ∧ S = (sx 85 [(2, (.ptr 2 0)), (6, (.own (206, 66) gv6 11 (v6.map aBlock))), (14, (jL (l.map aBlock))), (15, (jI ((lenM aBlock l : Nat) : Int))), (16, (jI ((v16 : Nat) : Int)))] [(2, (.cells 57 [(.av (.rm (setF w []) (trues (setF w []))))]))] [((206, 66), gv6)])) (by kernel_rfl) ⟨0, _, _, by simp [wl], by first | omega | assumption | (simp only [lenM_eq]; omega) | (simp; done) | (simp; omega), by omega, rfl, rfl⟩ (WKf [(6, (.own (206, 66) 0 11 (([]).map aBlock)))] (ac (show ((([]).map aBlock) : List AV) = [] ∧ 0 < 66 ∧ (0 : Nat) = 0 from ⟨rfl, by decide, rfl⟩) an) (by kernel_rfl)) ?_
 rintro n0 M S ⟨gv6, v6, v16, hv, hi, hF0, rfl, rfl⟩
 obtain ⟨n0, rfl⟩ : ∃ k, n0 = k + 1 := ⟨n0 - 1, by omega⟩
 refine UF (blkPS_L0.eq_2 ..) ?_
 refine GO (tn 1 z) (by kernel_rfl) ?_
 refine CSd (fun h1p h1 => ?_) (fun h1p h1 => ?_)
 ·have := lenM_eq aBlock l
  have hce := wl_el (w := wBlock) (l := l) (i := v16) (by omega)
  have hcw := wBlock_eq (el l v16)
  simp only [wStr, w1] at hcw
  have htk := wl_take (w := wBlock) (l := l) (i := v16) (by omega)
  have hca := wAttr_eq (el l v16).fAttr
  have hvl := wl_len (w := wBlock) wBlock_pos v6
  have htl := wl_take_le (w := wBlock) l v16
  refine GO (kb h1 (ke (el_aBlock l v16 (by omega)) (tn 7 (kj (((el l v16).fKind : Int) == 13) (tn 3 z) z z)))) (by kernel_rfl) ?_
  refine CS (fun h2 => ?_) (fun h2 => ?_)
  ·obtain ⟨h2a, h2o⟩ := cond_ff h2
   have h2ap := eq_of_beq h2a
   have := chsP_wl rec w (el l v16) (hrb _ _ (by omega) (by omega))
   refine GO (kb h2 (tn 2 (kc (chsP_to rec w (el l v16) (by omega) (fun w' l' q1 q2 => hrec w' l' (by omega) q2)) (tn 7 z)))) (by kernel_rfl) ?_
   refine CSn (fun h3p h3 => ?_) (fun h3p h3 => ?_)
   ·refine GO (kb h3 (tn 3 z)) (by kernel_rfl) ?_
    refine OUT z (by kernel_rfl) ?_
    exact EN (by kernel_rfl)
   ·refine GO (kb h3 (tn 2 (kp (show (gv6 : Nat) = gv6 ∧ Uni 11 (((chsP rec w (el l v16)).1).map aBlock) ∧ (((v6.map aBlock) : List AV).length + ((((chsP rec w (el l v16)).1).map aBlock) : List AV).length) * 192 ≤ 140737488355328 from ⟨rfl, uni_aBlock _, by first | omega | (simp; done) | (simp; omega)⟩) (kw (apL aBlock v6 ((chsP rec w (el l v16)).1)) (tn 1 (kn (wrE (((v16 : Nat) : Int) + 1) ((v16 + 1 : Nat) : Int) (by omega)) (tn 1 z))))))) (by kernel_rfl) ?_
    exact AG ⟨gv6 + 1, _, _, by first | (simp only [wl_append, wl, wInline_mk, wBlock_mk, cpyA]; omega) | omega, by first | omega | assumption | (simp only [lenM_eq]; omega) | (simp; done) | (simp; omega), by omega, rfl, rfl⟩ (WK (by kernel_rfl)) (by kernel_rfl) (Nat.lt_succ_self _)
  ·have := linP_bd w ((el l v16).fLine) (by omega)
   refine GO (kb h2 (tn 3 (kc (linP_to w ((el l v16).fLine) (by omega)) (tn 7 z)))) (by kernel_rfl) ?_
   refine CSn (fun h4p h4 => ?_) (fun h4p h4 => ?_)
   ·refine GO (kb h4 (tn 3 z)) (by kernel_rfl) ?_
    refine OUT z (by kernel_rfl) ?_
    exact EN (by kernel_rfl)
   ·have := wl_len (w := wBlock) wBlock_pos (rec w ((el l v16).fKids)).1
    have := hrb w ((el l v16).fKids) (by omega) (by omega)
    refine GO (kb h4 (tn 3 (kc (hrec w ((el l v16).fKids) (by omega) (by omega)) (tn 7 z)))) (by kernel_rfl) ?_
    refine CSn (fun h5p h5 => ?_) (fun h5p h5 => ?_)
    ·refine GO (kb h5 (tn 3 z)) (by kernel_rfl) ?_
     refine OUT z (by kernel_rfl) ?_
     exact EN (by kernel_rfl)
    ·have := tdyL_bd ((linP w ((el l v16).fLine)).1) (by omega)
     have := trmL_bd (tdyL ((linP w ((el l v16).fLine)).1))
     refine GO (kb h5 (tn 2 (kc (cpyA_to ((el l v16).fAttr) (by omega)) (tn 1 (kc (tdyL_to ((linP w ((el l v16).fLine)).1) (by omega)) (kc (trmL_to (tdyL ((linP w ((el l v16).fLine)).1)) (by omega)) (tn 11 (kj (((el l v16).fKind : Int) != 1) z (tn 4 z) z)))))))) (by kernel_rfl) ?_
     refine CS (fun h6 => ?_) (fun h6 => ?_)
     ·refine GO (kb h6 (tn 2 (kp (show Uni 11 [(.agg [(vI ((el l v16).fKind)), (vI ((el l v16).fLevel)), (vS ((el l v16).fInfo)), (vS ((el l v16).fText)), (vS ((el l v16).fDest)), (vS ((el l v16).fTitle)), (vS ((cpyA ((el l v16).fAttr)).fID)), (.sl (((cpyA ((el l v16).fAttr)).fClasses).map strAV)), (.sl (((cpyA ((el l v16).fAttr)).fPairs).map aPair)), (.sl ((trmL (tdyL ((linP w ((el l v16).fLine)).1))).map aInline)), (.sl (((rec w ((el l v16).fKids)).1).map aBlock))])] from (uni_one rfl rfl)) (kp (show (gv6 : Nat) = gv6 ∧ Uni 11 [(.agg [(vI ((el l v16).fKind)), (vI ((el l v16).fLevel)), (vS ((el l v16).fInfo)), (vS ((el l v16).fText)), (vS ((el l v16).fDest)), (vS ((el l v16).fTitle)), (vS ((cpyA ((el l v16).fAttr)).fID)), (.sl (((cpyA ((el l v16).fAttr)).fClasses).map strAV)), (.sl (((cpyA ((el l v16).fAttr)).fPairs).map aPair)), (.sl ((trmL (tdyL ((linP w ((el l v16).fLine)).1))).map aInline)), (.sl (((rec w ((el l v16).fKids)).1).map aBlock))])] ∧ (((v6.map aBlock) : List AV).length + ([(.agg [(vI ((el l v16).fKind)), (vI ((el l v16).fLevel)), (vS ((el l v16).fInfo)), (vS ((el l v16).fText)), (vS ((el l v16).fDest)), (vS ((el l v16).fTitle)), (vS ((cpyA ((el l v16).fAttr)).fID)), (.sl (((cpyA ((el l v16).fAttr)).fClasses).map strAV)), (.sl (((cpyA ((el l v16).fAttr)).fPairs).map aPair)), (.sl ((trmL (tdyL ((linP w ((el l v16).fLine)).1))).map aInline)), (.sl (((rec w ((el l v16).fKids)).1).map aBlock))])] : List AV).length) * 192 ≤ 140737488355328 from ⟨rfl, uni_one rfl rfl, by first | omega | (simp; done) | (simp; omega)⟩) (kw (ap1_aBlock v6 (DBlock.mk ((el l v16).fKind) ((el l v16).fLevel) ((el l v16).fInfo) ((el l v16).fText) ((el l v16).fDest) ((el l v16).fTitle) (cpyA ((el l v16).fAttr)) (trmL (tdyL ((linP w ((el l v16).fLine)).1))) ((rec w ((el l v16).fKids)).1))) (tn 1 (kn (wrE (((v16 : Nat) : Int) + 1) ((v16 + 1 : Nat) : Int) (by omega)) (tn 1 z)))))))) (by kernel_rfl) ?_
      exact AG ⟨gv6 + 1, _, _, by first | (simp only [wl_append, wl, wInline_mk, wBlock_mk, cpyA]; omega) | omega, by first | omega | assumption | (simp only [lenM_eq]; omega) | (simp; done) | (simp; omega), by omega, rfl, rfl⟩ (WK (by kernel_rfl)) (by kernel_rfl) (Nat.lt_succ_self _)
     ·obtain ⟨h6a, h6o⟩ := cond_tt h6
      have h6ap := eq_of_bne_false h6a
      have h6op := of_decide_eq_false h6o
      refine GO (kb h6 (kn (wrE (((v16 : Nat) : Int) + 1) ((v16 + 1 : Nat) : Int) (by omega)) (tn 1 z))) (by kernel_rfl) ?_
      exact AG ⟨gv6, _, _, by first | (simp only [wl_append, wl, wInline_mk, wBlock_mk, cpyA]; omega) | omega, by first | omega | assumption | (simp only [lenM_eq]; omega) | (simp; done) | (simp; omega), by omega, rfl, rfl⟩ (WK (by kernel_rfl)) (by kernel_rfl) (Nat.lt_succ_self _)
 ·have := lenM_eq aBlock l
  refine GO (kb h1 z) (by kernel_rfl) ?_
  refine OUT (tn 3 z) (by kernel_rfl) ?_
  exact EN (by kernel_rfl)
def blkPN : Nat → (List ByteArray) → (List DBlock) → List DBlock × Int
 | 0, _, _ => default
 | n + 1, w, l => blkPS (blkPN n) w l
def lnW (w : List ByteArray) (l : List DInline) : List DInline := trmL (tdyL (linP w l).1)
def blkW (w : List ByteArray) (rec : List DBlock → List DBlock × Int) (b : DBlock) : List DBlock × Int :=
 if isIf b = true then chsW w rec b
 else if (linP w b.fLine).2 ≠ 0 then ([], (linP w b.fLine).2)
 else if (rec b.fKids).2 ≠ 0 then ([], (rec b.fKids).2)
 else if b.fKind = 1 ∧ lnW w b.fLine = [] then ([], 0) else ([setBlk b (lnW w b.fLine) (rec b.fKids).1], 0)
theorem blkPS_L0_eq (rec : (List ByteArray) → (List DBlock) → List DBlock × Int) (w : List ByteArray) (l : List DBlock) : ∀ (n : Nat) (acc : List DBlock) (i : Nat), l.length - i < n → blkPS_L0 rec w l n acc i = seqE (blkW w (rec w)) (l.drop i) acc
 | 0, acc, i, h => by omega
 | n + 1, acc, i, h => by
  have hl := lenM_eq aBlock l
  rw [blkPS_L0]
  by_cases hi : i < l.length
  ·rw [dT (by omega), cond_true, drop_el hi, seqE, blkPS_L0_eq rec w l n _ _ (by omega), blkPS_L0_eq rec w l n _ _ (by omega), blkPS_L0_eq rec w l n _ _ (by omega), chsP_eq]
   show cond (isIf (el l i)) _ _ = _
   generalize el l i = x
   cases hk : isIf x with
   | true =>
    simp only [cond_true, blkW, hk, if_true]
    by_cases h1 : (chsW w (rec w) x).2 = 0
    ·simp [h1]
    ·simp [h1, bne_iff_ne.2 h1]
   | false =>
    simp only [cond_false, blkW, hk, Bool.false_eq_true, if_false]
    by_cases h1 : (linP w x.fLine).2 = 0
    ·by_cases h2 : (rec w x.fKids).2 = 0
     ·simp only [h1, h2, bne_self_eq_false, cond_false, ne_eq, not_true_eq_false, if_false]
      show cond (cond (x.fKind != 1) true (decide (((lenM aInline (lnW w x.fLine) : Nat) : Int) > 0))) (seqE _ _ (acc ++ [setBlk x (lnW w x.fLine) (rec w x.fKids).1])) _ = _
      have hll := lenM_eq aInline (lnW w x.fLine)
      by_cases h3 : x.fKind = 1
      ·by_cases h4 : lnW w x.fLine = []
       ·rw [dF (by rw [h4] at hll ⊢; simp [lenM])]; simp [h3, h4]
       ·have := List.length_pos_iff.2 h4
        rw [dT (by omega)]; simp [h3, h4]
      ·simp [h3, bne_iff_ne.2 h3]
     ·simp [h1, h2, bne_iff_ne.2 h2]
    ·simp [h1, bne_iff_ne.2 h1]
  ·rw [dF (by omega), cond_false, List.drop_eq_nil_of_le (by omega)]; rfl
theorem blkPS_eq (rec : (List ByteArray) → (List DBlock) → List DBlock × Int) (w : List ByteArray) (l : List DBlock) : blkPS rec w l = seqE (blkW w (rec w)) l [] := by
 rw [blkPS, blkPS_L0_eq rec w l _ _ _ (by omega)]; simp
theorem lnW_wl (w : List ByteArray) (l : List DInline) (hl : wl wInline l ≤ 536870912) : wl wInline (lnW w l) ≤ wl wInline l := by
 have h1 := linP_bd w l hl
 have h2 := tdyL_bd (linP w l).1 (by omega)
 have h3 := trmL_bd (tdyL (linP w l).1)
 rw [lnW]; omega
theorem blkW_wl (w : List ByteArray) (rec : List DBlock → List DBlock × Int) (x : DBlock) (hx : wBlock x ≤ 536870912) (h : wl wBlock (rec x.fKids).1 ≤ wl wBlock x.fKids) : wl wBlock (blkW w rec x).1 ≤ wBlock x := by
 have h1 := wBlock_eq x
 have h2 := lnW_wl w x.fLine (by omega)
 have h3 : wBlock (setBlk x (lnW w x.fLine) (rec x.fKids).1) ≤ wBlock x := by rw [setBlk, wBlock_mk]; simp only [wStr, w1] at h1; omega
 unfold blkW chsW
 repeat' split
 all_goals first | (simp [wl]; done) | (simp only [wl]; omega) | omega
theorem blkPN_bd : ∀ (n : Nat) (w : List ByteArray) (l : List DBlock), wl wBlock l < n → wl wBlock l ≤ 536870912 → wl wBlock (blkPN n w l).1 ≤ wl wBlock l
 | 0, w, l, h, _ => by omega
 | n + 1, w, l, h, hl => by
  rw [blkPN, blkPS_eq]
  refine Nat.le_trans (seqE_wl (w := wBlock) (fun x hx => ?_)) (by simp [wl])
  have h1 := wl_mem (w := wBlock) hx
  have h2 := wBlock_eq x
  exact blkW_wl w _ x (by omega) (blkPN_bd n w x.fKids (by omega) (by omega))
theorem blkPN_to : ∀ (n : Nat) (w : List ByteArray) (l : List DBlock), wl wBlock l < n → wl wBlock l ≤ 536870912 → CallTo Tryz.prog 24 [(.av (.agg [(.rm (setF w []) (trues (setF w [])))])), (jL (l.map aBlock))] [] [] (.av (.tup [(.sl (((blkPN n w l).1).map aBlock)), (vI ((blkPN n w l).2))])) [] []
 | 0, w, l, h0, _ => absurd h0 (Nat.not_lt_zero _)
 | n + 1, w, l, h0, hl => by
  exact blkP_st (blkPN n) w l hl (fun w' l' q1 hl' => blkPN_to n w' l' (by omega) hl') (fun w' l' q1 hl' => blkPN_bd n w' l' (by omega) hl')
def blkP (w : List ByteArray) (l : List DBlock) : List DBlock × Int := blkPN (wl wBlock l + 1) w l
theorem blkP_to (w : List ByteArray) (l : List DBlock) (hl : wl wBlock l ≤ 536870912) : CallTo Tryz.prog 24 [(.av (.agg [(.rm (setF w []) (trues (setF w [])))])), (jL (l.map aBlock))] [] [] (.av (.tup [(.sl (((blkP w l).1).map aBlock)), (vI ((blkP w l).2))])) [] [] := blkPN_to _ w l (Nat.lt_succ_self _) hl
theorem blkP_bd (w : List ByteArray) (l : List DBlock) (hl : wl wBlock l ≤ 536870912) : wl wBlock (blkP w l).1 ≤ wl wBlock l := blkPN_bd _ w l (Nat.lt_succ_self _) hl
end Go.Proofs.YtdaglbjgdakmcaaGreat
namespace Go.Proofs.YtdaglbjgdakmcaaGreat
open Go Go.Eng
theorem wl_drop1 {α : Type} (w : α → Nat) : ∀ l : List α, wl w (l.drop 1) ≤ wl w l
 | [] => Nat.le_refl _
 | x :: l => by simp [wl]
theorem rlnP_L1_wl (l : List DInline) (fl : List ByteArray) (v8 : List DInline) (k0 : List DInline → List DInline × Int) : ∀ (n : Nat) (w8 : List DInline), wl wInline (rlnP_L1 l fl v8 k0 n w8).1 ≤ wl wInline w8
 | 0, w8 => Nat.zero_le _
 | n + 1, w8 => by
  rw [rlnP_L1]
  refine condP (fun r : List DInline × Int => wl wInline r.1 ≤ wl wInline w8) (fun _ => ?_) (fun _ => Nat.le_refl _)
  exact Nat.le_trans (rlnP_L1_wl l fl v8 k0 n _) (wl_take_le _ _)
theorem rlnP_L0_wl (l : List DInline) (fl : List ByteArray) : ∀ (n : Nat) (v8 : List DInline), wl wInline (rlnP_L0 l fl n v8).1 ≤ wl wInline v8
 | 0, v8 => Nat.zero_le _
 | n + 1, v8 => by
  rw [rlnP_L0]
  refine condP (fun r : List DInline × Int => wl wInline r.1 ≤ wl wInline v8) (fun _ => ?_) (fun _ => rlnP_L1_wl _ _ _ _ _ _)
  exact Nat.le_trans (rlnP_L0_wl l fl n _) (Nat.le_trans (wl_take_le _ _) (wl_drop1 _ _))
theorem rlnP_bd (l : List DInline) (w : List ByteArray) (hl : wl wInline l ≤ 536870912) (hf : w.length ≤ 1000000) : wl wInline (rlnP l w).1 ≤ wl wInline l := by
 unfold rlnP
 refine condP (fun r : List DInline × Int => wl wInline r.1 ≤ wl wInline l) (fun _ => Nat.zero_le _) (fun _ => ?_)
 exact Nat.le_trans (rlnP_L0_wl _ _ _ _) (Nat.le_trans (rtdL_bd _) (opnP_bd l w hl hf))
def rblPS_L0 (rec : (List DBlock) → (List ByteArray) → List DBlock × Int) (l : List DBlock) (flags : List ByteArray) : Nat → (List DBlock) → Nat → (List DBlock × Int)
 | 0, _, _ => default
 | n0 + 1, v6, v7 => cond (decide (((v7 : Nat) : Int) < ((lenM aBlock l : Nat) : Int))) (cond (cond (((el l v7).fKind : Int) == 13) (eqs ((el l v7).fInfo) (⟨#[105, 102]⟩)) false) (cond (!(getR ((el l v7).fAttr) (⟨#[119, 104, 101, 110]⟩)).2) ([], 8) (cond (((evalR ((getR ((el l v7).fAttr) (⟨#[119, 104, 101, 110]⟩)).1) flags).2 : Int) != 0) ([], (evalR ((getR ((el l v7).fAttr) (⟨#[119, 104, 101, 110]⟩)).1) flags).2) (cond (!(evalR ((getR ((el l v7).fAttr) (⟨#[119, 104, 101, 110]⟩)).1) flags).1) (rblPS_L0 rec l flags n0 v6 (v7 + 1)) (cond (((rlnP ((el l v7).fLine) flags).2 : Int) != 0) ([], (rlnP ((el l v7).fLine) flags).2) (cond (((rec ((el l v7).fKids) flags).2 : Int) != 0) ([], (rec ((el l v7).fKids) flags).2) (rblPS_L0 rec l flags n0 (v6 ++ ((rec ((el l v7).fKids) flags).1)) (v7 + 1))))))) (cond (((rlnP ((el l v7).fLine) flags).2 : Int) != 0) ([], (rlnP ((el l v7).fLine) flags).2) (cond (((rec ((el l v7).fKids) flags).2 : Int) != 0) ([], (rec ((el l v7).fKids) flags).2) (cond (cond (((el l v7).fKind : Int) == 1) (((lenM aInline ((rlnP ((el l v7).fLine) flags).1) : Nat) : Int) == 0) false) (rblPS_L0 rec l flags n0 v6 (v7 + 1)) (rblPS_L0 rec l flags n0 (v6 ++ ([DBlock.mk ((el l v7).fKind) ((el l v7).fLevel) ((el l v7).fInfo) ((el l v7).fText) ((el l v7).fDest) ((el l v7).fTitle) ((el l v7).fAttr) ((rlnP ((el l v7).fLine) flags).1) ((rec ((el l v7).fKids) flags).1)])) (v7 + 1)))))) (v6, 0)
def rblPS (rec : (List DBlock) → (List ByteArray) → List DBlock × Int) (l : List DBlock) (flags : List ByteArray) : (List DBlock × Int) := rblPS_L0 rec l flags ((List.length l - 0) + 1) ([]) 0
theorem rblP_st (rec : (List DBlock) → (List ByteArray) → List DBlock × Int) (l : List DBlock) (flags : List ByteArray) (hl : wl wBlock l ≤ 536870912) (hf : flags.length ≤ 1000000) (hrec : ∀ (l' : List DBlock) (flags' : List ByteArray), wl wBlock l' < wl wBlock l → wl wBlock l' ≤ 536870912 → flags'.length ≤ 1000000 → CallTo Tryz.prog 25 [(jL ((l').map aBlock)), (jL ((flags').map strAV))] [] [] (.av (.tup [(.sl (((rec l' flags').1).map aBlock)), (vI ((rec l' flags').2))])) [] []) (hrb : ∀ (l' : List DBlock) (flags' : List ByteArray), wl wBlock l' < wl wBlock l → wl wBlock l' ≤ 536870912 → flags'.length ≤ 1000000 → wl wBlock (rec l' flags').1 ≤ wl wBlock l') : CallTo Tryz.prog 25 [(jL (l.map aBlock)), (jL (flags.map strAV))] [] [] (.av (.tup [(.sl (((rblPS rec l flags).1).map aBlock)), (vI ((rblPS rec l flags).2))])) [] [] := by
 have hw_0 := wl_len (w := wBlock) wBlock_pos l
 refine BEG (fun r : (List DBlock × Int) => (.av (.tup [(.sl (r.1.map aBlock)), (vI r.2)]))) (rblPS rec l flags) Tryz.func25 (by kernel_rfl) ?_
 refine UF (rblPS.eq_1 ..) ?_
 refine GO (tn 4 z) (by kernel_rfl) ?_
 refine LP (fun N M S => ∃ gv6 : Nat, ∃ v6 : List DBlock, ∃ v7 : Nat, (wl wBlock v6 ≤ wl wBlock (l.take v7)) ∧ (v7 ≤ l.length) ∧ (List.length l - v7 < N) ∧ M = rblPS_L0 rec l flags N v6 v7 ∧ S = (sx 96 [(0, (jL (l.map aBlock))), (1, (jL (flags.map strAV))), (6, (.own (206, 66) gv6 11 (v6.map aBlock))), (7, (jI ((v7 : Nat) : Int)))] [] [((206, 66), gv6)])) (by kernel_rfl) ⟨0, _, _, by simp [wl], by first | omega | assumption | (simp only [lenM_eq]; omega) | (simp; done) | (simp; omega), by omega, rfl, rfl⟩ (WKf [(6, (.own (206, 66) 0 11 (([]).map aBlock)))] (ac (show ((([]).map aBlock) : List AV) = [] ∧ 0 < 66 ∧ (0 : Nat) = 0 from ⟨rfl, by decide, rfl⟩) an) (by kernel_rfl)) ?_
 rintro n0 M S ⟨gv6, v6, v7, hv, hi, hF0, rfl, rfl⟩
 obtain ⟨n0, rfl⟩ : ∃ k, n0 = k + 1 := ⟨n0 - 1, by omega⟩
 refine UF (rblPS_L0.eq_2 ..) ?_
 refine GO (tn 4 z) (by kernel_rfl) ?_
 refine CSd (fun h1p h1 => ?_) (fun h1p h1 => ?_)
 ·have := lenM_eq aBlock l
  have hce := wl_el (w := wBlock) (l := l) (i := v7) (by omega)
  have hcw := wBlock_eq (el l v7)
  simp only [wStr, w1] at hcw
  have htk := wl_take (w := wBlock) (l := l) (i := v7) (by omega)
  have hca := wAttr_eq (el l v7).fAttr
  have hcp := wl_len (w := wPair) wPair_pos (el l v7).fAttr.fPairs
  have hvl := wl_len (w := wBlock) wBlock_pos v6
  have htl := wl_take_le (w := wBlock) l v7
  have hgs := getR_sz ((el l v7).fAttr) (⟨#[119, 104, 101, 110]⟩)
  refine GO (kb h1 (tn 2 (ke (el_aBlock l v7 (by omega)) (tn 7 (kj (((el l v7).fKind : Int) == 13) (tn 3 z) z (tn 2 z)))))) (by kernel_rfl) ?_
  refine CS (fun h2 => ?_) (fun h2 => ?_)
  ·obtain ⟨h2a, h2o⟩ := cond_ff h2
   have h2ap := eq_of_beq h2a
   have := getR_sz ((el l v7).fAttr) (⟨#[119, 104, 101, 110]⟩)
   refine GO (kb h2 (tn 2 (kc (getR_to ((el l v7).fAttr) (⟨#[119, 104, 101, 110]⟩) (by omega)) (tn 7 z)))) (by kernel_rfl) ?_
   refine CS (fun h3 => ?_) (fun h3 => ?_)
   ·have h3n := nott h3
    refine GO (kb h3 (tn 2 z)) (by kernel_rfl) ?_
    refine OUT z (by kernel_rfl) ?_
    exact EN (by kernel_rfl)
   ·have h3n := notf h3
    refine GO (kb h3 (tn 2 (kc (rEval_to ((getR ((el l v7).fAttr) (⟨#[119, 104, 101, 110]⟩)).1) (by unfold maxLen; omega) flags (by unfold maxLen; omega)) (tn 7 z)))) (by kernel_rfl) ?_
    refine CSn (fun h4p h4 => ?_) (fun h4p h4 => ?_)
    ·refine GO (kb h4 (tn 3 z)) (by kernel_rfl) ?_
     refine OUT z (by kernel_rfl) ?_
     exact EN (by kernel_rfl)
    ·refine GO (kb h4 (tn 2 z)) (by kernel_rfl) ?_
     refine CS (fun h5 => ?_) (fun h5 => ?_)
     ·have h5n := nott h5
      refine GO (kb h5 (tn 1 (kn (wrE (((v7 : Nat) : Int) + 1) ((v7 + 1 : Nat) : Int) (by omega)) (tn 1 z)))) (by kernel_rfl) ?_
      exact AG ⟨gv6, _, _, by first | (simp only [wl_append, wl, wInline_mk, wBlock_mk, cpyA]; omega) | omega, by first | omega | assumption | (simp only [lenM_eq]; omega) | (simp; done) | (simp; omega), by omega, rfl, rfl⟩ (WK (by kernel_rfl)) (by kernel_rfl) (Nat.lt_succ_self _)
     ·have h5n := notf h5
      have := rlnP_bd ((el l v7).fLine) flags (by omega) (by omega)
      refine GO (kb h5 (tn 3 (kc (rlnP_to ((el l v7).fLine) flags (by omega) (by omega)) (tn 7 z)))) (by kernel_rfl) ?_
      refine CSn (fun h6p h6 => ?_) (fun h6p h6 => ?_)
      ·refine GO (kb h6 (tn 3 z)) (by kernel_rfl) ?_
       refine OUT z (by kernel_rfl) ?_
       exact EN (by kernel_rfl)
      ·have := wl_len (w := wBlock) wBlock_pos (rec ((el l v7).fKids) flags).1
       have := hrb ((el l v7).fKids) flags (by omega) (by omega) (by omega)
       refine GO (kb h6 (tn 3 (kc (hrec ((el l v7).fKids) flags (by omega) (by omega) (by omega)) (tn 7 z)))) (by kernel_rfl) ?_
       refine CSn (fun h7p h7 => ?_) (fun h7p h7 => ?_)
       ·refine GO (kb h7 (tn 3 z)) (by kernel_rfl) ?_
        refine OUT z (by kernel_rfl) ?_
        exact EN (by kernel_rfl)
       ·refine GO (kb h7 (tn 1 (kb h2 (tn 2 (kp (show (gv6 : Nat) = gv6 ∧ Uni 11 (((rec ((el l v7).fKids) flags).1).map aBlock) ∧ (((v6.map aBlock) : List AV).length + ((((rec ((el l v7).fKids) flags).1).map aBlock) : List AV).length) * 192 ≤ 140737488355328 from ⟨rfl, uni_aBlock _, by first | omega | (simp; done) | (simp; omega)⟩) (kw (apL aBlock v6 ((rec ((el l v7).fKids) flags).1)) (tn 2 (kn (wrE (((v7 : Nat) : Int) + 1) ((v7 + 1 : Nat) : Int) (by omega)) (tn 1 z))))))))) (by kernel_rfl) ?_
        exact AG ⟨gv6 + 1, _, _, by first | (simp only [wl_append, wl, wInline_mk, wBlock_mk, cpyA]; omega) | omega, by first | omega | assumption | (simp only [lenM_eq]; omega) | (simp; done) | (simp; omega), by omega, rfl, rfl⟩ (WK (by kernel_rfl)) (by kernel_rfl) (Nat.lt_succ_self _)
  ·have := rlnP_bd ((el l v7).fLine) flags (by omega) (by omega)
   refine GO (kb h2 (tn 3 (kc (rlnP_to ((el l v7).fLine) flags (by omega) (by omega)) (tn 7 z)))) (by kernel_rfl) ?_
   refine CSn (fun h8p h8 => ?_) (fun h8p h8 => ?_)
   ·refine GO (kb h8 (tn 3 z)) (by kernel_rfl) ?_
    refine OUT z (by kernel_rfl) ?_
    exact EN (by kernel_rfl)
   ·have := wl_len (w := wBlock) wBlock_pos (rec ((el l v7).fKids) flags).1
    have := hrb ((el l v7).fKids) flags (by omega) (by omega) (by omega)
    refine GO (kb h8 (tn 3 (kc (hrec ((el l v7).fKids) flags (by omega) (by omega) (by omega)) (tn 7 z)))) (by kernel_rfl) ?_
    refine CSn (fun h9p h9 => ?_) (fun h9p h9 => ?_)
    ·refine GO (kb h9 (tn 3 z)) (by kernel_rfl) ?_
     refine OUT z (by kernel_rfl) ?_
     exact EN (by kernel_rfl)
    ·refine GO (kb h9 (tn 1 (kb h2 (tn 10 (kj (((el l v7).fKind : Int) == 1) (tn 3 z) z z))))) (by kernel_rfl) ?_
     refine CS (fun h10 => ?_) (fun h10 => ?_)
     ·obtain ⟨h10a, h10o⟩ := cond_ff h10
      have h10ap := eq_of_beq h10a
      have h10op := eq_of_beq h10o
      refine GO (kb h10 (tn 1 (kn (wrE (((v7 : Nat) : Int) + 1) ((v7 + 1 : Nat) : Int) (by omega)) (tn 1 z)))) (by kernel_rfl) ?_
      exact AG ⟨gv6, _, _, by first | (simp only [wl_append, wl, wInline_mk, wBlock_mk, cpyA]; omega) | omega, by first | omega | assumption | (simp only [lenM_eq]; omega) | (simp; done) | (simp; omega), by omega, rfl, rfl⟩ (WK (by kernel_rfl)) (by kernel_rfl) (Nat.lt_succ_self _)
     ·refine GO (kb h10 (tn 2 (kp (show Uni 11 [(.agg [(vI ((el l v7).fKind)), (vI ((el l v7).fLevel)), (vS ((el l v7).fInfo)), (vS ((el l v7).fText)), (vS ((el l v7).fDest)), (vS ((el l v7).fTitle)), (vS (((el l v7).fAttr).fID)), (.sl ((((el l v7).fAttr).fClasses).map strAV)), (.sl ((((el l v7).fAttr).fPairs).map aPair)), (.sl (((rlnP ((el l v7).fLine) flags).1).map aInline)), (.sl (((rec ((el l v7).fKids) flags).1).map aBlock))])] from (uni_one rfl rfl)) (kp (show (gv6 : Nat) = gv6 ∧ Uni 11 [(.agg [(vI ((el l v7).fKind)), (vI ((el l v7).fLevel)), (vS ((el l v7).fInfo)), (vS ((el l v7).fText)), (vS ((el l v7).fDest)), (vS ((el l v7).fTitle)), (vS (((el l v7).fAttr).fID)), (.sl ((((el l v7).fAttr).fClasses).map strAV)), (.sl ((((el l v7).fAttr).fPairs).map aPair)), (.sl (((rlnP ((el l v7).fLine) flags).1).map aInline)), (.sl (((rec ((el l v7).fKids) flags).1).map aBlock))])] ∧ (((v6.map aBlock) : List AV).length + ([(.agg [(vI ((el l v7).fKind)), (vI ((el l v7).fLevel)), (vS ((el l v7).fInfo)), (vS ((el l v7).fText)), (vS ((el l v7).fDest)), (vS ((el l v7).fTitle)), (vS (((el l v7).fAttr).fID)), (.sl ((((el l v7).fAttr).fClasses).map strAV)), (.sl ((((el l v7).fAttr).fPairs).map aPair)), (.sl (((rlnP ((el l v7).fLine) flags).1).map aInline)), (.sl (((rec ((el l v7).fKids) flags).1).map aBlock))])] : List AV).length) * 192 ≤ 140737488355328 from ⟨rfl, uni_one rfl rfl, by first | omega | (simp; done) | (simp; omega)⟩) (kw (ap1_aBlock v6 (DBlock.mk ((el l v7).fKind) ((el l v7).fLevel) ((el l v7).fInfo) ((el l v7).fText) ((el l v7).fDest) ((el l v7).fTitle) ((el l v7).fAttr) ((rlnP ((el l v7).fLine) flags).1) ((rec ((el l v7).fKids) flags).1))) (tn 2 (kn (wrE (((v7 : Nat) : Int) + 1) ((v7 + 1 : Nat) : Int) (by omega)) (tn 1 z)))))))) (by kernel_rfl) ?_
      exact AG ⟨gv6 + 1, _, _, by first | (simp only [wl_append, wl, wInline_mk, wBlock_mk, cpyA]; omega) | omega, by first | omega | assumption | (simp only [lenM_eq]; omega) | (simp; done) | (simp; omega), by omega, rfl, rfl⟩ (WK (by kernel_rfl)) (by kernel_rfl) (Nat.lt_succ_self _)
 ·have := lenM_eq aBlock l
  refine GO (kb h1 z) (by kernel_rfl) ?_
  refine OUT (tn 3 z) (by kernel_rfl) ?_
  exact EN (by kernel_rfl)
def rblPN : Nat → (List DBlock) → (List ByteArray) → List DBlock × Int
 | 0, _, _ => default
 | n + 1, l, flags => rblPS (rblPN n) l flags
def rblW (w : List ByteArray) (rec : List DBlock → List DBlock × Int) (x : DBlock) : List DBlock × Int :=
 if isIf x = true then
  (if (getR x.fAttr ⟨#[119, 104, 101, 110]⟩).2 = true then (if (evalR (getR x.fAttr ⟨#[119, 104, 101, 110]⟩).1 w).2 ≠ 0 then ([], (evalR (getR x.fAttr ⟨#[119, 104, 101, 110]⟩).1 w).2) else if (evalR (getR x.fAttr ⟨#[119, 104, 101, 110]⟩).1 w).1 = true then (if (rlnP x.fLine w).2 ≠ 0 then ([], (rlnP x.fLine w).2) else if (rec x.fKids).2 ≠ 0 then ([], (rec x.fKids).2) else ((rec x.fKids).1, 0)) else ([], 0)) else ([], 8))
 else if (rlnP x.fLine w).2 ≠ 0 then ([], (rlnP x.fLine w).2)
 else if (rec x.fKids).2 ≠ 0 then ([], (rec x.fKids).2)
 else if x.fKind = 1 ∧ (rlnP x.fLine w).1 = [] then ([], 0) else ([setBlk x (rlnP x.fLine w).1 (rec x.fKids).1], 0)
theorem rblPS_L0_eq (rec : (List DBlock) → (List ByteArray) → List DBlock × Int) (l : List DBlock) (w : List ByteArray) : ∀ (n : Nat) (acc : List DBlock) (i : Nat), l.length - i < n → rblPS_L0 rec l w n acc i = seqE (rblW w (fun ks => rec ks w)) (l.drop i) acc
 | 0, acc, i, h => by omega
 | n + 1, acc, i, h => by
  have hl := lenM_eq aBlock l
  rw [rblPS_L0]
  by_cases hi : i < l.length
  ·rw [dT (by omega), cond_true, drop_el hi, seqE, rblPS_L0_eq rec l w n _ _ (by omega), rblPS_L0_eq rec l w n _ _ (by omega), rblPS_L0_eq rec l w n _ _ (by omega)]
   show cond (isIf (el l i)) _ _ = _
   generalize el l i = x
   have hll := lenM_eq aInline (rlnP x.fLine w).1
   cases hk : isIf x with
   | true =>
    simp only [cond_true, rblW, hk, if_true]
    cases hw : (getR x.fAttr ⟨#[119, 104, 101, 110]⟩).2 with
    | true =>
     by_cases h1 : (evalR (getR x.fAttr ⟨#[119, 104, 101, 110]⟩).1 w).2 = 0
     ·cases hv : (evalR (getR x.fAttr ⟨#[119, 104, 101, 110]⟩).1 w).1 with
      | true =>
       by_cases h3 : (rlnP x.fLine w).2 = 0
       ·by_cases h2 : (rec x.fKids w).2 = 0
        ·simp [h1, h2, h3]
        ·simp [h1, h2, h3, bne_iff_ne.2 h2]
       ·simp [h1, h3, bne_iff_ne.2 h3]
      | false => simp [h1]
     ·simp [h1, bne_iff_ne.2 h1]
    | false => simp
   | false =>
    simp only [cond_false, rblW, hk, Bool.false_eq_true, if_false]
    by_cases h3 : (rlnP x.fLine w).2 = 0
    ·by_cases h2 : (rec x.fKids w).2 = 0
     ·by_cases h4 : x.fKind = 1
      ·by_cases h5 : (rlnP x.fLine w).1 = []
       ·simp [h2, h3, h4, h5, lenM]
       ·have h6 := List.length_pos_iff.2 h5
        have h7 : (((lenM aInline (rlnP x.fLine w).1 : Nat) : Int) == 0) = false := beq_eq_false_iff_ne.2 (by omega)
        simp [h2, h3, h4, h5, h7, setBlk]
      ·have h4' : (x.fKind == 1) = false := beq_eq_false_iff_ne.2 h4
       simp [h2, h3, h4, h4', setBlk]
     ·simp [h2, h3, bne_iff_ne.2 h2]
    ·simp [h3, bne_iff_ne.2 h3]
  ·rw [dF (by omega), cond_false, List.drop_eq_nil_of_le (by omega)]; rfl
theorem rblPS_eq (rec : (List DBlock) → (List ByteArray) → List DBlock × Int) (l : List DBlock) (w : List ByteArray) : rblPS rec l w = seqE (rblW w (fun ks => rec ks w)) l [] := by
 rw [rblPS, rblPS_L0_eq rec l w _ _ _ (by omega)]; simp
theorem rblW_wl (w : List ByteArray) (rec : List DBlock → List DBlock × Int) (x : DBlock) (hx : wBlock x ≤ 536870912) (hw : w.length ≤ 1000000) (h : wl wBlock (rec x.fKids).1 ≤ wl wBlock x.fKids) : wl wBlock (rblW w rec x).1 ≤ wBlock x := by
 have h1 := wBlock_eq x
 have h2 := rlnP_bd x.fLine w (by omega) hw
 have h3 : wBlock (setBlk x (rlnP x.fLine w).1 (rec x.fKids).1) ≤ wBlock x := by rw [setBlk, wBlock_mk]; simp only [wStr, w1] at h1; omega
 unfold rblW
 repeat' split
 all_goals first | (simp [wl]; done) | (simp only [wl]; omega) | omega
theorem rblPN_bd : ∀ (n : Nat) (l : List DBlock) (w : List ByteArray), wl wBlock l < n → wl wBlock l ≤ 536870912 → w.length ≤ 1000000 → wl wBlock (rblPN n l w).1 ≤ wl wBlock l
 | 0, l, w, h, _, _ => by omega
 | n + 1, l, w, h, hl, hw => by
  rw [rblPN, rblPS_eq]
  refine Nat.le_trans (seqE_wl (w := wBlock) (fun x hx => ?_)) (by simp [wl])
  have h1 := wl_mem (w := wBlock) hx
  have h2 := wBlock_eq x
  exact rblW_wl w _ x (by omega) hw (rblPN_bd n x.fKids w (by omega) (by omega) hw)
theorem rblPN_to : ∀ (n : Nat) (l : List DBlock) (flags : List ByteArray), wl wBlock l < n → wl wBlock l ≤ 536870912 → flags.length ≤ 1000000 → CallTo Tryz.prog 25 [(jL (l.map aBlock)), (jL (flags.map strAV))] [] [] (.av (.tup [(.sl (((rblPN n l flags).1).map aBlock)), (vI ((rblPN n l flags).2))])) [] []
 | 0, l, flags, h0, _, _ => absurd h0 (Nat.not_lt_zero _)
 | n + 1, l, flags, h0, hl, hf => by
  exact rblP_st (rblPN n) l flags hl hf (fun l' flags' q1 hl' hf' => rblPN_to n l' flags' (by omega) hl' hf') (fun l' flags' q1 hl' hf' => rblPN_bd n l' flags' (by omega) hl' hf')
def rblP (l : List DBlock) (flags : List ByteArray) : List DBlock × Int := rblPN (wl wBlock l + 1) l flags
theorem rblP_to (l : List DBlock) (flags : List ByteArray) (hl : wl wBlock l ≤ 536870912) (hf : flags.length ≤ 1000000) : CallTo Tryz.prog 25 [(jL (l.map aBlock)), (jL (flags.map strAV))] [] [] (.av (.tup [(.sl (((rblP l flags).1).map aBlock)), (vI ((rblP l flags).2))])) [] [] := rblPN_to _ l flags (Nat.lt_succ_self _) hl hf
theorem rblP_bd (l : List DBlock) (flags : List ByteArray) (hl : wl wBlock l ≤ 536870912) (hf : flags.length ≤ 1000000) : wl wBlock (rblP l flags).1 ≤ wl wBlock l := rblPN_bd _ l flags (Nat.lt_succ_self _) hl hf
def rapD (d : DDoc) (flags : List ByteArray) : (DDoc × Int) := cond (((rblP d.fBlocks flags).2 : Int) != 0) (DDoc.mk ([]) ([]), (rblP d.fBlocks flags).2) (DDoc.mk d.fMeta ((rblP d.fBlocks flags).1), 0)
theorem rapD_to (d : DDoc) (flags : List ByteArray) (hd : wDoc d ≤ 536870912) (hf : flags.length ≤ 1000000) : CallTo Tryz.prog 10 [(.av (cDoc d)), (jL (flags.map strAV))] [] [] (.av (.tup [(cDoc ((rapD d flags).1)), (vI ((rapD d flags).2))])) [] [] := by
 have hwd := wDoc_eq d
 have hmp := wl_len (w := wPair) wPair_pos d.fMeta
 refine BEG (fun r : (DDoc × Int) => (.av (.tup [(cDoc r.1), (vI r.2)]))) (rapD d flags) Tryz.func10 (by kernel_rfl) ?_
 refine UF (rapD.eq_1 ..) ?_
 have := rblP_bd d.fBlocks flags (by omega) (by omega)
 refine GO (tn 6 (kc (rblP_to d.fBlocks flags (by omega) (by omega)) (tn 7 z))) (by kernel_rfl) ?_
 refine CSn (fun h1p h1 => ?_) (fun h1p h1 => ?_)
 ·refine GO (kb h1 (tn 4 z)) (by kernel_rfl) ?_
  exact EN (by kernel_rfl)
 ·refine GO (kb h1 (tn 6 z)) (by kernel_rfl) ?_
  exact EN (by kernel_rfl)
end Go.Proofs.YtdaglbjgdakmcaaGreat
namespace Go.Proofs.YtdaglbjgdakmcaaGreat
open Go Go.Eng
def aplD (d : DDoc) (flags : List ByteArray) : (DDoc × Int) := cond (((blkP flags d.fBlocks).2 : Int) != 0) (DDoc.mk ([]) ([]), (blkP flags d.fBlocks).2) (DDoc.mk d.fMeta ((blkP flags d.fBlocks).1), 0)
theorem aplD_to (d : DDoc) (flags : List ByteArray) (hd : wDoc d ≤ 536870912) (hf : flags.length ≤ 1073741824) : CallTo Tryz.prog 9 [(.av (cDoc d)), (jL (flags.map strAV))] [] [] (.av (.tup [(cDoc ((aplD d flags).1)), (vI ((aplD d flags).2))])) [] [] := by
 have hwd := wDoc_eq d
 have hmp := wl_len (w := wPair) wPair_pos d.fMeta
 refine BEG (fun r : (DDoc × Int) => (.av (.tup [(cDoc r.1), (vI r.2)]))) (aplD d flags) Tryz.func9 (by kernel_rfl) ?_
 refine UF (aplD.eq_1 ..) ?_
 have := blkP_bd flags d.fBlocks (by omega)
 refine GO (tn 4 (kc (setOf_to flags (by unfold maxLen; omega)) (tn 6 (kc (blkP_to flags d.fBlocks (by omega)) (tn 7 z))))) (by kernel_rfl) ?_
 refine CSn (fun h1p h1 => ?_) (fun h1p h1 => ?_)
 ·refine GO (kb h1 (tn 4 z)) (by kernel_rfl) ?_
  exact EN (by kernel_rfl)
 ·refine GO (kb h1 (tn 2 (kp (show Uni 2 (d.fMeta.map aPair) ∧ ((d.fMeta.map aPair) : List AV).length * 32 ≤ 140737488355328 from ⟨uni_aPair _, by first | omega | (simp; done) | (simp; omega)⟩) (kw (Eq.refl (d.fMeta.map aPair)) (tn 4 z))))) (by kernel_rfl) ?_
  exact EN (by kernel_rfl)
end Go.Proofs.YtdaglbjgdakmcaaGreat
namespace Go.Proofs.YtdaglbjgdakmcaaGreat
open Go Go.Eng
theorem aplD_bd (d : DDoc) (flags : List ByteArray) (hd : wDoc d ≤ 536870912) : wDoc (aplD d flags).1 ≤ wDoc d := by
 have h0 := wDoc_eq d
 have h1 := blkP_bd flags d.fBlocks (by omega)
 unfold aplD
 refine condP (fun r : DDoc × Int => wDoc r.1 ≤ wDoc d) (fun _ => ?_) (fun _ => ?_)
 ·show wDoc (DDoc.mk [] []) ≤ _; simp [wDoc_eq, wl]; omega
 ·show wDoc (DDoc.mk d.fMeta (blkP flags d.fBlocks).1) ≤ _; simp only [wDoc_eq]; omega
end Go.Proofs.YtdaglbjgdakmcaaGreat
namespace Go.Proofs.YtdaglbjgdakmcaaGreat
open Go Go.Eng
end Go.Proofs.YtdaglbjgdakmcaaGreat
namespace Go.Proofs.YtdaglbjgdakmcaaGreat
open Go Go.Eng
theorem inl_ind {P : List DInline → Prop} (nil : P []) (cons : ∀ x l, P x.fKids → P l → P (x :: l)) : ∀ l, P l := by
 have key : ∀ (n : Nat) (l : List DInline), wl wInline l < n → P l := by
  intro n
  induction n with
  | zero => intro l h; omega
  | succ n ih =>
   intro l
   induction l with
   | nil => intro _; exact nil
   | cons x l il =>
    intro h
    have h1 := wInline_eq x
    simp only [wl] at h
    exact cons x l (ih _ (by omega)) (il (by omega))
 exact fun l => key _ l (Nat.lt_succ_self _)
theorem blk_ind {P : List DBlock → Prop} (nil : P []) (cons : ∀ x l, P x.fKids → P l → P (x :: l)) : ∀ l, P l := by
 have key : ∀ (n : Nat) (l : List DBlock), wl wBlock l < n → P l := by
  intro n
  induction n with
  | zero => intro l h; omega
  | succ n ih =>
   intro l
   induction l with
   | nil => intro _; exact nil
   | cons x l il =>
    intro h
    have h1 := wBlock_eq x
    simp only [wl] at h
    exact cons x l (ih _ (by omega)) (il (by omega))
 exact fun l => key _ l (Nat.lt_succ_self _)
theorem inl_all {P : List DInline → Prop} (h : ∀ l, (∀ x ∈ l, P x.fKids) → P l) : ∀ l : List DInline, P l := by
 intro l
 have : P l ∧ ∀ x ∈ l, P x.fKids := by
  refine inl_ind (P := fun l => P l ∧ ∀ x ∈ l, P x.fKids) ⟨h [] (by simp), by simp⟩ (fun x l hx hl => ?_) l
  have hk : ∀ y ∈ x :: l, P y.fKids := by
   intro y hy
   simp only [List.mem_cons] at hy
   rcases hy with rfl | hy
   ·exact hx.1
   ·exact hl.2 y hy
  exact ⟨h _ hk, hk⟩
 exact this.1
theorem blk_all {P : List DBlock → Prop} (h : ∀ l, (∀ x ∈ l, P x.fKids) → P l) : ∀ l : List DBlock, P l := by
 intro l
 have : P l ∧ ∀ x ∈ l, P x.fKids := by
  refine blk_ind (P := fun l => P l ∧ ∀ x ∈ l, P x.fKids) ⟨h [] (by simp), by simp⟩ (fun x l hx hl => ?_) l
  have hk : ∀ y ∈ x :: l, P y.fKids := by
   intro y hy
   simp only [List.mem_cons] at hy
   rcases hy with rfl | hy
   ·exact hx.1
   ·exact hl.2 y hy
  exact ⟨h _ hk, hk⟩
 exact this.1
theorem loop_fold {α β : Type} [Inhabited α] (f : α → AV) (l : List α) (g : α → β → β) (z : β) (F : Nat → Nat → β) (hF : ∀ n i, F (n + 1) i = cond (decide (((i : Nat) : Int) < ((lenM f l : Nat) : Int))) (g (el l i) (F n (i + 1))) z) : ∀ (n i : Nat), l.length - i < n → F n i = (l.drop i).foldr g z
 | 0, i, h => by omega
 | n + 1, i, h => by
  have hl := lenM_eq f l
  rw [hF]
  by_cases hi : i < l.length
  ·rw [dT (by omega), cond_true, drop_el hi, List.foldr_cons, loop_fold f l g z F hF n _ (by omega)]
  ·rw [dF (by omega), cond_false, List.drop_eq_nil_of_le (by omega)]; rfl
theorem dpIN_eq : ∀ (n m : Nat) (l : List DInline), wl wInline l < n → wl wInline l < m → dpIN n l = dpIN m l
 | 0, m, l, h, _ => by omega
 | n + 1, 0, l, _, h => by omega
 | n + 1, m + 1, l, h, k => by
  rw [dpIN, dpIN, dpIS_eq, dpIS_eq]
  refine flat_eq (fun x hx => ?_)
  have h1 := wl_mem (w := wInline) hx
  have h2 := wInline_eq x
  rw [dpIN_eq n m x.fKids (by omega) (by omega)]
theorem dpI_nil : dpI [] = [] := rfl
theorem dpI_flat (l : List DInline) : dpI l = l.flatMap (fun x => x :: dpI x.fKids) := by
 rw [dpI, dpIN, dpIS_eq]
 refine flat_eq (fun x hx => ?_)
 have h1 := wl_mem (w := wInline) hx
 have h2 := wInline_eq x
 rw [dpI, dpIN_eq _ (wl wInline x.fKids + 1) x.fKids (by omega) (by omega)]
theorem dpI_cons (x : DInline) (l : List DInline) : dpI (x :: l) = x :: (dpI x.fKids ++ dpI l) := by
 rw [dpI_flat, List.flatMap_cons, ← dpI_flat l]; rfl
theorem dpI_app (a b : List DInline) : dpI (a ++ b) = dpI a ++ dpI b := by
 rw [dpI_flat, List.flatMap_append, ← dpI_flat, ← dpI_flat]
theorem lsBN_eq : ∀ (n m : Nat) (l : List DBlock), wl wBlock l < n → wl wBlock l < m → lsBN n l = lsBN m l
 | 0, m, l, h, _ => by omega
 | n + 1, 0, l, _, h => by omega
 | n + 1, m + 1, l, h, k => by
  rw [lsBN, lsBN, lsBS_eq, lsBS_eq]
  refine flat_eq (fun x hx => ?_)
  have h1 := wl_mem (w := wBlock) hx
  have h2 := wBlock_eq x
  rw [lsBN_eq n m x.fKids (by omega) (by omega)]
theorem lsB_flat (l : List DBlock) : lsB l = l.flatMap (fun x => x :: lsB x.fKids) := by
 rw [lsB, lsBN, lsBS_eq]
 refine flat_eq (fun x hx => ?_)
 have h1 := wl_mem (w := wBlock) hx
 have h2 := wBlock_eq x
 rw [lsB, lsBN_eq _ (wl wBlock x.fKids + 1) x.fKids (by omega) (by omega)]
theorem lsB_cons (x : DBlock) (l : List DBlock) : lsB (x :: l) = x :: (lsB x.fKids ++ lsB l) := by
 rw [lsB_flat, List.flatMap_cons, ← lsB_flat l]; rfl
theorem mem_lsB {y : DBlock} {l : List DBlock} : y ∈ lsB l ↔ ∃ x ∈ l, y = x ∨ y ∈ lsB x.fKids := by
 rw [lsB_flat, List.mem_flatMap]; simp
def sq {α β : Type} (f : α → List β × Int) : List α → List β × Int
 | [] => ([], 0)
 | x :: r => if (f x).2 ≠ 0 then ([], (f x).2) else if (sq f r).2 ≠ 0 then ([], (sq f r).2) else ((f x).1 ++ (sq f r).1, 0)
theorem seqE_sq {α β : Type} (f : α → List β × Int) : ∀ (l : List α) (acc : List β), seqE f l acc = if (sq f l).2 ≠ 0 then ([], (sq f l).2) else (acc ++ (sq f l).1, 0)
 | [], acc => by simp [seqE, sq]
 | x :: r, acc => by
  rw [seqE, sq]
  split
  ·rename_i h; simp [h]
  ·rw [seqE_sq f r]; split
   ·rename_i h; simp [h]
   ·simp
theorem sq_nil_of {α β : Type} {f : α → List β × Int} : ∀ {l : List α}, (sq f l).2 ≠ 0 → (sq f l).1 = []
 | [], h => by simp [sq] at h
 | x :: r, h => by
  rw [sq] at h ⊢
  split
  ·rfl
  ·split
   ·rfl
   ·rename_i h1 h2; simp [h1, h2] at h
theorem seqE_eq {α β : Type} (f : α → List β × Int) (l : List α) : seqE f l [] = sq f l := by
 rw [seqE_sq]
 split
 ·rename_i h; have := sq_nil_of h; exact Prod.ext this.symm rfl
 ·rename_i h; simp only [ne_eq, Decidable.not_not] at h; exact Prod.ext (by simp) h.symm
theorem sq_congr {α β : Type} {f g : α → List β × Int} : ∀ {l : List α}, (∀ x ∈ l, f x = g x) → sq f l = sq g l
 | [], _ => rfl
 | x :: r, h => by rw [sq, sq, h x (by simp), sq_congr (fun y hy => h y (by simp [hy]))]
theorem inlW_congr {w : List ByteArray} {r r' : List DInline → List DInline × Int} {x : DInline} (h : r x.fKids = r' x.fKids) : inlW w r x = inlW w r' x := by unfold inlW; rw [h]
theorem linPN_eq : ∀ (n m : Nat) (w : List ByteArray) (l : List DInline), wl wInline l < n → wl wInline l < m → linPN n w l = linPN m w l
 | 0, m, w, l, h, _ => by omega
 | n + 1, 0, w, l, _, h => by omega
 | n + 1, m + 1, w, l, h, k => by
  rw [linPN, linPN, linPS_eq, linPS_eq, seqE_eq, seqE_eq]
  refine sq_congr (fun x hx => inlW_congr ?_)
  have h1 := wl_mem (w := wInline) hx
  have h2 := wInline_eq x
  exact linPN_eq n m w x.fKids (by omega) (by omega)
theorem linP_eq (w : List ByteArray) (l : List DInline) : linP w l = sq (inlW w (linP w)) l := by
 rw [linP, linPN, linPS_eq, seqE_eq]
 refine sq_congr (fun x hx => inlW_congr ?_)
 have h1 := wl_mem (w := wInline) hx
 have h2 := wInline_eq x
 exact linPN_eq _ _ w x.fKids (by omega) (by omega)
theorem blkW_congr {w : List ByteArray} {r r' : List DBlock → List DBlock × Int} {x : DBlock} (h : r x.fKids = r' x.fKids) : blkW w r x = blkW w r' x := by unfold blkW chsW; rw [h]
theorem blkPN_eq : ∀ (n m : Nat) (w : List ByteArray) (l : List DBlock), wl wBlock l < n → wl wBlock l < m → blkPN n w l = blkPN m w l
 | 0, m, w, l, h, _ => by omega
 | n + 1, 0, w, l, _, h => by omega
 | n + 1, m + 1, w, l, h, k => by
  rw [blkPN, blkPN, blkPS_eq, blkPS_eq, seqE_eq, seqE_eq]
  refine sq_congr (fun x hx => blkW_congr ?_)
  have h1 := wl_mem (w := wBlock) hx
  have h2 := wBlock_eq x
  exact blkPN_eq n m w x.fKids (by omega) (by omega)
theorem blkP_eq (w : List ByteArray) (l : List DBlock) : blkP w l = sq (blkW w (blkP w)) l := by
 rw [blkP, blkPN, blkPS_eq, seqE_eq]
 refine sq_congr (fun x hx => blkW_congr ?_)
 have h1 := wl_mem (w := wBlock) hx
 have h2 := wBlock_eq x
 exact blkPN_eq _ _ w x.fKids (by omega) (by omega)
theorem tdyLN_eq : ∀ (n m : Nat) (l : List DInline), wl wInline l < n → wl wInline l < m → tdyLN n l = tdyLN m l
 | 0, m, l, h, _ => by omega
 | n + 1, 0, l, _, h => by omega
 | n + 1, m + 1, l, h, k => by
  rw [tdyLN, tdyLN, tdyLS_eq, tdyLS_eq]
  congr 2
  refine flat_eq (fun x hx => ?_)
  have h1 := wl_mem (w := wInline) hx
  have h2 := wInline_eq x
  rw [tdyLN_eq n m x.fKids (by omega) (by omega)]
def td1 (l : List DInline) : List DInline := l.flatMap (fun x => tdk (tdyL x.fKids) x)
theorem tdyL_eq (l : List DInline) : tdyL l = sg false (mg (flt (td1 l))) := by
 rw [tdyL, tdyLN, tdyLS_eq, sngL_eq, mrgL_eq, td1]
 congr 3
 refine flat_eq (fun x hx => ?_)
 have h1 := wl_mem (w := wInline) hx
 have h2 := wInline_eq x
 rw [tdyL, tdyLN_eq _ (wl wInline x.fKids + 1) x.fKids (by omega) (by omega)]
def condI (x : DInline) : Bool := decide (x.fKind = 11) && (getP x.fAttr whenA).2
end Go.Proofs.YtdaglbjgdakmcaaGreat
namespace Go.Proofs.YtdaglbjgdakmcaaGreat
open Go Go.Eng
theorem linP_clean (w : List ByteArray) : ∀ l : List DInline, ∀ y ∈ dpI (linP w l).1, condI y = false := by
 refine inl_ind (fun y hy => ?_) (fun x l hx hl y hy => ?_)
 ·rw [linP_eq] at hy; simp [sq, dpI_nil] at hy
 ·rw [linP_eq, sq] at hy
  rw [linP_eq] at hl
  split at hy
  ·simp [dpI_nil] at hy
  ·split at hy
   ·simp [dpI_nil] at hy
   ·rw [dpI_app, List.mem_append] at hy
    rcases hy with hy | hy
    ·unfold inlW at hy
     split at hy
     ·split at hy
      ·simp [dpI_nil] at hy
      ·split at hy
       ·split at hy
        ·simp [dpI_nil] at hy
        ·exact hx y hy
       ·simp [dpI_nil] at hy
     ·rename_i hc
      split at hy
      ·simp [dpI_nil] at hy
      ·rw [dpI_cons] at hy
       simp only [List.mem_cons, dpI_nil, List.append_nil, setKids] at hy
       rcases hy with rfl | hy
       ·simp only [condI]
        cases hq : (getP x.fAttr whenA).2 with
        | false => simp
        | true =>
         have : x.fKind ≠ 11 := fun h => hc ⟨h, hq⟩
         simp [this]
       ·exact hx y hy
    ·exact hl y hy
def Sub (a b : List DInline) : Prop := ∀ y ∈ dpI a, ∃ z ∈ dpI b, y.fKind = z.fKind ∧ y.fAttr = z.fAttr
theorem Sub.refl (a : List DInline) : Sub a a := fun y hy => ⟨y, hy, rfl, rfl⟩
theorem Sub.trans {a b c : List DInline} (h : Sub a b) (k : Sub b c) : Sub a c := fun y hy => by
 obtain ⟨z, hz, e1, e2⟩ := h y hy
 obtain ⟨u, hu, e3, e4⟩ := k z hz
 exact ⟨u, hu, e1.trans e3, e2.trans e4⟩
theorem Sub.cons {x y : DInline} {a b : List DInline} (h1 : x.fKind = y.fKind) (h2 : x.fAttr = y.fAttr) (hk : Sub x.fKids y.fKids) (h : Sub a b) : Sub (x :: a) (y :: b) := fun u hu => by
 rw [dpI_cons] at hu ⊢
 simp only [List.mem_cons, List.mem_append] at hu
 rcases hu with rfl | hu | hu
 ·exact ⟨y, by simp, h1, h2⟩
 ·obtain ⟨z, hz, e⟩ := hk u hu; exact ⟨z, by simp [hz], e⟩
 ·obtain ⟨z, hz, e⟩ := h u hu; exact ⟨z, by simp [hz], e⟩
theorem Sub.more {a b : List DInline} (y : DInline) (h : Sub a b) : Sub a (y :: b) := fun u hu => by
 obtain ⟨z, hz, e⟩ := h u hu; exact ⟨z, by rw [dpI_cons]; simp [hz], e⟩
theorem Sub_mga : ∀ (r : List DInline) (x : DInline), Sub (mga x r) (x :: r)
 | [], x => by rw [mga]; exact Sub.refl _
 | y :: r, x => by
  rw [mga]; split
  ·refine (Sub_mga r _).trans (Sub.cons rfl rfl (Sub.refl _) (Sub.more y (Sub.refl _)))
  ·exact Sub.cons rfl rfl (Sub.refl _) (Sub_mga r y)
theorem Sub_mg : ∀ l : List DInline, Sub (mg l) l
 | [] => Sub.refl _
 | x :: r => Sub_mga r x
theorem flt_sub {l : List DInline} {x : DInline} (h : x ∈ flt l) : x ∈ l := (List.mem_filter.1 h).1
def adjK : Int → List DInline → Prop
 | _, [] => True
 | k, y :: r => ¬ (k = 1 ∧ y.fKind = 1) ∧ adjK y.fKind r
theorem adjK_mono {k k' : Int} (hk : k ≠ 1) : ∀ {l : List DInline}, adjK k' l → adjK k l
 | [], _ => trivial
 | y :: r, h => ⟨fun q => hk q.1, h.2⟩
def brkOk : Bool → List DInline → Prop
 | _, [] => True
 | a, x :: r => (x.fKind = 2 → a = false) ∧ brkOk (brk2 x.fKind) r
structure N1 (l : List DInline) : Prop where
 emp : ∀ x ∈ l, emk x.fKind = true → x.fKids ≠ []
 txt : ∀ x ∈ l, fltq x = true
 adj : adjK 0 l
 brk : brkOk false l
theorem mga_of_adj : ∀ {r : List DInline} {x : DInline}, adjK x.fKind r → mga x r = x :: r
 | [], x, _ => rfl
 | y :: r, x, h => by rw [mga, if_neg h.1, mga_of_adj h.2]
theorem mg_of_adj : ∀ {l : List DInline}, adjK 0 l → mg l = l
 | [], _ => rfl
 | x :: r, h => mga_of_adj h.2
theorem brk2_ne1 {k : Int} (h : brk2 k = true) : k ≠ 1 := by rintro rfl; exact absurd h (by decide)
theorem adjK_sg : ∀ (l : List DInline) (a : Bool) (k : Int), adjK k l → (a = true → k ≠ 1) → adjK k (sg a l)
 | [], a, k, _, _ => trivial
 | y :: r, a, k, h, ha => by
  rw [sg]
  split
  ·exact ⟨h.1, adjK_sg r _ _ h.2 brk2_ne1⟩
  ·rename_i hc
   have hat : a = true := by
    cases a
    ·cases (y.fKind != 2) <;> simp at hc
    ·rfl
   exact adjK_sg r _ _ (adjK_mono (ha hat) h.2) (fun _ => ha hat)
theorem brkOk_sg : ∀ (l : List DInline) (a : Bool), brkOk a (sg a l)
 | [], a => trivial
 | y :: r, a => by
  rw [sg]
  split
  ·rename_i hc
   refine ⟨fun h2 => ?_, brkOk_sg r _⟩
   rw [h2] at hc; cases a <;> simp_all
  ·rename_i hc
   have h2 : y.fKind = 2 ∧ a = true := by
    by_cases h2 : y.fKind = 2
    ·exact ⟨h2, by rw [h2] at hc; cases a <;> simp_all⟩
    ·rw [bne_iff_ne.2 h2] at hc; exact absurd rfl hc
   rw [h2.1, h2.2]; exact brkOk_sg r true
theorem adjK_mga : ∀ (r : List DInline) (x : DInline) (k : Int), ¬ (k = 1 ∧ x.fKind = 1) → adjK k (mga x r)
 | [], x, k, h => ⟨h, trivial⟩
 | y :: r, x, k, h => by
  rw [mga]; split
  ·exact adjK_mga r _ k h
  ·rename_i hc; exact ⟨h, adjK_mga r y _ hc⟩
theorem adjK_mg : ∀ (l : List DInline), adjK 0 (mg l)
 | [] => trivial
 | x :: r => adjK_mga r x 0 (by simp)
theorem mga_mem : ∀ (r : List DInline) (x z : DInline), z ∈ mga x r → ∃ u ∈ x :: r, z.fKind = u.fKind ∧ z.fKids = u.fKids
 | [], x, z, h => by simp only [mga, List.mem_singleton] at h; subst h; exact ⟨z, by simp, rfl, rfl⟩
 | y :: r, x, z, h => by
  rw [mga] at h; split at h
  ·obtain ⟨u, hu, e1, e2⟩ := mga_mem r _ z h
   simp only [List.mem_cons] at hu
   rcases hu with rfl | hu
   ·exact ⟨x, by simp, e1, e2⟩
   ·exact ⟨u, by simp [hu], e1, e2⟩
  ·simp only [List.mem_cons] at h
   rcases h with rfl | h
   ·exact ⟨z, by simp, rfl, rfl⟩
   ·obtain ⟨u, hu, e⟩ := mga_mem r y z h; exact ⟨u, by simp only [List.mem_cons] at hu ⊢; exact .inr hu, e⟩
theorem mg_mem {l : List DInline} {z : DInline} (h : z ∈ mg l) : ∃ u ∈ l, z.fKind = u.fKind ∧ z.fKids = u.fKids := by
 cases l with
 | nil => exact absurd h (by simp [mg])
 | cons x r => exact mga_mem r x z h
theorem fltq_size {x : DInline} : fltq x = true ↔ (x.fKind = 1 → 0 < x.fText.size) := by
 unfold fltq
 by_cases h : x.fKind = 1
 ·simp only [h, bne_self_eq_false, cond_false, forall_const]
  exact ⟨size_neqs_t, fun q => by cases hq : eqs x.fText ⟨#[]⟩ with | false => rfl | true => have := size_eqs_t hq; omega⟩
 ·simp [h, bne_iff_ne.2 h]
theorem fltq_mga : ∀ (r : List DInline) (x : DInline), (∀ u ∈ x :: r, fltq u = true) → ∀ z ∈ mga x r, fltq z = true
 | [], x, h, z, hz => h z (by simpa [mga] using hz)
 | y :: r, x, h, z, hz => by
  rw [mga] at hz; split at hz
  ·rename_i hc
   refine fltq_mga r _ (fun u hu => ?_) z hz
   simp only [List.mem_cons] at hu
   rcases hu with rfl | hu
   ·rw [fltq_size]; intro _
    have := fltq_size.1 (h x (by simp)) hc.1
    show 0 < (x.fText ++ y.fText).size
    rw [ByteArray.size_append]; omega
   ·exact h u (by simp [hu])
  ·simp only [List.mem_cons] at hz
   rcases hz with rfl | hz
   ·exact h _ (by simp)
   ·exact fltq_mga r y (fun u hu => h u (by simp only [List.mem_cons] at hu ⊢; exact .inr hu)) z hz
theorem fltq_mg {l : List DInline} (h : ∀ u ∈ l, fltq u = true) : ∀ z ∈ mg l, fltq z = true := by
 cases l with
 | nil => intro z hz; exact absurd hz (by simp [mg])
 | cons x r => exact fltq_mga r x h
theorem td1_mem {l : List DInline} {z : DInline} (h : z ∈ td1 l) : ∃ x ∈ l, z = setKids x (tdyL x.fKids) ∧ (emk z.fKind = true → z.fKids ≠ []) := by
 rw [td1, List.mem_flatMap] at h
 obtain ⟨x, hx, hz⟩ := h
 rw [tdk] at hz
 split at hz
 ·simp at hz
 ·rename_i hc
  simp only [List.mem_singleton] at hz
  subst hz
  exact ⟨x, hx, rfl, fun q e => hc ⟨q, e⟩⟩
theorem tdy_mem {l : List DInline} {z : DInline} (h : z ∈ tdyL l) : ∃ x ∈ l, z.fKind = x.fKind ∧ z.fKids = tdyL x.fKids ∧ (emk z.fKind = true → z.fKids ≠ []) := by
 rw [tdyL_eq] at h
 obtain ⟨u, hu, e1, e2⟩ := mg_mem (sg_sub _ _ _ h)
 obtain ⟨x, hx, rfl, e4⟩ := td1_mem (flt_sub hu)
 exact ⟨x, hx, e1, e2, fun q => by rw [e2]; rw [e1] at q; exact e4 q⟩
theorem N1_tdy (l : List DInline) : N1 (tdyL l) := by
 refine ⟨fun x hx => ?_, fun x hx => ?_, ?_, ?_⟩
 ·obtain ⟨_, _, _, _, h⟩ := tdy_mem hx; exact h
 ·rw [tdyL_eq] at hx
  exact fltq_mg (fun u hu => (List.mem_filter.1 hu).2) x (sg_sub _ _ _ hx)
 ·rw [tdyL_eq]; exact adjK_sg _ _ _ (adjK_mg _) (fun h => by cases h)
 ·rw [tdyL_eq]; exact brkOk_sg _ _
end Go.Proofs.YtdaglbjgdakmcaaGreat
namespace Go.Proofs.YtdaglbjgdakmcaaGreat
open Go Go.Eng
theorem foldr_any {α : Type} (p : α → Bool) (z : Bool) : ∀ l : List α, l.foldr (fun x r => cond (p x) true r) z = (l.any p || z)
 | [] => rfl
 | x :: l => by rw [List.foldr_cons, foldr_any p z l, List.any_cons]; cases p x <;> simp
def lsq (rec : List DInline → Int → Int) (depth : Int) : Bool → Int → List DInline → Int
  | _, _, [] => 0
  | f, before, x :: r => if depth > 15 then 11 else
      if oneE x before (cond (depth == 0) f false) (cond (depth == 0) r.isEmpty false) ≠ 0 then oneE x before (cond (depth == 0) f false) (cond (depth == 0) r.isEmpty false)
      else if rec x.fKids (depth + 1) ≠ 0 then rec x.fKids (depth + 1) else lsq rec depth false x.fKind r
end Go.Proofs.YtdaglbjgdakmcaaGreat
namespace Go.Proofs.YtdaglbjgdakmcaaGreat
open Go Go.Eng
theorem beqT {a b : Int} (h : a = b) : (a == b) = true := beq_iff_eq.2 h
theorem beqF {a b : Int} (h : a ≠ b) : (a == b) = false := beq_eq_false_iff_ne.2 h
structure One0 (x : DInline) (before : Int) (f g : Bool) : Prop where
 fld : inlF x = true
 txt : x.fKind = 1 → 0 < x.fText.size ∧ before ≠ 1
 soft : x.fKind = 2 → brk2 before = false ∧ f = false ∧ g = false
 hard : x.fKind = 3 → g = false
 emp : emk x.fKind = true → x.fKids ≠ []
theorem emk_eq (k : Int) : emk k = cond (k == 6) true (cond (k == 7) true (k == 8)) := by unfold emk; cases (k == 6) <;> cases (k == 7) <;> rfl
theorem emk_iff (k : Int) : emk k = true ↔ k = 6 ∨ k = 7 ∨ k = 8 := by
 rw [emk_eq]
 by_cases h6 : k = 6
 ·simp [h6]
 ·by_cases h7 : k = 7
  ·simp [h7]
  ·simp [beqF h6, beqF h7, h6, h7]
theorem oneE_zero {x : DInline} {before : Int} {f g : Bool} (h : oneE x before f g = 0) : One0 x before f g := by
 unfold oneE at h
 cases hi : inlF x with
 | false => rw [hi] at h; exact absurd (show (5 : Int) = 0 from h) (by decide)
 | true =>
  rw [hi] at h
  simp only [Bool.not_true, cond_false] at h
  refine ⟨hi, fun hk => ?_, fun hk => ?_, fun hk => ?_, fun hk => ?_⟩
  ·rw [hk] at h
   simp only [show ((1 : Int) == 1) = true from rfl, cond_true, show ((1 : Int) != 5) = true from rfl] at h
   cases he : eqs x.fText ⟨#[]⟩ with
   | true => rw [he] at h; exact absurd (show (17 : Int) = 0 from h) (by decide)
   | false =>
    rw [he] at h
    refine ⟨size_eqs_f he, fun hb => ?_⟩
    rw [hb] at h
    cases hlb : lineB x.fText <;> rw [hlb] at h
    ·exact absurd (show (17 : Int) = 0 from h) (by decide)
    ·exact absurd (show (5 : Int) = 0 from h) (by decide)
  ·rw [hk] at h
   cases f <;> cases g <;> by_cases hb2 : before = 2 <;> by_cases hb3 : before = 3 <;> simp [hb2, hb3, beqF, brk2] at h ⊢
  ·rw [hk] at h
   cases g
   ·rfl
   ·exact absurd (show (5 : Int) = 0 from h) (by decide)
  ·rcases (emk_iff _).1 hk with hk | hk | hk <;> rw [hk] at h <;> intro hn <;> rw [hn] at h <;> exact absurd (show (8 : Int) = 0 from h) (by decide)
structure L0 (rec : List DInline → Int → Int) (depth : Int) (before : Int) (l : List DInline) : Prop where
 emp : ∀ x ∈ l, emk x.fKind = true → x.fKids ≠ []
 txt : ∀ x ∈ l, fltq x = true
 adj : adjK before l
 brk : brkOk (brk2 before) l
 kids : ∀ x ∈ l, rec x.fKids (depth + 1) = 0
theorem lsq_zero {rec : List DInline → Int → Int} {depth : Int} : ∀ {l : List DInline} {f : Bool} {before : Int}, lsq rec depth f before l = 0 → L0 rec depth before l
 | [], f, before, _ => ⟨by simp, by simp, trivial, trivial, by simp⟩
 | x :: r, f, before, h => by
  rw [lsq] at h
  split at h
  ·simp at h
  ·split at h
   ·rename_i h1; exact absurd h h1
   ·split at h
    ·rename_i h1; exact absurd h h1
    ·rename_i hd ho hr
     have o := oneE_zero (Decidable.not_not.1 ho)
     have t := lsq_zero h
     refine ⟨?_, ?_, ?_, ?_, ?_⟩
     ·intro y hy; simp only [List.mem_cons] at hy
      rcases hy with rfl | hy
      ·exact o.emp
      ·exact t.emp y hy
     ·intro y hy; simp only [List.mem_cons] at hy
      rcases hy with rfl | hy
      ·exact fltq_size.2 (fun hk => (o.txt hk).1)
      ·exact t.txt y hy
     ·exact ⟨fun q => (o.txt q.2).2 q.1, t.adj⟩
     ·exact ⟨fun q => (o.soft q).1, t.brk⟩
     ·intro y hy; simp only [List.mem_cons] at hy
      rcases hy with rfl | hy
      ·exact Decidable.not_not.1 hr
      ·exact t.kids y hy
def bsq (rec : List DBlock → Int → Int → Int) (inn depth : Int) : List DBlock → Int
  | [] => 0
  | b :: r => if depth > 15 then 11 else if blkF b = false ∨ placeB b.fKind inn = false then 5 else if itsE b ≠ 0 then itsE b
      else if rec b.fKids b.fKind (depth + 1) ≠ 0 then rec b.fKids b.fKind (depth + 1) else bsq rec inn depth r
theorem blsES_eq (rec : List DBlock → Int → Int → Int) (l : List DBlock) (inn depth : Int) : blsES rec l inn depth = bsq rec inn depth l := by
 have h := loop_fold aBlock l (fun b r => if depth > 15 then 11 else if blkF b = false ∨ placeB b.fKind inn = false then 5 else if itsE b ≠ 0 then itsE b
   else if rec b.fKids b.fKind (depth + 1) ≠ 0 then rec b.fKids b.fKind (depth + 1) else r) 0 (blsES_L0 rec l inn depth) (fun n i => by
  rw [blsES_L0]
  congr 1
  by_cases hd : depth > 15
  ·rw [dT hd, if_pos hd]; rfl
  ·rw [dF hd, if_neg hd, cond_false]
   cases blkF (el l i) <;> cases placeB (el l i).fKind inn <;> simp only [Bool.not_true, Bool.not_false, cond_true, cond_false, true_or, or_true, if_true, Bool.true_eq_false, Bool.false_eq_true, or_self, if_false]
   by_cases ho : itsE (el l i) = 0
   ·by_cases hr : rec (el l i).fKids (el l i).fKind (depth + 1) = 0
    ·simp [ho, hr]
    ·simp [ho, hr, bne_iff_ne.2 hr]
   ·simp [ho, bne_iff_ne.2 ho])
 rw [blsES, h _ _ (by omega), List.drop_zero]
 clear h
 induction l with
 | nil => rfl
 | cons b l ih => rw [List.foldr_cons, ih, bsq]
theorem bsq_congr {r r' : List DBlock → Int → Int → Int} {inn depth : Int} : ∀ {l : List DBlock}, (∀ x ∈ l, r x.fKids x.fKind (depth + 1) = r' x.fKids x.fKind (depth + 1)) → bsq r inn depth l = bsq r' inn depth l
 | [], _ => rfl
 | x :: l, h => by rw [bsq, bsq, h x (by simp), bsq_congr (fun y hy => h y (by simp [hy]))]
theorem blsEN_eq : ∀ (n m : Nat) (l : List DBlock) (inn depth : Int), wl wBlock l < n → wl wBlock l < m → blsEN n l inn depth = blsEN m l inn depth
 | 0, m, l, i, d, h, _ => by omega
 | n + 1, 0, l, i, d, _, h => by omega
 | n + 1, m + 1, l, i, d, h, k => by
  rw [blsEN, blsEN, blsES_eq, blsES_eq]
  refine bsq_congr (fun x hx => ?_)
  have h1 := wl_mem (w := wBlock) hx
  have h2 := wBlock_eq x
  exact blsEN_eq n m x.fKids _ _ (by omega) (by omega)
theorem blsE_eq (l : List DBlock) (inn depth : Int) : blsE l inn depth = bsq blsE inn depth l := by
 rw [blsE, blsEN, blsES_eq]
 refine bsq_congr (fun x hx => ?_)
 have h1 := wl_mem (w := wBlock) hx
 have h2 := wBlock_eq x
 exact blsEN_eq _ _ x.fKids _ _ (by omega) (by omega)
theorem bsq_zero {rec : List DBlock → Int → Int → Int} {inn depth : Int} : ∀ {l : List DBlock}, bsq rec inn depth l = 0 → ∀ b ∈ l, depth ≤ 15 ∧ blkF b = true ∧ placeB b.fKind inn = true ∧ itsE b = 0 ∧ rec b.fKids b.fKind (depth + 1) = 0
 | [], _, b, hb => by simp at hb
 | x :: r, h, b, hb => by
  rw [bsq] at h
  split at h
  ·simp at h
  ·split at h
   ·simp at h
   ·split at h
    ·rename_i q; exact absurd h q
    ·split at h
     ·rename_i q; exact absurd h q
     ·rename_i h1 h2 h3 h4
      simp only [List.mem_cons] at hb
      rcases hb with rfl | hb
      ·simp only [not_or, Bool.not_eq_false] at h2
       exact ⟨by omega, h2.1, h2.2, Decidable.not_not.1 h3, Decidable.not_not.1 h4⟩
      ·exact bsq_zero h b hb
theorem blsE_zero : ∀ (l : List DBlock) (inn depth : Int), blsE l inn depth = 0 → ∀ b ∈ lsB l, blkF b = true ∧ itsE b = 0 := by
 refine blk_all (P := fun l => ∀ inn depth : Int, blsE l inn depth = 0 → ∀ b ∈ lsB l, blkF b = true ∧ itsE b = 0) (fun l hl inn depth h b hb => ?_)
 rw [blsE_eq] at h
 obtain ⟨x, hx, hb⟩ := mem_lsB.1 hb
 obtain ⟨_, h1, _, h2, h3⟩ := bsq_zero h x hx
 rcases hb with rfl | hb
 ·exact ⟨h1, h2⟩
 ·exact hl x hx _ _ h3 b hb
theorem inL_eq (k : Int) (l : List Int) : inL k l = l.any (fun x => x == k) := by
 have h := loop_fold vI l (fun x r => cond ((x : Int) == k) true r) false (inL_L0 k l) (fun n i => by rw [inL_L0])
 rw [inL, h _ _ (by omega), foldr_any]; simp
theorem blkF_line {b : DBlock} (h : blkF b = true) : inL b.fKind [1, 2, 12] = true ∨ b.fLine = [] := by
 unfold blkF at h
 have h1 := (cond_ff (cond_ff h).1).2
 cases hk : inL b.fKind [1, 2, 12] with
 | true => exact .inl rfl
 | false =>
  rw [hk, cond_false] at h1
  have := eq_of_beq h1
  have hl := lenM_eq aInline b.fLine
  exact .inr (List.eq_nil_of_length_eq_zero (by omega))
theorem chkD_L1_zero {d : DDoc} {v3 : Nat} {k0 : Nat → Int} : ∀ {n w5 : Nat}, v3 - w5 < n → chkD_L1 d v3 k0 n w5 = 0 → k0 (v3 + 1) = 0
 | 0, w5, h, _ => by omega
 | n + 1, w5, h, e => by
  rw [chkD_L1] at e
  by_cases hi : w5 < v3
  ·rw [dT (by omega), cond_true, condE] at e
   split at e
   ·exact absurd e (by decide)
   ·exact chkD_L1_zero (by omega) e
  ·rw [dF (by omega)] at e; exact e
theorem chkD_L0_zero {d : DDoc} : ∀ {n v3 : Nat}, d.fMeta.length - v3 < n → chkD_L0 d n v3 = 0 → blksE d.fBlocks = 0
 | 0, v3, h, _ => by omega
 | n + 1, v3, h, e => by
  have hl := lenM_eq aPair d.fMeta
  rw [chkD_L0] at e
  by_cases hi : v3 < d.fMeta.length
  ·rw [dT (by omega), cond_true, condE] at e
   split at e
   ·exact absurd e (by decide)
   ·rw [condE] at e; split at e
    ·exact absurd e (by decide)
    ·exact chkD_L0_zero (by omega) (chkD_L1_zero (by omega) e)
  ·rw [dF (by omega)] at e; exact e
theorem chkD_zero {d : DDoc} (h : chkD d = 0) : blsE d.fBlocks 0 0 = 0 := by
 unfold chkD at h
 rw [condE] at h
 split at h
 ·exact absurd h (by decide)
 ·exact chkD_L0_zero (by omega) h
end Go.Proofs.YtdaglbjgdakmcaaGreat
namespace Go.Proofs.YtdaglbjgdakmcaaGreat
open Go Go.Eng
theorem loop_true {α : Type} [Inhabited α] (f : α → AV) (l : List α) (F : Nat → Nat → Bool) (hF : ∀ n i, i < l.length → F (n + 1) i = cond (decide (((i : Nat) : Int) < ((lenM f l : Nat) : Int))) (F n (i + 1)) true)
  (hz : ∀ n i, ¬ i < l.length → F (n + 1) i = true) : ∀ (n i : Nat), l.length - i < n → F n i = true
 | 0, i, h => by omega
 | n + 1, i, h => by
  have hl := lenM_eq f l
  by_cases hi : i < l.length
  ·rw [hF n i hi, dT (by omega), cond_true, loop_true f l F hF hz n _ (by omega)]
  ·exact hz n i hi
theorem bne_self (a : Int) : (a != a) = false := by simp
theorem textsB_self (a : List ByteArray) : textsB a a = true := by
 unfold textsB
 rw [bne_self, cond_false]
 refine loop_true strAV a (textsB_L0 a a) (fun n i hi => ?_) (fun n i hi => ?_) _ _ (by omega)
 ·rw [textsB_L0, eqs_self]; rfl
 ·have hl := lenM_eq strAV a
  rw [textsB_L0, dF (by omega)]; rfl
theorem pairsB_self (a : List DPair) : pairsB a a = true := by
 unfold pairsB
 rw [bne_self, cond_false]
 refine loop_true aPair a (pairsB_L0 a a) (fun n i hi => ?_) (fun n i hi => ?_) _ _ (by omega)
 ·rw [pairsB_L0, eqs_self, eqs_self]; rfl
 ·have hl := lenM_eq aPair a
  rw [pairsB_L0, dF (by omega)]; rfl
theorem atsB_self (a : DAttr) : atsB a a = true := by unfold atsB; rw [eqs_self, textsB_self, pairsB_self]; rfl
theorem samLS_self (rec : List DInline → List DInline → Bool) (a : List DInline) (hr : ∀ x ∈ a, rec x.fKids x.fKids = true) : samLS rec a a = true := by
 unfold samLS
 rw [bne_self, cond_false]
 have hin : ∀ (v5 : Nat) (k0 : Nat → Bool) (n w : Nat), (el a v5).fCites.length - w < n → samLS_L1 rec a a v5 k0 n w = k0 (v5 + 1) := by
  intro v5 k0 n
  induction n with
  | zero => intro w h; omega
  | succ n ih =>
   intro w h
   have hl := lenM_eq aCited (el a v5).fCites
   rw [samLS_L1]
   by_cases hi : w < (el a v5).fCites.length
   ·rw [dT (by omega), cond_true, eqs_self, eqs_self, eqs_self, beq_self_eq_true, ih _ (by omega)]; rfl
   ·rw [dF (by omega)]; rfl
 refine loop_true aInline a (samLS_L0 rec a a) (fun n i hi => ?_) (fun n i hi => ?_) _ _ (by omega)
 ·rw [samLS_L0, bne_self, eqs_self, eqs_self, eqs_self, atsB_self, textsB_self, bne_self, hr _ (el_mem hi), hin _ _ _ _ (by omega)]; rfl
 ·have hl := lenM_eq aInline a
  rw [samLS_L0, dF (by omega)]; rfl
theorem samLN_self : ∀ (n : Nat) (a : List DInline), wl wInline a < n → samLN n a a = true
 | 0, a, h => by omega
 | n + 1, a, h => by
  rw [samLN]
  refine samLS_self _ a (fun x hx => ?_)
  have h1 := wl_mem (w := wInline) hx
  have h2 := wInline_eq x
  exact samLN_self n x.fKids (by omega)
theorem samL_self (a : List DInline) : samL a a = true := samLN_self _ a (by omega)
theorem samBS_self (rec : List DBlock → List DBlock → Bool) (a : List DBlock) (hr : ∀ x ∈ a, rec x.fKids x.fKids = true) : samBS rec a a = true := by
 unfold samBS
 rw [bne_self, cond_false]
 refine loop_true aBlock a (samBS_L0 rec a a) (fun n i hi => ?_) (fun n i hi => ?_) _ _ (by omega)
 ·rw [samBS_L0, bne_self, bne_self, eqs_self, eqs_self, eqs_self, eqs_self, atsB_self, samL_self, hr _ (el_mem hi)]; rfl
 ·have hl := lenM_eq aBlock a
  rw [samBS_L0, dF (by omega)]; rfl
theorem samBN_self : ∀ (n : Nat) (a : List DBlock), wl wBlock a < n → samBN n a a = true
 | 0, a, h => by omega
 | n + 1, a, h => by
  rw [samBN]
  refine samBS_self _ a (fun x hx => ?_)
  have h1 := wl_mem (w := wBlock) hx
  have h2 := wBlock_eq x
  exact samBN_self n x.fKids (by omega)
theorem samB_self (a : List DBlock) : samB a a = true := samBN_self _ a (by omega)
theorem samD_self (d : DDoc) : samD d d = true := by unfold samD; rw [pairsB_self, samB_self]; rfl
end Go.Proofs.YtdaglbjgdakmcaaGreat
namespace Go.Proofs.YtdaglbjgdakmcaaGreat
open Go Go.Eng
theorem rapD_bd (d : DDoc) (flags : List ByteArray) (hd : wDoc d ≤ 536870912) (hf : flags.length ≤ 1000000) : wDoc (rapD d flags).1 ≤ wDoc d := by
 have h0 := wDoc_eq d
 have h1 := rblP_bd d.fBlocks flags (by omega) hf
 unfold rapD
 refine condP (fun r : DDoc × Int => wDoc r.1 ≤ wDoc d) (fun _ => ?_) (fun _ => ?_)
 ·show wDoc (DDoc.mk [] []) ≤ _; simp [wDoc_eq, wl]; omega
 ·show wDoc (DDoc.mk d.fMeta (rblP d.fBlocks flags).1) ≤ _; simp only [wDoc_eq]; omega
def capM (d : DDoc) (flags : List ByteArray) : Bool := cond (cond (cond (!smlD d) true (decide (((lenM strAV flags : Nat) : Int) > 40))) true ((chkD d : Int) != 0)) true (cond (cond (samD ((aplD d flags).1) ((rapD d flags).1)) (((aplD d flags).2 : Int) == (rapD d flags).2) false) true false)
theorem capM_to (d : DDoc) (flags : List ByteArray) (hd : wDoc d ≤ 536870912) (hf : flags.length ≤ 1073741824) : CallTo Tryz.prog 3 [(.av (cDoc d)), (jL (flags.map strAV))] [] [] (jB (capM d flags)) [] [] := by
 have hwd := wDoc_eq d
 have hmp := wl_len (w := wPair) wPair_pos d.fMeta
 refine BEG (fun r : Bool => (jB r)) (capM d flags) Tryz.func3 (by kernel_rfl) ?_
 refine UF (capM.eq_1 ..) ?_
 refine GO (tn 3 (kc (smlD_to d (by omega)) (tn 2 (kj (!smlD d) z (tn 3 z) (tn 1 (kj (cond (!smlD d) true (decide (((lenM strAV flags : Nat) : Int) > 40))) z (tn 1 (hc (fun h => by have j0 := h.2; have := lenM_eq strAV flags; obtain ⟨j0a, j0o⟩ := cond_tt j0; have j0an := notf j0a; have := lenM_eq strAV flags; have j0op := of_decide_eq_false j0o; exact (chkD_to d (by omega))) (tn 1 z))) z)))))) (by kernel_rfl) ?_
 refine CS (fun h1 => ?_) (fun h1 => ?_)
 ·have := lenM_eq strAV flags
  refine GO (kb h1 (kc awake_to (tn 1 z))) (by kernel_rfl) ?_
  exact EN (by kernel_rfl)
 ·have := lenM_eq strAV flags
  obtain ⟨h1a, h1o⟩ := cond_tt h1
  have := lenM_eq strAV flags
  obtain ⟨h1aa, h1ao⟩ := cond_tt h1a
  have h1aan := notf h1aa
  have := lenM_eq strAV flags
  have h1aop := of_decide_eq_false h1ao
  have h1op := eq_of_bne_false h1o
  have := aplD_bd d flags (by omega)
  have := rapD_bd d flags (by omega) (by omega)
  refine GO (kb h1 (tn 2 (kc (aplD_to d flags (by omega) (by omega)) (tn 8 (kc (rapD_to d flags (by omega) (by omega)) (tn 8 (kc (samD_to ((aplD d flags).1) ((rapD d flags).1) (by omega) (by omega)) (tn 1 (kj (samD ((aplD d flags).1) ((rapD d flags).1)) (tn 3 z) z (tn 1 (kj (cond (samD ((aplD d flags).1) ((rapD d flags).1)) (((aplD d flags).2 : Int) == (rapD d flags).2) false) (kc awake_to z) z (tn 1 z)))))))))))) (by kernel_rfl) ?_
  exact EN (by kernel_rfl)
end Go.Proofs.YtdaglbjgdakmcaaGreat
namespace Go.Proofs.YtdaglbjgdakmcaaGreat
open Go Go.Eng
mutual
def rc : Nd → Nd
  | .mk k nm kids => if k == 1 then .mk 6 ⟨#[]⟩ (gkids 6 (rcs kids)) else if k == 2 then .mk 5 ⟨#[]⟩ (gkids 5 (rcs kids)) else if k == 3 then .mk 4 ⟨#[]⟩ (rcs kids)
    else if k == 4 then .mk 2 ⟨#[]⟩ [] else if k == 5 then .mk 3 ⟨#[]⟩ [] else .mk 1 nm []
def rcs : List Nd → List Nd
 | [] => []
 | x :: l => rc x :: rcs l
end
theorem rcs_eq : ∀ l, rcs l = l.map rc
 | [] => by simp only [rcs, List.map_nil]
 | x :: l => by simp only [rcs, List.map_cons, rcs_eq l]
theorem rcs_app (l m : List Nd) : rcs (l ++ m) = rcs l ++ rcs m := by simp [rcs_eq]
theorem rcs_one (x : Nd) : rcs [x] = [rc x] := by simp [rcs_eq]
def Sim (l : Nat) (d : Int) (p : PR) (r : RR) : Prop := p.ok = r.ok ∧ (r.ok = true → p.pos = r.to ∧ p.deep = max d r.most ∧ (l : Int) ≤ r.most ∧ rc p.nd = r.nd)
theorem eqs_or {a b c : ByteArray} (h : eqs a b = true) (hne : eqs b c = false) : eqs a c = false := by
 rw [eqs_iff] at h; subst h; exact hne
theorem accB_iff {t : List ByteArray} {p : Nat} {x : ByteArray} (h : p < t.length) : accB t p x = eqs (nth t p) x := accB_in x h
theorem sim_one {rec cnd : Nat → Int → Nat → PR} {rec' lst : Nat → Nat → RR} {t : List ByteArray} (hr : ∀ p d l, p ≤ t.length → 0 ≤ d → Sim l d (rec p d l) (rec' p l)) (hc : ∀ p d l, p ≤ t.length → 0 ≤ d → Sim l d (cnd p d l) (lst p l)) (hf : ∀ p d l, p ≤ t.length → FairP t p (cnd p d l))
  (p : Nat) (d : Int) (l : Nat) : Sim l d (oneP rec cnd t p d l) (oneR rec' lst t p l) := by
 unfold oneP oneR
 by_cases hp : t.length ≤ p
 ·have hx : ∀ x, accB t p x = false := fun x => accB_out x (by omega)
  simp only [hx, Bool.false_eq_true, if_false, if_pos hp]
  exact ⟨rfl, fun h => by simp [rbad] at h⟩
 ·have hlt : p < t.length := by omega
  simp only [accB_iff hlt]
  cases h1 : eqs (nth t p) ⟨#[110, 111, 116]⟩ with
  | true =>
   have n1 : eqs (nth t p) ⟨#[111, 114]⟩ = false := eqs_or h1 (by decide)
   have n2 : eqs (nth t p) ⟨#[97, 110, 100]⟩ = false := eqs_or h1 (by decide)
   have n3 : eqs (nth t p) ⟨#[41]⟩ = false := eqs_or h1 (by decide)
   simp only [n1, n2, n3, hp, if_true, if_false, Bool.false_eq_true]
   obtain ⟨a, b⟩ := hr (p + 1) (max d (l : Int)) (l + 1) (by omega) (by omega)
   refine ⟨a, fun h => ?_⟩
   obtain ⟨b1, b2, b3, b4⟩ := b h
   refine ⟨b1, ?_, ?_, ?_⟩
   ·show (rec (p + 1) (max d (l : Int)) (l + 1)).deep = max d (rec' (p + 1) (l + 1)).most
    rw [b2]; omega
   ·show (l : Int) ≤ (rec' (p + 1) (l + 1)).most; omega
   ·simp only [rc, rcs]
    simp only [Int.reduceBEq, Bool.false_eq_true, if_false, if_true, b4]
  | false =>
   cases h2 : eqs (nth t p) ⟨#[40]⟩ with
   | true =>
    have n1 : eqs (nth t p) ⟨#[111, 114]⟩ = false := eqs_or h2 (by decide)
    have n2 : eqs (nth t p) ⟨#[97, 110, 100]⟩ = false := eqs_or h2 (by decide)
    have n3 : eqs (nth t p) ⟨#[41]⟩ = false := eqs_or h2 (by decide)
    simp only [n1, n2, n3, hp, if_true, if_false, Bool.false_eq_true]
    obtain ⟨a, b⟩ := hc (p + 1) (max d (l : Int)) (l + 1) (by omega) (by omega)
    obtain ⟨f1, f2, f3⟩ := hf (p + 1) (max d (l : Int)) (l + 1) (by omega)
    by_cases ho : (lst (p + 1) (l + 1)).ok = true
    ·rw [if_pos (by rw [a]; exact ho), if_neg (by rw [ho]; simp)]
     obtain ⟨b1, b2, b3, b4⟩ := b ho
     by_cases h3 : t.length ≤ (lst (p + 1) (l + 1)).to
     ·rw [if_pos h3]
      refine ⟨?_, fun h => by simp [rbad] at h⟩
      show accB t (cnd (p + 1) (max d (l : Int)) (l + 1)).pos ⟨#[41]⟩ = false
      rw [b1]; exact accB_out _ (by omega)
     ·rw [if_neg h3]
      have hq : accB t (cnd (p + 1) (max d (l : Int)) (l + 1)).pos ⟨#[41]⟩ = eqs (nth t (lst (p + 1) (l + 1)).to) ⟨#[41]⟩ := by rw [b1]; exact accB_in _ (by omega)
      by_cases h4 : eqs (nth t (lst (p + 1) (l + 1)).to) ⟨#[41]⟩ = false
      ·rw [if_pos h4]; exact ⟨by simp only [hq, h4]; rfl, fun h => by simp [rbad] at h⟩
      ·rw [if_neg h4]
       have h4' : eqs (nth t (lst (p + 1) (l + 1)).to) ⟨#[41]⟩ = true := by simpa using h4
       rw [h4'] at hq
       refine ⟨hq, fun _ => ⟨?_, ?_, ?_, b4⟩⟩
       ·show accP t _ _ = _; rw [(accP_t hq).1, b1]
       ·show (cnd (p + 1) (max d (l : Int)) (l + 1)).deep = max d (max (lst (p + 1) (l + 1)).most (l : Int)); rw [b2]; omega
       ·show (l : Int) ≤ max _ (l : Int); omega
    ·have ho' : (lst (p + 1) (l + 1)).ok = false := by simpa using ho
     rw [if_neg (by rw [a]; exact ho), if_pos ho']
     exact ⟨rfl, fun h => by simp [rbad] at h⟩
   | false =>
    cases h3 : eqs (nth t p) ⟨#[116, 114, 117, 101]⟩ with
    | true =>
     have n1 : eqs (nth t p) ⟨#[111, 114]⟩ = false := eqs_or h3 (by decide)
     have n2 : eqs (nth t p) ⟨#[97, 110, 100]⟩ = false := eqs_or h3 (by decide)
     have n3 : eqs (nth t p) ⟨#[41]⟩ = false := eqs_or h3 (by decide)
     simp only [n1, n2, n3, hp, if_true, if_false, Bool.false_eq_true]
     exact ⟨rfl, fun _ => ⟨rfl, rfl, Int.le_refl _, by simp [rc]⟩⟩
    | false =>
     cases h4 : eqs (nth t p) ⟨#[102, 97, 108, 115, 101]⟩ with
     | true =>
      have n1 : eqs (nth t p) ⟨#[111, 114]⟩ = false := eqs_or h4 (by decide)
      have n2 : eqs (nth t p) ⟨#[97, 110, 100]⟩ = false := eqs_or h4 (by decide)
      have n3 : eqs (nth t p) ⟨#[41]⟩ = false := eqs_or h4 (by decide)
      simp only [n1, n2, n3, hp, if_true, if_false, Bool.false_eq_true]
      exact ⟨rfl, fun _ => ⟨rfl, rfl, Int.le_refl _, by simp [rc]⟩⟩
     | false =>
      simp only [specB, kwB, h1, h2, h3, h4, hp, if_false, Bool.false_eq_true, Bool.or_false, Bool.false_or]
      cases h5 : eqs (nth t p) ⟨#[111, 114]⟩ with
      | true => simp only [Bool.true_or, Bool.or_true, if_true]; exact ⟨rfl, fun h => by simp [rbad] at h⟩
      | false =>
       cases h6 : eqs (nth t p) ⟨#[97, 110, 100]⟩ with
       | true => simp only [Bool.true_or, Bool.or_true, if_true, if_false, Bool.false_eq_true]; exact ⟨rfl, fun h => by simp [rbad] at h⟩
       | false =>
        cases h7 : eqs (nth t p) ⟨#[41]⟩ with
        | true => simp only [Bool.true_or, Bool.or_true, if_true, if_false, Bool.false_eq_true]; exact ⟨rfl, fun h => by simp [rbad] at h⟩
        | false =>
         simp only [Bool.or_self, if_false, Bool.false_eq_true]
         exact ⟨rfl, fun _ => ⟨rfl, rfl, Int.le_refl _, by simp [rc]⟩⟩
theorem rc_mk {k op : Int} (h : (k = 1 ∧ op = 6) ∨ (k = 2 ∧ op = 5)) (l : List Nd) : rc (mkP k l) = grp op (rcs l) := by
 unfold mkP grp
 have hl : (rcs l).length = l.length := by simp [rcs_eq]
 rw [hl]
 split
 ·rename_i h1
  match l, h1 with
  | [x], _ => simp [ndth, rcs]
 ·rcases h with ⟨rfl, rfl⟩ | ⟨rfl, rfl⟩ <;> simp [rc]
theorem sim_list {opnd : Nat → Int → PR} {opnd' : Nat → RR} {word : ByteArray} {k op : Int} (hk : (k = 1 ∧ op = 6) ∨ (k = 2 ∧ op = 5)) {t : List ByteArray} {l : Nat} (hf : ∀ p d, p ≤ t.length → FairP t p (opnd p d)) (ho : ∀ p d, p ≤ t.length → 0 ≤ d → Sim l d (opnd p d) (opnd' p)) (d0 : Int) (hd0 : 0 ≤ d0) :
  ∀ (m p : Nat) (d most : Int) (acc : List Nd), p ≤ t.length → d = max d0 most → Sim l d0 (listP opnd word k t m p d acc) (listR opnd' word op t m p (rcs acc) most)
 | 0, p, d, most, acc, _, _ => by simp only [listP, listR]; exact ⟨rfl, fun h => by simp [rbad] at h⟩
 | m + 1, p, d, most, acc, hp, hd => by
  simp only [listP, listR]
  obtain ⟨a, b⟩ := ho p d hp (by omega)
  obtain ⟨f1, f2, f3⟩ := hf p d hp
  cases h1 : (opnd' p).ok with
  | true =>
   obtain ⟨b1, b2, b3, b4⟩ := b h1
   have ok1 : (opnd p d).ok = true := a.trans h1
   have f4 := f3 ok1
   have hd' : (opnd p d).deep = max d0 (max most (opnd' p).most) := by rw [b2, hd]; omega
   have hl' : (l : Int) ≤ max most (opnd' p).most := by omega
   have happ : rcs acc ++ [(opnd' p).nd] = rcs (acc ++ [(opnd p d).nd]) := by rw [rcs_app, rcs_one, b4]
   have done : Sim l d0 ⟨mkP k (acc ++ [(opnd p d).nd]), (opnd p d).pos, (opnd p d).deep, true⟩ ⟨grp op (rcs acc ++ [(opnd' p).nd]), (opnd' p).to, max most (opnd' p).most, true⟩ :=
    ⟨rfl, fun _ => ⟨b1, hd', hl', by simp only; rw [rc_mk hk, happ]⟩⟩
   simp only [ok1, reduceCtorEq, if_false]
   by_cases h2 : t.length ≤ (opnd' p).to
   ·rw [if_pos h2, if_neg (by rw [b1, accB_out _ (by omega)]; simp)]; exact done
   ·have hq : accB t (opnd p d).pos word = eqs (nth t (opnd' p).to) word := by rw [b1]; exact accB_in _ (by omega)
    rw [if_neg h2]
    cases h3 : eqs (nth t (opnd' p).to) word with
    | false => simp only [hq, h3, Bool.false_eq_true, if_false, if_true]; exact done
    | true =>
     simp only [hq, h3, reduceCtorEq, if_false, if_true]
     rw [happ, b1]
     exact sim_list hk hf ho d0 hd0 m _ _ _ _ (by omega) hd'
  | false =>
   simp only [a, h1, if_true]
   exact ⟨rfl, fun h => by simp [rbad] at h⟩
theorem sim_all {one : Nat → Int → Nat → PR} {one' : Nat → Nat → RR} {t : List ByteArray} (hf : ∀ p d l, p ≤ t.length → FairP t p (one p d l)) (h : ∀ p d l, p ≤ t.length → 0 ≤ d → Sim l d (one p d l) (one' p l)) (p : Nat) (d : Int) (l : Nat) (hp : p ≤ t.length) (hd : 0 ≤ d) : Sim l d (allP one t p d l) (randR one' t p l) :=
 sim_list (.inr ⟨rfl, rfl⟩) (fun p d hp => hf p d l hp) (fun p d hp hd => h p d l hp hd) d hd _ p d 0 [] hp (by omega)
theorem sim_cnd {one : Nat → Int → Nat → PR} {one' : Nat → Nat → RR} {t : List ByteArray} (hf : ∀ p d l, p ≤ t.length → FairP t p (one p d l)) (h : ∀ p d l, p ≤ t.length → 0 ≤ d → Sim l d (one p d l) (one' p l)) (p : Nat) (d : Int) (l : Nat) (hp : p ≤ t.length) (hd : 0 ≤ d) : Sim l d (cndP one t p d l) (rorR one' t p l) :=
 sim_list (.inl ⟨rfl, rfl⟩) (fun p d hp => fairP_all hf p d l hp) (fun p d hp hd => sim_all hf h p d l hp hd) d hd _ p d 0 [] hp (by omega)
theorem sim_pone (t : List ByteArray) : ∀ (n p : Nat) (d : Int) (l : Nat), p ≤ t.length → 0 ≤ d → Sim l d (pone t n p d l) (rone t n p l)
 | 0, p, d, l, _, _ => sim_one (fun p d l _ _ => ⟨rfl, fun h => by simp [rbad] at h⟩) (fun p d l _ _ => ⟨rfl, fun h => by simp [rbad] at h⟩) (fun p d l hp => ⟨Nat.le_refl _, hp, fun h => by simp at h⟩) p d l
 | n + 1, p, d, l, _, _ => sim_one (sim_pone t n) (sim_cnd (fairP_pone t n) (sim_pone t n)) (fairP_cnd (fairP_pone t n)) p d l
theorem read_same (s : ByteArray) : (readR s).2 = (parseP s).2 ∧ ((parseP s).2 = 0 → (readR s).1 = rc (parseP s).1) := by
 unfold readR parseP
 split
 ·exact ⟨rfl, fun h => by simp at h⟩
 ·obtain ⟨a, b⟩ := sim_cnd (fairP_pone (toks s 0) (toks s 0).length) (sim_pone (toks s 0) (toks s 0).length) 0 0 0 (Nat.zero_le _) (Int.le_refl _)
  have hf := (fairP_cnd (fairP_pone (toks s 0) (toks s 0).length) 0 0 0 (Nat.zero_le _)).2.1
  change (ptop (toks s 0)).ok = (rtop (toks s 0)).ok at a
  change (ptop (toks s 0)).pos ≤ _ at hf
  change (rtop (toks s 0)).ok = true → (ptop (toks s 0)).pos = (rtop (toks s 0)).to ∧ (ptop (toks s 0)).deep = max 0 (rtop (toks s 0)).most ∧ ((0 : Nat) : Int) ≤ (rtop (toks s 0)).most ∧ rc (ptop (toks s 0)).nd = (rtop (toks s 0)).nd at b
  unfold readT parseT
  rw [a]
  split
  ·exact ⟨rfl, fun h => by simp at h⟩
  split
  ·exact ⟨rfl, fun h => by simp at h⟩
  ·rename_i h1 h2
   obtain ⟨b1, b2, b3, b4⟩ := b (by simpa using h2)
   by_cases h3 : (ptop (toks s 0)).pos < (toks s 0).length
   ·rw [if_pos h3, if_pos (by omega)]; exact ⟨rfl, fun h => by simp at h⟩
   ·rw [if_neg h3, if_neg (by omega)]
    by_cases h4 : (ptop (toks s 0)).deep > 16
    ·rw [if_pos h4, if_pos (by omega)]; exact ⟨rfl, fun h => by simp at h⟩
    ·rw [if_neg h4, if_neg (by omega)]; exact ⟨rfl, fun _ => b4.symm⟩
end Go.Proofs.YtdaglbjgdakmcaaGreat
namespace Go.Proofs.YtdaglbjgdakmcaaGreat
open Go Go.Eng
mutual
def gP : Nd → Prop
 | .mk k nm kids => ((k = 1 ∨ k = 2) ∧ 2 ≤ kids.length ∨ k = 3 ∧ kids.length = 1 ∨ (k = 4 ∨ k = 5) ∧ kids = [] ∨ k = 6 ∧ kids = [] ∧ specB nm = false) ∧ gPs kids
def gPs : List Nd → Prop
 | [] => True
 | x :: l => gP x ∧ gPs l
end
theorem gPs_iff : ∀ l, gPs l ↔ ∀ x ∈ l, gP x
 | [] => by simp [gPs]
 | x :: l => by simp [gPs, gPs_iff l]
theorem gP_one {rec cnd : Nat → Int → Nat → PR} {t : List ByteArray} (hr : ∀ p d l, (rec p d l).ok = true → gP (rec p d l).nd) (hc : ∀ p d l, (cnd p d l).ok = true → gP (cnd p d l).nd) (p : Nat) (d : Int) (l : Nat) (h : (oneP rec cnd t p d l).ok = true) : gP (oneP rec cnd t p d l).nd := by
 unfold oneP at h ⊢
 split at h
 ·rename_i h1; rw [if_pos h1]; simp only [gP, gPs]; exact ⟨.inr (.inl ⟨trivial, rfl⟩), hr _ _ _ h, trivial⟩
 rename_i h1; rw [if_neg h1]
 split at h
 ·rename_i h2; rw [if_pos h2]
  split at h
  ·rename_i h3; rw [if_pos h3]; exact hc _ _ _ h3
  ·simp at h
 rename_i h2; rw [if_neg h2]
 split at h
 ·rename_i h3; rw [if_pos h3]; simp [gP, gPs]
 rename_i h3; rw [if_neg h3]
 split at h
 ·rename_i h4; rw [if_pos h4]; simp [gP, gPs]
 rename_i h4; rw [if_neg h4]
 split at h
 ·simp at h
 rename_i h5; rw [if_neg h5]
 split at h
 ·simp at h
 rename_i h6; rw [if_neg h6]
 simp only [gP, gPs]; exact ⟨.inr (.inr (.inr ⟨trivial, trivial, by simpa using h6⟩)), trivial⟩
theorem gP_mk {k : Int} (hk : k = 1 ∨ k = 2) {l : List Nd} (h : ∀ x ∈ l, gP x) (hl : l ≠ []) : gP (mkP k l) := by
 unfold mkP
 split
 ·rename_i h1
  match l, h1 with
  | [x], _ => simpa [ndth] using h
 ·rename_i h1
  simp only [gP]
  refine ⟨.inl ⟨hk, ?_⟩, (gPs_iff l).2 h⟩
  have := List.length_pos_iff.2 hl; omega
theorem gP_list {opnd : Nat → Int → PR} {word : ByteArray} {k : Int} (hk : k = 1 ∨ k = 2) {t : List ByteArray} (ho : ∀ p d, (opnd p d).ok = true → gP (opnd p d).nd) :
  ∀ (m p : Nat) (d : Int) (acc : List Nd), (∀ x ∈ acc, gP x) → (listP opnd word k t m p d acc).ok = true → gP (listP opnd word k t m p d acc).nd
 | 0, p, d, acc, _, h => by simp [listP] at h
 | m + 1, p, d, acc, ha, h => by
  simp only [listP] at h ⊢
  split at h
  ·simp at h
  rename_i h1; rw [if_neg h1]
  have ha' : ∀ x ∈ acc ++ [(opnd p d).nd], gP x := by
   intro x hx
   rcases List.mem_append.1 hx with hx | hx
   ·exact ha x hx
   ·simp at hx; subst hx; exact ho p d (by simpa using h1)
  split at h
  ·rename_i h2; rw [if_pos h2]; exact gP_list hk ho m _ _ _ ha' h
  ·rename_i h2; rw [if_neg h2]; exact gP_mk hk ha' (by simp)
theorem gP_pone (t : List ByteArray) : ∀ (n p : Nat) (d : Int) (l : Nat), (pone t n p d l).ok = true → gP (pone t n p d l).nd
 | 0, p, d, l, h => gP_one (fun _ _ _ h => by simp at h) (fun _ _ _ h => by simp at h) p d l h
 | n + 1, p, d, l, h => gP_one (gP_pone t n) (fun p d l h => gP_list (.inl rfl) (fun p d h => gP_list (.inr rfl) (fun p d h => gP_pone t n p d l h) _ _ _ _ (by simp) h) _ _ _ _ (by simp) h) p d l h
theorem gP_parse {s : ByteArray} (h : (parseP s).2 = 0) : gP (parseP s).1 := by
 obtain ⟨_, _, h3, _, _, h6⟩ := parse_ok h
 rw [h6]
 exact gP_list (.inl rfl) (fun p d h => gP_list (.inr rfl) (fun p d h => gP_pone _ _ p d 0 h) _ _ _ _ (by simp) h) _ _ _ _ (by simp) h3
theorem valG6 (fl : List ByteArray) : ∀ l, valG fl 6 l = l.any (valR fl)
 | [] => by simp only [valG, List.any_nil]; rfl
 | x :: l => by
  simp only [valG, List.any_cons, valG6 fl l]
  cases valR fl x <;> simp
theorem valG5 (fl : List ByteArray) : ∀ l, valG fl 5 l = l.all (valR fl)
 | [] => by simp only [valG, List.all_nil]; rfl
 | x :: l => by
  simp only [valG, List.all_cons, valG5 fl l]
  cases valR fl x <;> simp
theorem any_gkids (fl : List ByteArray) : ∀ l, (gkids 6 l).any (valR fl) = l.any (valR fl)
 | [] => rfl
 | x :: l => by
  have ih := any_gkids fl l
  simp only [gkids, List.flatMap_cons, List.any_append, List.any_cons] at ih ⊢
  rw [ih]; congr 1
  unfold gkid
  split
  ·rename_i h
   cases x with
   | mk k nm kids => simp only [Nd.kind, beq_iff_eq] at h; subst h; simp [valR, Nd.kids, valG6]
  ·simp
theorem all_gkids (fl : List ByteArray) : ∀ l, (gkids 5 l).all (valR fl) = l.all (valR fl)
 | [] => rfl
 | x :: l => by
  have ih := all_gkids fl l
  simp only [gkids, List.flatMap_cons, List.all_append, List.all_cons] at ih ⊢
  rw [ih]; congr 1
  unfold gkid
  split
  ·rename_i h
   cases x with
   | mk k nm kids => simp only [Nd.kind, beq_iff_eq] at h; subst h; simp [valR, Nd.kids, valG5]
  ·simp
mutual
theorem val_rc (fl : List ByteArray) : ∀ x, gP x → valR fl (rc x) = valP fl x
 | .mk k nm kids, h => by
  simp only [gP] at h
  obtain ⟨h, hk⟩ := h
  have ih := vals_rc fl kids hk
  rcases h with ⟨rfl | rfl, _⟩ | ⟨rfl, hl⟩ | ⟨rfl | rfl, _⟩ | ⟨rfl, _, _⟩
  ·simp [rc, valR, valP, valG6, any_gkids, valPO_eq, rcs_eq, List.any_map, ih.1]
  ·simp [rc, valR, valP, valG5, all_gkids, valPA_eq, rcs_eq, List.all_map, ih.2]
  ·match kids, hl, hk with
   | [x], _, hk =>
    have := val_rc fl x hk.1
    simp [rc, rcs, valR, valP, valH, valPH, this]
  ·simp [rc, valR, valP]
  ·simp [rc, valR, valP]
  ·simp [rc, valR, valP]
theorem vals_rc (fl : List ByteArray) : ∀ l, gPs l → l.any (valR fl ∘ rc) = l.any (valP fl) ∧ l.all (valR fl ∘ rc) = l.all (valP fl)
 | [], _ => ⟨rfl, rfl⟩
 | x :: l, h => by
  simp only [gPs] at h
  obtain ⟨i1, i2⟩ := vals_rc fl l h.2
  simp only [List.any_cons, List.all_cons, Function.comp, val_rc fl x h.1]
  exact ⟨by rw [← i1], by rw [← i2]⟩
end
theorem evalPR (s : ByteArray) (fl : List ByteArray) : evalR s fl = evalP s fl := by
 obtain ⟨h1, h2⟩ := read_same s
 unfold evalR evalP
 rw [h1]
 split
 ·rename_i h; rw [h2 h, val_rc fl _ (gP_parse h)]
 ·rfl
end Go.Proofs.YtdaglbjgdakmcaaGreat
