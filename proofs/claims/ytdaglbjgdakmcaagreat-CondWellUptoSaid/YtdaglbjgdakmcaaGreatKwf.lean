/- Texts joined by a program (merge.py). -/
import Derived.Test.YtdaglbjgdakmcaaGreatKwe
import Derived.KernelRfl
import Derived.Test.YtdaglbjgdakmcaaGreatKwb
import Derived.ProofKit
import Derived.SliceStrings
import Derived.Test.YtdaglbjgdakmcaaGreatRows
import Derived.JoinedCond
set_option linter.unusedSimpArgs false
set_option linter.unusedVariables false
namespace Go.Proofs.YtdaglbjgdakmcaaGreat
open Go Go.Eng
def cpyA (a : DAttr) : DAttr := a
set_option maxRecDepth 100000 in
set_option maxHeartbeats 4000000 in
theorem cpyA_to (a : DAttr) (ha : wAttr a ≤ 1073741824) : CallTo Tryz.prog 46 [(.av (cAttr a))] [] [] (.av (cAttr (cpyA a))) [] [] := by
  have hwa := wAttr_eq a
  have hw_0 := wl_len (w := wStr) wStr_pos a.fClasses
  have hw_1 := wl_len (w := wPair) wPair_pos a.fPairs
  refine BEG (fun r : DAttr => (.av (cAttr r))) (cpyA a) Tryz.func46 (by kernel_rfl) ?_
  refine UF (cpyA.eq_1 ..) ?_
  refine GO (tn 2 z) (by kernel_rfl) ?_
  refine DR3 (tn 8 (kp (show Uni 1 (a.fClasses.map strAV) ∧ ((a.fClasses.map strAV) : List AV).length * 16 ≤ 140737488355328 from ⟨uni_strAV _, by first | omega | (simp; done) | (simp; omega)⟩) (tn 4 (kp (show Uni 2 (a.fPairs.map aPair) ∧ ((a.fPairs.map aPair) : List AV).length * 32 ≤ 140737488355328 from ⟨uni_aPair _, by first | omega | (simp; done) | (simp; omega)⟩) (tn 2 z))))) (by kernel_rfl) (by kernel_rfl) (by kernel_rfl) ?_
  exact EN (by kernel_rfl)
def hldP (w : List ByteArray) (s : ByteArray) : (Bool × Int) := (cond ((((parseP (s)).2 : Int) == 0)) (valP w ((parseP (s)).1)) (false), (parseP (s)).2)
set_option maxRecDepth 100000 in
set_option maxHeartbeats 4000000 in
theorem hldP_to (w : List ByteArray) (s : ByteArray) (hs : s.size ≤ 1073741824) : CallTo Tryz.prog 65 [(.av (.agg [(.rm (setF (w) []) (trues (setF (w) [])))])), (jS (s))] [] [] (.av (.tup [(vB ((hldP w s).1)), (vI ((hldP w s).2))])) [] [] := by
  refine BEG (fun r : (Bool × Int) => (.av (.tup [(vB (r.1)), (vI (r.2))]))) (hldP w s) Tryz.func65 (by kernel_rfl) ?_
  refine UF (hldP.eq_1 ..) ?_
  refine GO (tn 4 (kc (parse_to (s) (by unfold maxLen; omega)) (tn 9 (kj ((((parseP (s)).2 : Int) == 0)) (tn 3 (kc (valueP_to w _ (ok_parseP (s))) z)) z (tn 3 z))))) (by kernel_rfl) ?_
  exact EN (by kernel_rfl)
def sngL_L0 (l : List DInline) : Nat → (List DInline) → Bool → Nat → List DInline
  | 0, _, _, _ => default
  | n0 + 1, v3, v4, v9 => cond (decide ((((v9 : Nat) : Int) : Int) < ((lenM aInline l : Nat) : Int))) (cond (cond ((((el l v9).fKind : Int) != 2)) (true) ((!v4))) (sngL_L0 l n0 (v3 ++ ([el l v9])) (cond ((((el l v9).fKind : Int) == 2)) (true) ((((el l v9).fKind : Int) == 3))) (v9 + 1)) (sngL_L0 l n0 v3 (cond ((((el l v9).fKind : Int) == 2)) (true) ((((el l v9).fKind : Int) == 3))) (v9 + 1))) (v3)
def sngL (l : List DInline) : List DInline := sngL_L0 l ((List.length l - (0)) + 1) ([]) false 0
set_option maxRecDepth 100000 in
set_option maxHeartbeats 4000000 in
theorem sngL_to (l : List DInline) (hl : wl wInline l ≤ 1073741824) : CallTo Tryz.prog 66 [(jL (l.map aInline))] [] [] (jL ((sngL l).map aInline)) [] [] := by
  have hw_0 := wl_len (w := wInline) wInline_pos l
  refine BEG (fun r : List DInline => (jL (r.map aInline))) (sngL l) Tryz.func66 (by kernel_rfl) ?_
  refine UF (sngL.eq_1 ..) ?_
  refine GO (tn 6 z) (by kernel_rfl) ?_
  refine LP (fun N M S => ∃ gv3 : Nat, ∃ v3 : List DInline, ∃ v4 : Bool, ∃ v9 : Nat, (v3.length ≤ v9) ∧ (v9 ≤ l.length) ∧ (List.length l - v9 < N) ∧ M = sngL_L0 l N v3 v4 v9 ∧ S = (sx 34 [(3, (.own (203, 42) (gv3) 10 (v3.map aInline))), (4, (jB (v4))), (7, (jL (l.map aInline))), (8, (jI (((lenM aInline l : Nat) : Int)))), (9, (jI (((v9 : Nat) : Int))))] [] [((203, 42), gv3)])) (by kernel_rfl) ⟨0, _, _, _, by first | omega | assumption | (simp only [lenM_eq]; omega) | (simp; done) | (simp; omega), by first | omega | assumption | (simp only [lenM_eq]; omega) | (simp; done) | (simp; omega), by omega, rfl, rfl⟩ (WKf [(3, (.own (203, 42) ((0)) 10 (([]).map aInline)))] (ac (show ((([]).map aInline) : List AV) = [] ∧ 0 < 42 ∧ ((0) : Nat) = (0) from ⟨rfl, by decide, rfl⟩) an) (by kernel_rfl)) ?_
  rintro n0 M S ⟨gv3, v3, v4, v9, hv, hi, hF0, rfl, rfl⟩
  obtain ⟨n0, rfl⟩ : ∃ k, n0 = k + 1 := ⟨n0 - 1, by omega⟩
  refine UF (sngL_L0.eq_2 ..) ?_
  refine GO (tn 1 z) (by kernel_rfl) ?_
  refine CSd (fun h1p h1 => ?_) (fun h1p h1 => ?_)
  · have := lenM_eq aInline l
    refine GO (kb h1 (ke (el_aInline l v9 (by first | omega | (simp only [lenM_eq, true_and]; omega))) (tn 7 (kj ((((el l v9).fKind : Int) != 2)) z (tn 2 z) z)))) (by kernel_rfl) ?_
    refine CS (fun h2 => ?_) (fun h2 => ?_)
    · refine GO (kb h2 (tn 2 (kp (show Uni 10 [(cInline (el l v9))] from (uni_one rfl rfl)) (kp (show (gv3 : Nat) = gv3 ∧ Uni 10 [(cInline (el l v9))] ∧ (((v3.map aInline) : List AV).length + ([(cInline (el l v9))] : List AV).length) * 192 ≤ 140737488355328 from ⟨rfl, uni_one rfl rfl, by first | omega | (simp; done) | (simp; omega)⟩) (kw (ap1_aInline v3 (el l v9)) (tn 5 (kj ((((el l v9).fKind : Int) == 2)) z (tn 3 z) (tn 1 (kn (wrE ((((v9 : Nat) : Int)) + 1) (((v9 + 1 : Nat) : Int)) (by omega)) (tn 1 z)))))))))) (by kernel_rfl) ?_
      exact AG ⟨gv3 + 1, _, _, _, by first | omega | assumption | (simp only [lenM_eq]; omega) | (simp; done) | (simp; omega), by first | omega | assumption | (simp only [lenM_eq]; omega) | (simp; done) | (simp; omega), by omega, rfl, rfl⟩ (WK (by kernel_rfl)) (by kernel_rfl) (Nat.lt_succ_self _)
    · obtain ⟨h2a, h2o⟩ := cond_tt h2
      have h2ap := eq_of_bne_false h2a
      have h2on := notf h2o
      refine GO (kb h2 (tn 4 (kj ((((el l v9).fKind : Int) == 2)) z (tn 3 z) (tn 1 (kn (wrE ((((v9 : Nat) : Int)) + 1) (((v9 + 1 : Nat) : Int)) (by omega)) (tn 1 z)))))) (by kernel_rfl) ?_
      exact AG ⟨gv3, _, _, _, by first | omega | assumption | (simp only [lenM_eq]; omega) | (simp; done) | (simp; omega), by first | omega | assumption | (simp only [lenM_eq]; omega) | (simp; done) | (simp; omega), by omega, rfl, rfl⟩ (WK (by kernel_rfl)) (by kernel_rfl) (Nat.lt_succ_self _)
  · have := lenM_eq aInline l
    refine GO (kb h1 z) (by kernel_rfl) ?_
    refine OUT (tn 2 z) (by kernel_rfl) ?_
    exact EN (by kernel_rfl)
def trmL_L1 (l : List DInline) (v0 : List DInline) (k0 : (List DInline) → List DInline) : Nat → (List DInline) → List DInline
  | 0, _ => default
  | n1 + 1, w0 => cond (cond (decide ((((lenM aInline w0 : Nat) : Int) : Int) > 0)) (cond ((((el w0 (Int.toNat ((((lenM aInline w0 : Nat) : Int)) - 1))).fKind : Int) == 2)) (true) ((((el w0 (Int.toNat ((((lenM aInline w0 : Nat) : Int)) - 1))).fKind : Int) == 3))) (false)) (trmL_L1 l v0 k0 n1 ((List.drop 0 w0).take (Int.toNat ((((lenM aInline w0 : Nat) : Int)) - 1) - 0))) (w0)
def trmL_L0 (l : List DInline) : Nat → (List DInline) → List DInline
  | 0, _ => default
  | n0 + 1, v0 => cond (cond (decide ((((lenM aInline v0 : Nat) : Int) : Int) > 0)) ((((el v0 0).fKind : Int) == 2)) (false)) (trmL_L0 l n0 ((List.drop 1 v0).take (lenM aInline v0 - 1))) (trmL_L1 l v0 (trmL_L0 l n0) (((v0).length) + 1) v0)
def trmL (l : List DInline) : List DInline := trmL_L0 l (((l).length) + 1) l
set_option maxRecDepth 100000 in
set_option maxHeartbeats 4000000 in
theorem trmL_to (l : List DInline) (hl : wl wInline l ≤ 1073741824) : CallTo Tryz.prog 47 [(jL (l.map aInline))] [] [] (jL ((trmL l).map aInline)) [] [] := by
  have hw_0 := wl_len (w := wInline) wInline_pos l
  refine BEG (fun r : List DInline => (jL (r.map aInline))) (trmL l) Tryz.func47 (by kernel_rfl) ?_
  refine UF (trmL.eq_1 ..) ?_
  refine GO (tn 1 z) (by kernel_rfl) ?_
  refine LP (fun N M S => ∃ v0 : List DInline, (v0.length ≤ l.length) ∧ (v0.length < N) ∧ M = trmL_L0 l N v0 ∧ S = (sx 44 [(0, (jL (v0.map aInline)))] [] [])) (by kernel_rfl) ⟨_, by first | omega | assumption | (simp only [lenM_eq]; omega) | (simp; done) | (simp; omega), by omega, rfl, rfl⟩ (WK (by kernel_rfl)) ?_
  rintro n0 M S ⟨v0, hv, hF0, rfl, rfl⟩
  obtain ⟨n0, rfl⟩ : ∃ k, n0 = k + 1 := ⟨n0 - 1, by omega⟩
  refine UF (trmL_L0.eq_2 ..) ?_
  refine GO (tn 4 (kj (decide ((((lenM aInline v0 : Nat) : Int) : Int) > 0)) (tn 1 (he (fun h => by have j0 := h.2; have := lenM_eq aInline v0; have j0p := of_decide_eq_true j0; exact (el_aInline v0 0 (by first | omega | (simp only [lenM_eq, true_and]; omega)))) (tn 3 z))) z z)) (by kernel_rfl) ?_
  refine CS (fun h1 => ?_) (fun h1 => ?_)
  · have := lenM_eq aInline v0
    obtain ⟨h1a, h1o⟩ := cond_ff h1
    have := lenM_eq aInline v0
    have h1ap := of_decide_eq_true h1a
    have h1op := eq_of_beq h1o
    refine GO (kb h1 (tn 1 (kp (show 0 ≤ (1 : Int) ∧ (1 : Int) ≤ ((lenM aInline v0 : Nat) : Int) ∧ ((lenM aInline v0 : Nat) : Int) ≤ ((lenM aInline v0 : Nat) : Int) ∧ Uni 10 (v0.map aInline) from ⟨by first | omega | (simp only [lenM_eq, true_and]; omega), by first | omega | (simp only [lenM_eq, true_and]; omega), by first | omega | (simp only [lenM_eq, true_and]; omega), uni_aInline _⟩) (kw (cutL aInline v0 1 (lenM aInline v0 - 1)) (tn 1 z))))) (by kernel_rfl) ?_
    exact AG ⟨_, by simp only [List.length_take, List.length_drop]; omega, by simp only [List.length_take, List.length_drop]; omega, rfl, rfl⟩ (WK (by kernel_rfl)) (by kernel_rfl) (Nat.lt_succ_self _)
  · have := lenM_eq aInline v0
    refine GO (kb h1 z) (by kernel_rfl) ?_
    refine OUT z (by kernel_rfl) ?_
    refine LP (fun N M S => ∃ w0 : List DInline, (w0.length ≤ l.length) ∧ (w0.length < N) ∧ M = trmL_L1 l v0 (trmL_L0 l n0) N w0 ∧ S = (sx 44 [(0, (jL (w0.map aInline)))] [] [])) (by kernel_rfl) ⟨_, by first | omega | assumption | (simp only [lenM_eq]; omega) | (simp; done) | (simp; omega), by omega, rfl, rfl⟩ (WK (by kernel_rfl)) ?_
    rintro n1 M S ⟨w0, hw, hF1, rfl, rfl⟩
    obtain ⟨n1, rfl⟩ : ∃ k, n1 = k + 1 := ⟨n1 - 1, by omega⟩
    refine UF (trmL_L1.eq_2 ..) ?_
    refine GO (tn 4 (kj (decide ((((lenM aInline w0 : Nat) : Int) : Int) > 0)) (tn 3 (hn (fun h => by have j0 := h.2; have := lenM_eq aInline w0; have j0p := of_decide_eq_true j0; exact (wrE ((((lenM aInline w0 : Nat) : Int)) - 1) ((((lenM aInline w0 : Nat) : Int)) - 1) (by omega))) (he (fun h => by have j0 := h.2; have := lenM_eq aInline w0; have j0p := of_decide_eq_true j0; exact (elI_aInline w0 ((((lenM aInline w0 : Nat) : Int)) - 1) (by first | omega | (simp only [lenM_eq, true_and]; omega)) (by first | omega | (simp only [lenM_eq, true_and]; omega)))) (tn 4 (kj ((((el w0 (Int.toNat ((((lenM aInline w0 : Nat) : Int)) - 1))).fKind : Int) == 2)) z (tn 3 (hn (fun h => by have j0 := h.1.2; have := lenM_eq aInline w0; have j0p := of_decide_eq_true j0; have j1 := h.2; have := lenM_eq aInline w0; have j1p := ne_of_beq_false j1; exact (wrE ((((lenM aInline w0 : Nat) : Int)) - 1) ((((lenM aInline w0 : Nat) : Int)) - 1) (by omega))) (he (fun h => by have j0 := h.1.2; have := lenM_eq aInline w0; have j0p := of_decide_eq_true j0; have j1 := h.2; have := lenM_eq aInline w0; have j1p := ne_of_beq_false j1; exact (elI_aInline w0 ((((lenM aInline w0 : Nat) : Int)) - 1) (by first | omega | (simp only [lenM_eq, true_and]; omega)) (by first | omega | (simp only [lenM_eq, true_and]; omega)))) (tn 3 z)))) z))))) z z)) (by kernel_rfl) ?_
    refine CS (fun h2 => ?_) (fun h2 => ?_)
    · have := lenM_eq aInline w0
      obtain ⟨h2a, h2o⟩ := cond_ff h2
      have := lenM_eq aInline w0
      have h2ap := of_decide_eq_true h2a
      have := lenM_eq aInline w0
      refine GO (kb h2 (tn 3 (kn (wrE ((((lenM aInline w0 : Nat) : Int)) - 1) ((((lenM aInline w0 : Nat) : Int)) - 1) (by omega)) (kp (show 0 ≤ (0 : Int) ∧ (0 : Int) ≤ (((lenM aInline w0 : Nat) : Int)) - 1 ∧ (((lenM aInline w0 : Nat) : Int)) - 1 ≤ ((lenM aInline w0 : Nat) : Int) ∧ Uni 10 (w0.map aInline) from ⟨by first | omega | (simp only [lenM_eq, true_and]; omega), by first | omega | (simp only [lenM_eq, true_and]; omega), by first | omega | (simp only [lenM_eq, true_and]; omega), uni_aInline _⟩) (kw (cutL aInline w0 0 (Int.toNat ((((lenM aInline w0 : Nat) : Int)) - 1) - 0)) (tn 1 z)))))) (by kernel_rfl) ?_
      exact AG ⟨_, by simp only [List.length_take, List.length_drop]; omega, by simp only [List.length_take, List.length_drop]; omega, rfl, rfl⟩ (WK (by kernel_rfl)) (by kernel_rfl) (Nat.lt_succ_self _)
    · have := lenM_eq aInline w0
      refine GO (kb h2 z) (by kernel_rfl) ?_
      refine OUT (tn 2 z) (by kernel_rfl) ?_
      exact EN (by kernel_rfl)
end Go.Proofs.YtdaglbjgdakmcaaGreat
namespace Go.Proofs.YtdaglbjgdakmcaaGreat
open Go Go.Eng
theorem size_e0 : ByteArray.size ⟨#[]⟩ = 0 := rfl
theorem mgq {x : DInline} (h : cond (((x.fKind : Int) != 1)) (true) ((!eqs (x.fText) (⟨#[]⟩))) = true) (hk : x.fKind = 1) : 0 < x.fText.size := by
  rw [hk] at h; exact size_neqs_t (by simpa using h)
theorem mgq2 {l : List DInline} {x : DInline} (hq : ∀ y ∈ l, y.fKind = 1 → 0 < y.fText.size) (h : cond (((x.fKind : Int) != 1)) (true) ((!eqs (x.fText) (⟨#[]⟩))) = true) : ∀ y ∈ l ++ [x], y.fKind = 1 → 0 < y.fText.size := by
  intro y hy
  simp only [List.mem_append, List.mem_singleton] at hy
  rcases hy with hy | rfl
  · exact hq y hy
  · exact mgq h
def mrgL_L2 (l : List DInline) (v3 : List DInline) (v12 : Nat) (w6 : List DInline) (w7 : Nat) (k0 : (List DInline) → Nat → List DInline) (k1 : (List DInline) → Nat → List DInline) : Nat → Nat → ByteArray → List DInline
  | 0, _, _ => default
  | n2 + 1, x7, xb9_1 => cond (cond (decide ((((x7 : Nat) : Int) : Int) < ((lenM aInline v3 : Nat) : Int))) ((((el v3 x7).fKind : Int) == 1)) (false)) (mrgL_L2 l v3 v12 w6 w7 k0 k1 n2 (x7 + 1) (xb9_1 ++ ((el v3 x7).fText))) (k1 (w6 ++ ([DInline.mk ((el v3 w7).fKind) xb9_1 ((el v3 w7).fDest) ((el v3 w7).fTitle) ((el v3 w7).fAttr) ((el v3 w7).fArgs) ((el v3 w7).fCites) ((el v3 w7).fKids)])) x7)
def mrgL_L1 (l : List DInline) (v3 : List DInline) (v12 : Nat) (k0 : (List DInline) → Nat → List DInline) : Nat → (List DInline) → Nat → List DInline
  | 0, _, _ => default
  | n1 + 1, w6, w7 => cond (decide ((((w7 : Nat) : Int) : Int) < ((lenM aInline v3 : Nat) : Int))) (cond (cond (cond ((((el v3 w7).fKind : Int) == 1)) (decide ((((w7 + 1 : Nat) : Int) : Int) < ((lenM aInline v3 : Nat) : Int))) (false)) ((((el v3 (w7 + 1)).fKind : Int) == 1)) (false)) (mrgL_L2 l v3 v12 w6 w7 k0 (mrgL_L1 l v3 v12 k0 n1) ((v3.length - (w7 + 1)) + 1) (w7 + 1) ((⟨#[]⟩) ++ ((el v3 w7).fText))) (mrgL_L1 l v3 v12 k0 n1 (w6 ++ ([el v3 w7])) (w7 + 1))) (w6)
def mrgL_L0 (l : List DInline) : Nat → (List DInline) → Nat → List DInline
  | 0, _, _ => default
  | n0 + 1, v3, v12 => cond (decide ((((v12 : Nat) : Int) : Int) < ((lenM aInline l : Nat) : Int))) (cond (cond ((((el l v12).fKind : Int) != 1)) (true) ((!eqs ((el l v12).fText) (⟨#[]⟩)))) (mrgL_L0 l n0 (v3 ++ ([el l v12])) (v12 + 1)) (mrgL_L0 l n0 v3 (v12 + 1))) (mrgL_L1 l v3 v12 (mrgL_L0 l n0) ((v3.length - (0)) + 1) ([]) 0)
def mrgL (l : List DInline) : List DInline := mrgL_L0 l ((List.length l - (0)) + 1) ([]) 0
set_option maxRecDepth 100000 in
set_option maxHeartbeats 4000000 in
theorem mrgL_to (l : List DInline) (hl : wl wInline l ≤ 536870912) : CallTo Tryz.prog 67 [(jL (l.map aInline))] [] [] (jL ((mrgL l).map aInline)) [] [] := by
  have hw_0 := wl_len (w := wInline) wInline_pos l
  refine BEG (fun r : List DInline => (jL (r.map aInline))) (mrgL l) Tryz.func67 (by kernel_rfl) ?_
  refine UF (mrgL.eq_1 ..) ?_
  refine GO (tn 5 z) (by kernel_rfl) ?_
  refine LP (fun N M S => ∃ gv3 : Nat, ∃ v3 : List DInline, ∃ v12 : Nat, (wl wInline v3 ≤ wl wInline (l.take v12)) ∧ (v3.length ≤ v12) ∧ (v12 ≤ l.length) ∧ (∀ y ∈ v3, y.fKind = 1 → 0 < y.fText.size) ∧ (List.length l - v12 < N) ∧ M = mrgL_L0 l N v3 v12 ∧ S = (sx 86 [(3, (.own (203, 42) (gv3) 10 (v3.map aInline))), (10, (jL (l.map aInline))), (11, (jI (((lenM aInline l : Nat) : Int)))), (12, (jI (((v12 : Nat) : Int))))] [] [((203, 42), gv3)])) (by kernel_rfl) ⟨0, _, _, by simp [wl], by first | omega | assumption | (simp only [lenM_eq]; omega) | (simp; done) | (simp; omega), by first | omega | assumption | (simp only [lenM_eq]; omega) | (simp; done) | (simp; omega), by simp, by omega, rfl, rfl⟩ (WKf [(3, (.own (203, 42) ((0)) 10 (([]).map aInline)))] (ac (show ((([]).map aInline) : List AV) = [] ∧ 0 < 42 ∧ ((0) : Nat) = (0) from ⟨rfl, by decide, rfl⟩) an) (by kernel_rfl)) ?_
  rintro n0 M S ⟨gv3, v3, v12, hv, hv2, hi, hq, hF0, rfl, rfl⟩
  obtain ⟨n0, rfl⟩ : ∃ k, n0 = k + 1 := ⟨n0 - 1, by omega⟩
  refine UF (mrgL_L0.eq_2 ..) ?_
  refine GO (tn 1 z) (by kernel_rfl) ?_
  refine CSd (fun h1p h1 => ?_) (fun h1p h1 => ?_)
  · have := lenM_eq aInline l
    have hce := wl_el (w := wInline) (l := l) (i := v12) (by omega)
    have hcw := wInline_eq (el l v12)
    simp only [wStr, w1] at hcw
    have htk := wl_take (w := wInline) (l := l) (i := v12) (by omega)
    refine GO (kb h1 (ke (el_aInline l v12 (by first | omega | (simp only [lenM_eq, true_and]; omega))) (tn 7 (kj ((((el l v12).fKind : Int) != 1)) z (tn 3 z) z)))) (by kernel_rfl) ?_
    refine CS (fun h2 => ?_) (fun h2 => ?_)
    · refine GO (kb h2 (tn 2 (kp (show Uni 10 [(cInline (el l v12))] from (uni_one rfl rfl)) (kp (show (gv3 : Nat) = gv3 ∧ Uni 10 [(cInline (el l v12))] ∧ (((v3.map aInline) : List AV).length + ([(cInline (el l v12))] : List AV).length) * 192 ≤ 140737488355328 from ⟨rfl, uni_one rfl rfl, by first | omega | (simp; done) | (simp; omega)⟩) (kw (ap1_aInline v3 (el l v12)) (tn 1 (kn (wrE ((((v12 : Nat) : Int)) + 1) (((v12 + 1 : Nat) : Int)) (by omega)) (tn 1 z)))))))) (by kernel_rfl) ?_
      exact AG ⟨gv3 + 1, _, _, by simp only [wl_append, wl]; omega, by first | omega | assumption | (simp only [lenM_eq]; omega) | (simp; done) | (simp; omega), by first | omega | assumption | (simp only [lenM_eq]; omega) | (simp; done) | (simp; omega), mgq2 hq h2, by omega, rfl, rfl⟩ (WK (by kernel_rfl)) (by kernel_rfl) (Nat.lt_succ_self _)
    · obtain ⟨h2a, h2o⟩ := cond_tt h2
      have h2ap := eq_of_bne_false h2a
      have h2on := notf h2o
      have h2oz := size_neqs_f h2o
      refine GO (kb h2 (kn (wrE ((((v12 : Nat) : Int)) + 1) (((v12 + 1 : Nat) : Int)) (by omega)) (tn 1 z))) (by kernel_rfl) ?_
      exact AG ⟨gv3, _, _, by first | omega | assumption | (simp only [lenM_eq]; omega) | (simp; done) | (simp; omega), by first | omega | assumption | (simp only [lenM_eq]; omega) | (simp; done) | (simp; omega), by first | omega | assumption | (simp only [lenM_eq]; omega) | (simp; done) | (simp; omega), hq, by omega, rfl, rfl⟩ (WK (by kernel_rfl)) (by kernel_rfl) (Nat.lt_succ_self _)
  · have := lenM_eq aInline l
    refine GO (kb h1 z) (by kernel_rfl) ?_
    refine OUT (tn 2 z) (by kernel_rfl) ?_
    refine LP (fun N M S => ∃ gw6 : Nat, ∃ w6 : List DInline, ∃ w7 : Nat, ∃ gwk1300_6 : Nat, (w6.length ≤ w7) ∧ (w7 ≤ v3.length) ∧ (v3.length - w7 < N) ∧ M = mrgL_L1 l v3 v12 (mrgL_L0 l n0) N w6 w7 ∧ S = (sx 86 [(3, (.own (203, 42) (gv3) 10 (v3.map aInline))), (6, (.own (206, 42) (gw6) 10 (w6.map aInline))), (7, (jI (((w7 : Nat) : Int))))] [] [((206, 42), gw6), ((1300, 6), gwk1300_6), ((203, 42), gv3)])) (by kernel_rfl) ⟨0, _, _, 0, by first | omega | assumption | (simp only [lenM_eq]; omega) | (simp; done) | (simp; omega), by first | omega | assumption | (simp only [lenM_eq]; omega) | (simp; done) | (simp; omega), by omega, rfl, rfl⟩ (WKf [(6, (.own (206, 42) ((0)) 10 (([]).map aInline)))] (ac (show ((([]).map aInline) : List AV) = [] ∧ 0 < 42 ∧ ((0) : Nat) = (0) from ⟨rfl, by decide, rfl⟩) an) (by kernel_rfl)) ?_
    rintro n1 M S ⟨gw6, w6, w7, gwk1300_6, hw, hw2, hF1, rfl, rfl⟩
    obtain ⟨n1, rfl⟩ : ∃ k, n1 = k + 1 := ⟨n1 - 1, by omega⟩
    refine UF (mrgL_L1.eq_2 ..) ?_
    refine GO (tn 4 z) (by kernel_rfl) ?_
    refine CSd (fun h3p h3 => ?_) (fun h3p h3 => ?_)
    · have := lenM_eq aInline v3
      have hce := wl_el (w := wInline) (l := v3) (i := w7) (by omega)
      have hcw := wInline_eq (el v3 w7)
      simp only [wStr, w1] at hcw
      have htk := wl_take (w := wInline) (l := v3) (i := w7) (by omega)
      have hq1 := hq _ (el_mem (l := v3) (i := w7) (by omega))
      have hv3 := wl_len (w := wInline) wInline_pos v3
      have hv9 := wl_take_le (w := wInline) l v12
      refine GO (kb h3 (tn 2 (ke (el_aInline v3 w7 (by first | omega | (simp only [lenM_eq, true_and]; omega))) (tn 4 (kn (wrE ((((w7 : Nat) : Int)) + 1) (((w7 + 1 : Nat) : Int)) (by omega)) (tn 5 (kj ((((el v3 w7).fKind : Int) == 1)) (tn 4 z) z (tn 1 (kj (cond ((((el v3 w7).fKind : Int) == 1)) (decide ((((w7 + 1 : Nat) : Int) : Int) < ((lenM aInline v3 : Nat) : Int))) (false)) (tn 2 (he (fun h => by have j0 := h.2; have := lenM_eq aInline v3; obtain ⟨j0a, j0o⟩ := cond_ff j0; have j0ap := eq_of_beq j0a; have := lenM_eq aInline v3; have j0op := of_decide_eq_true j0o; have hce := wl_el (w := wInline) (l := v3) (i := w7) (by omega); have hcw := wInline_eq (el v3 w7); simp only [wStr, w1] at hcw; have htk := wl_take (w := wInline) (l := v3) (i := w7) (by omega); have hq1 := hq _ (el_mem (l := v3) (i := w7) (by omega)); have hv3 := wl_len (w := wInline) wInline_pos v3; have hv9 := wl_take_le (w := wInline) l v12; exact (el_aInline v3 (w7 + 1) (by first | omega | (simp only [lenM_eq, true_and]; omega)))) (tn 3 z))) z z))))))))) (by kernel_rfl) ?_
      refine CS (fun h4 => ?_) (fun h4 => ?_)
      · have := lenM_eq aInline v3
        obtain ⟨h4a, h4o⟩ := cond_ff h4
        have := lenM_eq aInline v3
        obtain ⟨h4aa, h4ao⟩ := cond_ff h4a
        have h4aap := eq_of_beq h4aa
        have := lenM_eq aInline v3
        have h4aop := of_decide_eq_true h4ao
        have hce := wl_el (w := wInline) (l := v3) (i := w7) (by omega)
        have hcw := wInline_eq (el v3 w7)
        simp only [wStr, w1] at hcw
        have htk := wl_take (w := wInline) (l := v3) (i := w7) (by omega)
        have hq1 := hq _ (el_mem (l := v3) (i := w7) (by omega))
        have hv3 := wl_len (w := wInline) wInline_pos v3
        have hv9 := wl_take_le (w := wInline) l v12
        have h4op := eq_of_beq h4o
        refine GO (kb h4 (tn 1 (kq 15 z))) (by kernel_rfl) ?_
        refine RT [(9, 0, (.son 9)), (9, 1, (.own (1300, 6) (gwk1300_6) 1 (bytesAV (⟨#[]⟩))))] (ac (show (AV.val (.pointer none)) = .val (.pointer none) from rfl) (ac (show (bytesAV ⟨#[]⟩ : List AV) = [] ∧ 0 < 6 ∧ (gwk1300_6 : Nat) = gwk1300_6 from ⟨rfl, by decide, rfl⟩) an)) (by kernel_rfl) ?_
        refine GO (tn 2 (kg (show CallTo Tryz.prog 62 [(.ptr 9 0), (jS ((el v3 w7).fText))] [(9, (.cells 85 [(.son 9), (.own (1300, 6) (gwk1300_6) 1 (bytesAV (⟨#[]⟩)))]))] [((1300, 6), gwk1300_6)] (.av (.tup [(vI (((ByteArray.size ((el v3 w7).fText) : Nat) : Int))), (.val (.nilIface))])) [(9, (.cells 85 [(.son 9), (.own (1300, 6) (gwk1300_6 + 1) 1 (bytesAV ((⟨#[]⟩) ++ ((el v3 w7).fText))))]))] [((1300, 6), gwk1300_6 + 1)] from (by have h := CallTo_ren (swap_inv (9, 0) (1000, 0) rfl) (WriteString_to (⟨#[]⟩, gwk1300_6) ((el v3 w7).fText) (by show ByteArray.size ((⟨#[]⟩) ++ ((el v3 w7).fText)) ≤ 1000000000; rw [ByteArray.size_append]; first | omega | (rw [size_e0]; omega))); exact h)) (show (gwk1300_6 : Nat) = gwk1300_6 ∧ True from ⟨rfl, trivial⟩) z)) (by kernel_rfl) ?_
        refine LP (fun N M S => ∃ x7 : Nat, ∃ gxb9_1 : Nat, ∃ xb9_1 : ByteArray, (w7 < x7) ∧ (x7 ≤ v3.length) ∧ (xb9_1.size ≤ wl wInline (v3.take x7)) ∧ (0 < xb9_1.size) ∧ (v3.length - x7 < N) ∧ M = mrgL_L2 l v3 v12 w6 w7 (mrgL_L0 l n0) (mrgL_L1 l v3 v12 (mrgL_L0 l n0) n1) N x7 xb9_1 ∧ S = (sx 86 [(3, (.own (203, 42) (gv3) 10 (v3.map aInline))), (6, (.own (206, 42) (gw6) 10 (w6.map aInline))), (7, (jI (((x7 : Nat) : Int)))), (8, (.ptr 8 0)), (9, (.ptr 9 0))] [(9, (.cells 85 [(.son 9), (.own (1300, 6) (gxb9_1) 1 (bytesAV xb9_1))])), (8, (.cells 41 (sInline (el v3 w7))))] [((1300, 6), gxb9_1), ((206, 42), gw6), ((203, 42), gv3)])) (by kernel_rfl) ⟨_, gwk1300_6 + 1, _, by first | omega | assumption | (simp only [lenM_eq]; omega) | (simp; done) | (simp; omega), by first | omega | assumption | (simp only [lenM_eq]; omega) | (simp; done) | (simp; omega), by rw [ByteArray.size_append, size_e0]; omega, by rw [ByteArray.size_append, size_e0]; exact Nat.lt_of_lt_of_le (hq1 h4aap) (by omega), by omega, rfl, rfl⟩ (WK (by kernel_rfl)) ?_
        rintro n2 M S ⟨x7, gxb9_1, xb9_1, hx, hx2, hx3, hx4, hF2, rfl, rfl⟩
        obtain ⟨n2, rfl⟩ : ∃ k, n2 = k + 1 := ⟨n2 - 1, by omega⟩
        refine UF (mrgL_L2.eq_2 ..) ?_
        have hv8 := wl_take_le (w := wInline) v3 x7
        refine GO (tn 5 (kj (decide ((((x7 : Nat) : Int) : Int) < ((lenM aInline v3 : Nat) : Int))) (tn 2 (he (fun h => by have j0 := h.2; have := lenM_eq aInline v3; have j0p := of_decide_eq_true j0; have hce2 := wl_el (w := wInline) (l := v3) (i := x7) (by omega); have hcw2 := wInline_eq (el v3 x7); simp only [wStr, w1] at hcw2; have htk2 := wl_take (w := wInline) (l := v3) (i := x7) (by omega); exact (el_aInline v3 x7 (by first | omega | (simp only [lenM_eq, true_and]; omega)))) (tn 3 z))) z z)) (by kernel_rfl) ?_
        refine CS (fun h5 => ?_) (fun h5 => ?_)
        · have := lenM_eq aInline v3
          obtain ⟨h5a, h5o⟩ := cond_ff h5
          have := lenM_eq aInline v3
          have h5ap := of_decide_eq_true h5a
          have hce2 := wl_el (w := wInline) (l := v3) (i := x7) (by omega)
          have hcw2 := wInline_eq (el v3 x7)
          simp only [wStr, w1] at hcw2
          have htk2 := wl_take (w := wInline) (l := v3) (i := x7) (by omega)
          have h5op := eq_of_beq h5o
          refine GO (kb h5 (tn 2 (ke (el_aInline v3 x7 (by first | omega | (simp only [lenM_eq, true_and]; omega))) (tn 2 (kg (show CallTo Tryz.prog 62 [(.ptr 9 0), (jS ((el v3 x7).fText))] [(9, (.cells 85 [(.son 9), (.own (1300, 6) (gxb9_1) 1 (bytesAV xb9_1))]))] [((1300, 6), gxb9_1)] (.av (.tup [(vI (((ByteArray.size ((el v3 x7).fText) : Nat) : Int))), (.val (.nilIface))])) [(9, (.cells 85 [(.son 9), (.own (1300, 6) (gxb9_1 + 1) 1 (bytesAV (xb9_1 ++ ((el v3 x7).fText))))]))] [((1300, 6), gxb9_1 + 1)] from (by have h := CallTo_ren (swap_inv (9, 0) (1000, 0) rfl) (WriteString_to (xb9_1, gxb9_1) ((el v3 x7).fText) (by show ByteArray.size (xb9_1 ++ ((el v3 x7).fText)) ≤ 1000000000; rw [ByteArray.size_append]; first | omega | (rw [size_e0]; omega))); exact h)) (show (gxb9_1 : Nat) = gxb9_1 ∧ True from ⟨rfl, trivial⟩) (tn 1 (kn (wrE ((((x7 : Nat) : Int)) + 1) (((x7 + 1 : Nat) : Int)) (by omega)) (tn 1 z)))))))) (by kernel_rfl) ?_
          exact AG ⟨_, gxb9_1 + 1, _, by first | omega | assumption | (simp only [lenM_eq]; omega) | (simp; done) | (simp; omega), by first | omega | assumption | (simp only [lenM_eq]; omega) | (simp; done) | (simp; omega), by rw [ByteArray.size_append]; omega, by rw [ByteArray.size_append]; omega, by omega, rfl, rfl⟩ (WK (by kernel_rfl)) (by kernel_rfl) (Nat.lt_succ_self _)
        · have := lenM_eq aInline v3
          refine GO (kb h5 z) (by kernel_rfl) ?_
          refine OUT (kg (show CallTo Tryz.prog 43 [(.ptr 9 0)] [(9, (.cells 85 [(.son 9), (.own (1300, 6) (gxb9_1) 1 (bytesAV xb9_1))]))] [((1300, 6), gxb9_1)] (jS (xb9_1)) [(9, (.cells 85 [(.son 9), (jL (bytesAV xb9_1))]))] [((1300, 6), gxb9_1 + 1)] from (by have h := CallTo_ren (swap_inv (9, 0) (1000, 0) rfl) (String_to (.son 1000) 1300 (gxb9_1) xb9_1 (by omega) (by omega)); exact h)) (show (gxb9_1 : Nat) = gxb9_1 ∧ True from ⟨rfl, trivial⟩) (tn 4 (kp (show Uni 10 [(.agg [(vI ((el v3 w7).fKind)), (vS (xb9_1)), (vS ((el v3 w7).fDest)), (vS ((el v3 w7).fTitle)), (vS (((el v3 w7).fAttr).fID)), (.sl ((((el v3 w7).fAttr).fClasses).map strAV)), (.sl ((((el v3 w7).fAttr).fPairs).map aPair)), (.sl (((el v3 w7).fArgs).map strAV)), (.sl (((el v3 w7).fCites).map aCited)), (.sl (((el v3 w7).fKids).map aInline))])] from (uni_one rfl rfl)) (kp (show (gw6 : Nat) = gw6 ∧ Uni 10 [(.agg [(vI ((el v3 w7).fKind)), (vS (xb9_1)), (vS ((el v3 w7).fDest)), (vS ((el v3 w7).fTitle)), (vS (((el v3 w7).fAttr).fID)), (.sl ((((el v3 w7).fAttr).fClasses).map strAV)), (.sl ((((el v3 w7).fAttr).fPairs).map aPair)), (.sl (((el v3 w7).fArgs).map strAV)), (.sl (((el v3 w7).fCites).map aCited)), (.sl (((el v3 w7).fKids).map aInline))])] ∧ (((w6.map aInline) : List AV).length + ([(.agg [(vI ((el v3 w7).fKind)), (vS (xb9_1)), (vS ((el v3 w7).fDest)), (vS ((el v3 w7).fTitle)), (vS (((el v3 w7).fAttr).fID)), (.sl ((((el v3 w7).fAttr).fClasses).map strAV)), (.sl ((((el v3 w7).fAttr).fPairs).map aPair)), (.sl (((el v3 w7).fArgs).map strAV)), (.sl (((el v3 w7).fCites).map aCited)), (.sl (((el v3 w7).fKids).map aInline))])] : List AV).length) * 192 ≤ 140737488355328 from ⟨rfl, uni_one rfl rfl, by first | omega | (simp; done) | (simp; omega)⟩) (kw (ap1_aInline w6 (DInline.mk ((el v3 w7).fKind) xb9_1 ((el v3 w7).fDest) ((el v3 w7).fTitle) ((el v3 w7).fAttr) ((el v3 w7).fArgs) ((el v3 w7).fCites) ((el v3 w7).fKids))) (tn 1 z)))))) (by kernel_rfl) ?_
          exact AG ⟨gw6 + 1, _, _, gxb9_1 + 1, by first | omega | assumption | (simp only [lenM_eq]; omega) | (simp; done) | (simp; omega), by first | omega | assumption | (simp only [lenM_eq]; omega) | (simp; done) | (simp; omega), by omega, rfl, rfl⟩ (WK (by kernel_rfl)) (by kernel_rfl) (Nat.lt_succ_self _)
      · have := lenM_eq aInline v3
        refine GO (kb h4 (tn 2 (kp (show Uni 10 [(cInline (el v3 w7))] from (uni_one rfl rfl)) (kp (show (gw6 : Nat) = gw6 ∧ Uni 10 [(cInline (el v3 w7))] ∧ (((w6.map aInline) : List AV).length + ([(cInline (el v3 w7))] : List AV).length) * 192 ≤ 140737488355328 from ⟨rfl, uni_one rfl rfl, by first | omega | (simp; done) | (simp; omega)⟩) (kw (ap1_aInline w6 (el v3 w7)) (tn 1 z)))))) (by kernel_rfl) ?_
        exact AG ⟨gw6 + 1, _, _, gwk1300_6, by first | omega | assumption | (simp only [lenM_eq]; omega) | (simp; done) | (simp; omega), by first | omega | assumption | (simp only [lenM_eq]; omega) | (simp; done) | (simp; omega), by omega, rfl, rfl⟩ (WK (by kernel_rfl)) (by kernel_rfl) (Nat.lt_succ_self _)
    · have := lenM_eq aInline v3
      refine GO (kb h3 z) (by kernel_rfl) ?_
      refine OUT (tn 2 z) (by kernel_rfl) ?_
      exact EN (by kernel_rfl)
end Go.Proofs.YtdaglbjgdakmcaaGreat
namespace Go.Proofs.YtdaglbjgdakmcaaGreat
open Go Go.Eng
theorem dT {p : Prop} [Decidable p] (h : p) : decide p = true := decide_eq_true h
theorem dF {p : Prop} [Decidable p] (h : ¬ p) : decide p = false := decide_eq_false h
theorem condE {α : Type} (b : Bool) (x y : α) : cond b x y = if b = true then x else y := by cases b <;> rfl
/-- A line break. -/
def brk2 (k : Int) : Bool := cond (k == 2) true (k == 3)
def sg : Bool → List DInline → List DInline
  | _, [] => []
  | a, x :: r => (if cond (x.fKind != 2) true (!a) = true then x :: sg (brk2 x.fKind) r else sg (brk2 x.fKind) r)
theorem sngL_L0_eq (l : List DInline) : ∀ (n : Nat) (acc : List DInline) (a : Bool) (i : Nat), l.length - i < n → sngL_L0 l n acc a i = acc ++ sg a (l.drop i)
  | 0, acc, a, i, h => by omega
  | n + 1, acc, a, i, h => by
    have hl := lenM_eq aInline l
    rw [sngL_L0]
    by_cases hi : i < l.length
    · rw [dT (by omega), cond_true, drop_el hi, sg, condE]
      show (if cond ((el l i).fKind != 2) true (!a) = true then _ else _) = _
      split
      · rw [sngL_L0_eq l n _ _ _ (by omega)]; simp [brk2]
      · rw [sngL_L0_eq l n _ _ _ (by omega)]; simp [brk2]
    · rw [dF (by omega), cond_false, List.drop_eq_nil_of_le (by omega)]; simp [sg]
theorem sngL_eq (l : List DInline) : sngL l = sg false l := by
  rw [sngL, sngL_L0_eq l _ _ _ _ (by omega)]; simp
theorem sg_sub : ∀ (a : Bool) (l : List DInline) (x : DInline), x ∈ sg a l → x ∈ l
  | a, [], x, h => by simp [sg] at h
  | a, y :: r, x, h => by
    rw [sg] at h
    split at h
    · simp only [List.mem_cons] at h ⊢
      rcases h with h | h
      · exact .inl h
      · exact .inr (sg_sub _ r x h)
    · exact List.mem_cons_of_mem _ (sg_sub _ r x h)
theorem sg_wl {w : DInline → Nat} : ∀ (a : Bool) (l : List DInline), wl w (sg a l) ≤ wl w l
  | a, [] => by simp [sg]
  | a, y :: r => by
    have := sg_wl (w := w) (brk2 y.fKind) r
    rw [sg]; split <;> simp only [wl] <;> omega
/-- Without empty texts. -/
def fltq (x : DInline) : Bool := cond (x.fKind != 1) true (!eqs x.fText ⟨#[]⟩)
def flt (l : List DInline) : List DInline := l.filter fltq
def setText (x : DInline) (s : ByteArray) : DInline := DInline.mk x.fKind s x.fDest x.fTitle x.fAttr x.fArgs x.fCites x.fKids
def mga : DInline → List DInline → List DInline
  | x, [] => [x]
  | x, y :: r => if x.fKind = 1 ∧ y.fKind = 1 then mga (setText x (x.fText ++ y.fText)) r else x :: mga y r
def mg : List DInline → List DInline
  | [] => []
  | x :: r => mga x r
theorem setText_self (x : DInline) : setText x x.fText = x := by cases x; rfl
theorem empty_app (s : ByteArray) : (⟨#[]⟩ : ByteArray) ++ s = s := by
  cases s; apply ByteArray.ext; simp [ByteArray.data_append]
theorem mrgL_L2_eq (l v3 : List DInline) (v12 : Nat) (w6 : List DInline) (w7 : Nat) (k0 k1 : List DInline → Nat → List DInline) (hx : (el v3 w7).fKind = 1)
    (hk : ∀ w j, w7 < j → k1 w j = w ++ mg (v3.drop j)) : ∀ (n j : Nat) (xb : ByteArray), w7 < j → v3.length - j < n → mrgL_L2 l v3 v12 w6 w7 k0 k1 n j xb = w6 ++ mga (setText (el v3 w7) xb) (v3.drop j)
  | 0, j, xb, hj, h => by omega
  | n + 1, j, xb, hj, h => by
    have hl := lenM_eq aInline v3
    rw [mrgL_L2]
    by_cases hi : j < v3.length
    · rw [dT (by omega), cond_true, drop_el hi, mga]
      by_cases hk1 : (el v3 j).fKind = 1
      · rw [show ((el v3 j).fKind == 1) = true from beq_iff_eq.2 hk1, cond_true, mrgL_L2_eq l v3 v12 w6 w7 k0 k1 hx hk n _ _ (by omega) (by omega), if_pos ⟨hx, hk1⟩]
        rfl
      · rw [show ((el v3 j).fKind == 1) = false from beq_eq_false_iff_ne.2 hk1, cond_false, hk _ _ hj, if_neg (fun h => hk1 h.2), drop_el hi, List.append_assoc]
        rfl
    · rw [dF (by omega), cond_false, cond_false, hk _ _ hj, List.drop_eq_nil_of_le (by omega)]
      simp [mga, mg, setText]
theorem mrgL_L1_eq (l v3 : List DInline) (v12 : Nat) (k0 : List DInline → Nat → List DInline) : ∀ (n : Nat) (w6 : List DInline) (w7 : Nat), v3.length - w7 < n → mrgL_L1 l v3 v12 k0 n w6 w7 = w6 ++ mg (v3.drop w7)
  | 0, w6, w7, h => by omega
  | n + 1, w6, w7, h => by
    have hl := lenM_eq aInline v3
    rw [mrgL_L1]
    by_cases hi : w7 < v3.length
    · rw [dT (by omega), cond_true, drop_el hi]
      by_cases h1 : (el v3 w7).fKind = 1
      · by_cases h2 : w7 + 1 < v3.length
        · by_cases h3 : (el v3 (w7 + 1)).fKind = 1
          · rw [show cond (cond ((el v3 w7).fKind == 1) (decide ((((w7 + 1 : Nat) : Int) : Int) < ((lenM aInline v3 : Nat) : Int))) false) ((el v3 (w7 + 1)).fKind == 1) false = true from by
              rw [beq_iff_eq.2 h1, cond_true, dT (by omega), cond_true, beq_iff_eq.2 h3], cond_true]
            rw [mrgL_L2_eq l v3 v12 w6 w7 k0 _ h1 (fun w j hj => ?_) _ _ _ (by omega) (by omega), empty_app, setText_self]
            · rfl
            · by_cases hjl : v3.length - j < n
              · exact mrgL_L1_eq l v3 v12 k0 n w j hjl
              · omega
          · rw [show cond (cond ((el v3 w7).fKind == 1) (decide ((((w7 + 1 : Nat) : Int) : Int) < ((lenM aInline v3 : Nat) : Int))) false) ((el v3 (w7 + 1)).fKind == 1) false = false from by
              rw [beq_iff_eq.2 h1, cond_true, dT (by omega), cond_true, beq_eq_false_iff_ne.2 h3], cond_false, mrgL_L1_eq l v3 v12 k0 n _ _ (by omega), drop_el h2]
            simp [mg, mga, h3]
        · rw [show cond (cond ((el v3 w7).fKind == 1) (decide ((((w7 + 1 : Nat) : Int) : Int) < ((lenM aInline v3 : Nat) : Int))) false) ((el v3 (w7 + 1)).fKind == 1) false = false from by
            rw [beq_iff_eq.2 h1, cond_true, dF (by omega), cond_false], cond_false, mrgL_L1_eq l v3 v12 k0 n _ _ (by omega), List.drop_eq_nil_of_le (i := w7 + 1) (by omega)]
          simp [mg, mga]
      · rw [show cond (cond ((el v3 w7).fKind == 1) (decide ((((w7 + 1 : Nat) : Int) : Int) < ((lenM aInline v3 : Nat) : Int))) false) ((el v3 (w7 + 1)).fKind == 1) false = false from by
          rw [beq_eq_false_iff_ne.2 h1, cond_false, cond_false], cond_false, mrgL_L1_eq l v3 v12 k0 n _ _ (by omega)]
        by_cases h2 : w7 + 1 < v3.length
        · rw [drop_el h2]; simp [mg, mga, h1]
        · rw [List.drop_eq_nil_of_le (i := w7 + 1) (by omega)]; simp [mg, mga]
    · rw [dF (by omega), cond_false, List.drop_eq_nil_of_le (by omega)]; simp [mg]
theorem mrgL_L0_eq (l : List DInline) : ∀ (n : Nat) (acc : List DInline) (i : Nat), l.length - i < n → mrgL_L0 l n acc i = mg (acc ++ flt (l.drop i))
  | 0, acc, i, h => by omega
  | n + 1, acc, i, h => by
    have hl := lenM_eq aInline l
    rw [mrgL_L0]
    by_cases hi : i < l.length
    · rw [dT (by omega), cond_true, drop_el hi, condE]
      show (if fltq (el l i) = true then _ else _) = _
      split
      · rename_i hq; rw [mrgL_L0_eq l n _ _ (by omega), flt, flt, List.filter_cons, if_pos hq, List.append_assoc]; rfl
      · rename_i hq; rw [mrgL_L0_eq l n _ _ (by omega), flt, flt, List.filter_cons, if_neg hq]
    · rw [dF (by omega), cond_false, mrgL_L1_eq l acc i (mrgL_L0 l n) ((acc.length - (0)) + 1) [] 0 (by omega)]; simp [flt, List.drop_eq_nil_of_le (show l.length ≤ i by omega)]
theorem mrgL_eq (l : List DInline) : mrgL l = mg (flt l) := by
  rw [mrgL, mrgL_L0_eq l _ _ _ (by omega)]; simp
theorem flt_wl {w : DInline → Nat} : ∀ l : List DInline, wl w (flt l) ≤ wl w l
  | [] => by simp [flt]
  | x :: l => by
    have := flt_wl (w := w) l
    rw [flt, List.filter_cons]; split
    · simp only [wl]; simp only [flt] at this; omega
    · simp only [wl]; simp only [flt] at this; omega
theorem mga_wl : ∀ (r : List DInline) (x : DInline), wl wInline (mga x r) ≤ wInline x + wl wInline r
  | [], x => by simp [mga, wl]
  | y :: r, x => by
    rw [mga]; split
    · have h1 := mga_wl r (setText x (x.fText ++ y.fText))
      have h2 := wInline_eq x; have h3 := wInline_eq y; have h4 := wInline_eq (setText x (x.fText ++ y.fText))
      simp only [setText, wStr, ByteArray.size_append] at h1 h2 h3 h4
      simp only [wl]; simp only [setText]; omega
    · have h1 := mga_wl r y
      simp only [wl]; omega
theorem mg_wl : ∀ l : List DInline, wl wInline (mg l) ≤ wl wInline l
  | [] => by simp [mg]
  | x :: r => by rw [mg]; exact mga_wl r x
theorem mrgL_bd (l : List DInline) : wl wInline (mrgL l) ≤ wl wInline l := by rw [mrgL_eq]; exact Nat.le_trans (mg_wl _) (flt_wl _)
theorem sngL_bd (l : List DInline) : wl wInline (sngL l) ≤ wl wInline l := by rw [sngL_eq]; exact sg_wl _ _
/-- Without soft breaks ahead, without breaks behind. -/
def dropS : List DInline → List DInline
  | [] => []
  | x :: r => if x.fKind = 2 then dropS r else x :: r
def dropB : List DInline → List DInline
  | [] => []
  | x :: r => match dropB r with
    | [] => if brk2 x.fKind = true then [] else [x]
    | y :: r' => x :: y :: r'
theorem dropB_snoc (l : List DInline) (x : DInline) : dropB (l ++ [x]) = if brk2 x.fKind = true then dropB l else l ++ [x] := by
  induction l with
  | nil => simp [dropB]
  | cons y l ih =>
    by_cases hb : brk2 x.fKind = true
    · rw [if_pos hb] at ih ⊢
      simp only [List.cons_append, dropB, ih]
    · rw [if_neg hb] at ih ⊢
      simp only [List.cons_append, dropB, ih]
      cases l <;> rfl
theorem take_last {l : List DInline} (h : 0 < l.length) : l = l.take (l.length - 1) ++ [el l (l.length - 1)] := by
  have h1 : l.drop (l.length - 1) = [el l (l.length - 1)] := by rw [drop_el (by omega), List.drop_eq_nil_of_le (by omega)]
  rw [← h1, List.take_append_drop]
theorem trmL_L1_eq (l v0 : List DInline) (k0 : List DInline → List DInline) : ∀ (n : Nat) (w0 : List DInline), w0.length < n → trmL_L1 l v0 k0 n w0 = dropB w0
  | 0, w0, h => by omega
  | n + 1, w0, h => by
    have hl := lenM_eq aInline w0
    rw [trmL_L1]
    by_cases h0 : 0 < w0.length
    · have e1 : Int.toNat (((lenM aInline w0 : Nat) : Int) - 1) = w0.length - 1 := by omega
      rw [dT (by omega), cond_true, e1]
      rw [show dropB w0 = dropB (w0.take (w0.length - 1) ++ [el w0 (w0.length - 1)]) from by rw [← take_last h0], dropB_snoc]
      show cond (brk2 (el w0 (w0.length - 1)).fKind) _ _ = _
      rw [condE]
      split
      · rw [trmL_L1_eq l v0 k0 n _ (by simp only [List.length_take, List.length_drop]; omega)]; simp
      · exact take_last h0
    · have : w0 = [] := List.eq_nil_of_length_eq_zero (by omega)
      subst this; simp [dropB, lenM]
theorem trmL_L0_eq (l : List DInline) : ∀ (n : Nat) (v0 : List DInline), v0.length < n → trmL_L0 l n v0 = dropB (dropS v0)
  | 0, v0, h => by omega
  | n + 1, v0, h => by
    have hl := lenM_eq aInline v0
    rw [trmL_L0]
    match v0, h with
    | [], h => rw [trmL_L1_eq _ _ _ _ _ (by simp)]; simp [dropS, lenM]
    | x :: r, h =>
      rw [dT (by simp only [List.length_cons] at hl; omega), cond_true]
      show cond (x.fKind == 2) _ _ = _
      by_cases h2 : x.fKind = 2
      · rw [beq_iff_eq.2 h2, cond_true, trmL_L0_eq l n _ (by simp only [List.length_take, List.length_drop, List.length_cons] at h ⊢; omega)]
        simp [dropS, h2, lenM]
      · rw [beq_eq_false_iff_ne.2 h2, cond_false, trmL_L1_eq _ _ _ _ _ (by omega)]
        simp [dropS, h2]
theorem trmL_eq (l : List DInline) : trmL l = dropB (dropS l) := trmL_L0_eq l _ l (by omega)
theorem dropS_wl {w : DInline → Nat} : ∀ l : List DInline, wl w (dropS l) ≤ wl w l
  | [] => by simp [dropS]
  | x :: r => by have := dropS_wl (w := w) r; rw [dropS]; split <;> simp only [wl] <;> omega
theorem dropB_wl {w : DInline → Nat} : ∀ l : List DInline, wl w (dropB l) ≤ wl w l
  | [] => by simp [dropB]
  | x :: r => by
    have := dropB_wl (w := w) r
    rw [dropB]; split
    · split <;> simp only [wl] <;> omega
    · rename_i y r' he; rw [he] at this; simp only [wl] at this ⊢; omega
theorem trmL_bd (l : List DInline) : wl wInline (trmL l) ≤ wl wInline l := by rw [trmL_eq]; exact Nat.le_trans (dropB_wl _) (dropS_wl _)
/-- The value of an attribute is short. -/
theorem getP_L0_sz (a : DAttr) (k : ByteArray) : ∀ (n i : Nat), (getP_L0 a k n i).1.size ≤ wl wPair a.fPairs
  | 0, i => by show (0 : Nat) ≤ _; omega
  | n + 1, i => by
    have hl := lenM_eq aPair a.fPairs
    rw [getP_L0]
    refine condP (fun r : ByteArray × Bool => r.1.size ≤ wl wPair a.fPairs) (fun q => condP (fun r : ByteArray × Bool => r.1.size ≤ wl wPair a.fPairs) (fun _ => ?_) (fun _ => getP_L0_sz a k n _)) (fun _ => Nat.zero_le _)
    have q1 := of_decide_eq_true q
    have hce := wl_el (w := wPair) (l := a.fPairs) (i := i) (by omega)
    simp only [wPair, wStr] at hce
    show (el a.fPairs i).fValue.size ≤ _
    omega
theorem getP_sz (a : DAttr) (k : ByteArray) : (getP a k).1.size ≤ wAttr a := by
  have h1 := getP_L0_sz a k ((List.length a.fPairs - (0)) + 1) 0
  have h2 := wAttr_eq a
  rw [getP]; omega
theorem wInline_mk (k : Int) (t d ti : ByteArray) (a : DAttr) (ar : List ByteArray) (c : List DCited) (ks : List DInline) : wInline (DInline.mk k t d ti a ar c ks) = 1 + 1 + (t.size + 1) + (d.size + 1) + (ti.size + 1) + wAttr a + wl wStr ar + wl wCited c + wl wInline ks := wInline_eq _
theorem wBlock_mk (k lv : Int) (i t d ti : ByteArray) (a : DAttr) (li : List DInline) (ks : List DBlock) : wBlock (DBlock.mk k lv i t d ti a li ks) = 1 + 1 + 1 + (i.size + 1) + (t.size + 1) + (d.size + 1) + (ti.size + 1) + wAttr a + wl wInline li + wl wBlock ks := wBlock_eq _
def setKids (x : DInline) (ks : List DInline) : DInline := DInline.mk x.fKind x.fText x.fDest x.fTitle x.fAttr x.fArgs x.fCites ks
/-- Emphasis. -/
def emk (k : Int) : Bool := cond (k == 6) (k == 6) (cond (k == 7) (k == 7) (k == 8))
def tdk (ks : List DInline) (x : DInline) : List DInline := if emk x.fKind = true ∧ ks = [] then [] else [setKids x ks]
theorem setKids_wl (x : DInline) (ks : List DInline) (h : wl wInline ks ≤ wl wInline x.fKids) : wInline (setKids x ks) ≤ wInline x := by
  rw [setKids, wInline_mk, wInline_eq x]; simp only [wStr, w1]; omega
theorem size_cond (b : Bool) (x y : ByteArray) : (cond b x y).size ≤ x.size + y.size := by cases b <;> simp
/-- A condition's string. -/
def whenA : ByteArray := ⟨#[119, 104, 101, 110]⟩
end Go.Proofs.YtdaglbjgdakmcaaGreat
namespace Go.Proofs.YtdaglbjgdakmcaaGreat
open Go Go.Eng
def tdyLS_L0 (rec : (List DInline) → List DInline) (l : List DInline) : Nat → (List DInline) → Nat → List DInline
  | 0, _, _ => default
  | n0 + 1, v3, v8 => cond (decide ((((v8 : Nat) : Int) : Int) < ((lenM aInline l : Nat) : Int))) (cond (cond ((((el l v8).fKind : Int) == 6)) ((((el l v8).fKind : Int) == 6)) (cond ((((el l v8).fKind : Int) == 7)) ((((el l v8).fKind : Int) == 7)) ((((el l v8).fKind : Int) == 8)))) (cond (decide ((((lenM aInline (rec ((el l v8).fKids)) : Nat) : Int) : Int) > 0)) (tdyLS_L0 rec l n0 (v3 ++ ([DInline.mk ((el l v8).fKind) ((el l v8).fText) ((el l v8).fDest) ((el l v8).fTitle) ((el l v8).fAttr) ((el l v8).fArgs) ((el l v8).fCites) (rec ((el l v8).fKids))])) (v8 + 1)) (tdyLS_L0 rec l n0 v3 (v8 + 1))) (tdyLS_L0 rec l n0 (v3 ++ ([DInline.mk ((el l v8).fKind) ((el l v8).fText) ((el l v8).fDest) ((el l v8).fTitle) ((el l v8).fAttr) ((el l v8).fArgs) ((el l v8).fCites) (rec ((el l v8).fKids))])) (v8 + 1))) (sngL (mrgL v3))
def tdyLS (rec : (List DInline) → List DInline) (l : List DInline) : List DInline := tdyLS_L0 rec l ((List.length l - (0)) + 1) ([]) 0
set_option maxRecDepth 100000 in
set_option maxHeartbeats 4000000 in
theorem tdyL_st (rec : (List DInline) → List DInline) (l : List DInline) (hl : wl wInline l ≤ 536870912) (hrec : ∀ (l' : List DInline), wl wInline l' < wl wInline l → wl wInline l' ≤ 536870912 → CallTo Tryz.prog 48 [(jL ((l').map aInline))] [] [] (jL ((rec l').map aInline)) [] []) (hrb : ∀ (l' : List DInline), wl wInline l' < wl wInline l → wl wInline l' ≤ 536870912 → wl wInline (rec l') ≤ wl wInline l') : CallTo Tryz.prog 48 [(jL (l.map aInline))] [] [] (jL ((tdyLS rec l).map aInline)) [] [] := by
  have hw_0 := wl_len (w := wInline) wInline_pos l
  refine BEG (fun r : List DInline => (jL (r.map aInline))) (tdyLS rec l) Tryz.func48 (by kernel_rfl) ?_
  refine UF (tdyLS.eq_1 ..) ?_
  refine GO (tn 5 z) (by kernel_rfl) ?_
  refine LP (fun N M S => ∃ gv3 : Nat, ∃ v3 : List DInline, ∃ v8 : Nat, (wl wInline v3 ≤ wl wInline (l.take v8)) ∧ (v3.length ≤ v8) ∧ (v8 ≤ l.length) ∧ (List.length l - v8 < N) ∧ M = tdyLS_L0 rec l N v3 v8 ∧ S = (sx 38 [(3, (.own (203, 42) (gv3) 10 (v3.map aInline))), (6, (jL (l.map aInline))), (7, (jI (((lenM aInline l : Nat) : Int)))), (8, (jI (((v8 : Nat) : Int))))] [] [((203, 42), gv3)])) (by kernel_rfl) ⟨0, _, _, by simp [wl], by first | omega | assumption | (simp only [lenM_eq]; omega) | (simp; done) | (simp; omega), by first | omega | assumption | (simp only [lenM_eq]; omega) | (simp; done) | (simp; omega), by omega, rfl, rfl⟩ (WKf [(3, (.own (203, 42) ((0)) 10 (([]).map aInline)))] (ac (show ((([]).map aInline) : List AV) = [] ∧ 0 < 42 ∧ ((0) : Nat) = (0) from ⟨rfl, by decide, rfl⟩) an) (by kernel_rfl)) ?_
  rintro n0 M S ⟨gv3, v3, v8, hv, hv2, hi, hF0, rfl, rfl⟩
  obtain ⟨n0, rfl⟩ : ∃ k, n0 = k + 1 := ⟨n0 - 1, by omega⟩
  refine UF (tdyLS_L0.eq_2 ..) ?_
  have htl := wl_take_le (w := wInline) l v8
  refine GO (tn 1 z) (by kernel_rfl) ?_
  refine CSd (fun h1p h1 => ?_) (fun h1p h1 => ?_)
  · have := lenM_eq aInline l
    have hce := wl_el (w := wInline) (l := l) (i := v8) (by omega)
    have hcw := wInline_eq (el l v8)
    simp only [wStr, w1] at hcw
    have htk := wl_take (w := wInline) (l := l) (i := v8) (by omega)
    have := hrb ((el l v8).fKids) (by first | assumption | omega | decide | (simp; done) | (simp; omega)) (by first | assumption | omega | decide | (simp; done) | (simp; omega))
    refine GO (kb h1 (ke (el_aInline l v8 (by first | omega | (simp only [lenM_eq, true_and]; omega))) (tn 5 (kc (hrec ((el l v8).fKids) (by first | assumption | omega | decide | (simp; done) | (simp; omega)) (by first | assumption | omega | decide | (simp; done) | (simp; omega))) (tn 6 (ks ((((el l v8).fKind : Int) == 6)) [22] z (tn 2 (ks ((((el l v8).fKind : Int) == 7)) [22] z (tn 2 z) z)) z)))))) (by kernel_rfl) ?_
    refine CS (fun h2 => ?_) (fun h2 => ?_)
    · refine GO (kb h2 (tn 4 z)) (by kernel_rfl) ?_
      refine CSd (fun h3p h3 => ?_) (fun h3p h3 => ?_)
      · have := lenM_eq aInline (rec ((el l v8).fKids))
        refine GO (kb h3 (tn 2 (kp (show Uni 10 [(.agg [(vI ((el l v8).fKind)), (vS ((el l v8).fText)), (vS ((el l v8).fDest)), (vS ((el l v8).fTitle)), (vS (((el l v8).fAttr).fID)), (.sl ((((el l v8).fAttr).fClasses).map strAV)), (.sl ((((el l v8).fAttr).fPairs).map aPair)), (.sl (((el l v8).fArgs).map strAV)), (.sl (((el l v8).fCites).map aCited)), (.sl ((rec ((el l v8).fKids)).map aInline))])] from (uni_one rfl rfl)) (kp (show (gv3 : Nat) = gv3 ∧ Uni 10 [(.agg [(vI ((el l v8).fKind)), (vS ((el l v8).fText)), (vS ((el l v8).fDest)), (vS ((el l v8).fTitle)), (vS (((el l v8).fAttr).fID)), (.sl ((((el l v8).fAttr).fClasses).map strAV)), (.sl ((((el l v8).fAttr).fPairs).map aPair)), (.sl (((el l v8).fArgs).map strAV)), (.sl (((el l v8).fCites).map aCited)), (.sl ((rec ((el l v8).fKids)).map aInline))])] ∧ (((v3.map aInline) : List AV).length + ([(.agg [(vI ((el l v8).fKind)), (vS ((el l v8).fText)), (vS ((el l v8).fDest)), (vS ((el l v8).fTitle)), (vS (((el l v8).fAttr).fID)), (.sl ((((el l v8).fAttr).fClasses).map strAV)), (.sl ((((el l v8).fAttr).fPairs).map aPair)), (.sl (((el l v8).fArgs).map strAV)), (.sl (((el l v8).fCites).map aCited)), (.sl ((rec ((el l v8).fKids)).map aInline))])] : List AV).length) * 192 ≤ 140737488355328 from ⟨rfl, uni_one rfl rfl, by first | omega | (simp; done) | (simp; omega)⟩) (kw (ap1_aInline v3 (DInline.mk ((el l v8).fKind) ((el l v8).fText) ((el l v8).fDest) ((el l v8).fTitle) ((el l v8).fAttr) ((el l v8).fArgs) ((el l v8).fCites) (rec ((el l v8).fKids)))) (tn 1 (kn (wrE ((((v8 : Nat) : Int)) + 1) (((v8 + 1 : Nat) : Int)) (by omega)) (tn 1 z)))))))) (by kernel_rfl) ?_
        exact AG ⟨gv3 + 1, _, _, by first | (simp only [wl_append, wl, wInline_mk]; omega) | omega, by first | omega | assumption | (simp only [lenM_eq]; omega) | (simp; done) | (simp; omega), by first | omega | assumption | (simp only [lenM_eq]; omega) | (simp; done) | (simp; omega), by omega, rfl, rfl⟩ (WK (by kernel_rfl)) (by kernel_rfl) (Nat.lt_succ_self _)
      · have := lenM_eq aInline (rec ((el l v8).fKids))
        refine GO (kb h3 (kn (wrE ((((v8 : Nat) : Int)) + 1) (((v8 + 1 : Nat) : Int)) (by omega)) (tn 1 z))) (by kernel_rfl) ?_
        exact AG ⟨gv3, _, _, by first | (simp only [wl_append, wl, wInline_mk]; omega) | omega, by first | omega | assumption | (simp only [lenM_eq]; omega) | (simp; done) | (simp; omega), by first | omega | assumption | (simp only [lenM_eq]; omega) | (simp; done) | (simp; omega), by omega, rfl, rfl⟩ (WK (by kernel_rfl)) (by kernel_rfl) (Nat.lt_succ_self _)
    · refine GO (kb h2 (tn 2 (kp (show Uni 10 [(.agg [(vI ((el l v8).fKind)), (vS ((el l v8).fText)), (vS ((el l v8).fDest)), (vS ((el l v8).fTitle)), (vS (((el l v8).fAttr).fID)), (.sl ((((el l v8).fAttr).fClasses).map strAV)), (.sl ((((el l v8).fAttr).fPairs).map aPair)), (.sl (((el l v8).fArgs).map strAV)), (.sl (((el l v8).fCites).map aCited)), (.sl ((rec ((el l v8).fKids)).map aInline))])] from (uni_one rfl rfl)) (kp (show (gv3 : Nat) = gv3 ∧ Uni 10 [(.agg [(vI ((el l v8).fKind)), (vS ((el l v8).fText)), (vS ((el l v8).fDest)), (vS ((el l v8).fTitle)), (vS (((el l v8).fAttr).fID)), (.sl ((((el l v8).fAttr).fClasses).map strAV)), (.sl ((((el l v8).fAttr).fPairs).map aPair)), (.sl (((el l v8).fArgs).map strAV)), (.sl (((el l v8).fCites).map aCited)), (.sl ((rec ((el l v8).fKids)).map aInline))])] ∧ (((v3.map aInline) : List AV).length + ([(.agg [(vI ((el l v8).fKind)), (vS ((el l v8).fText)), (vS ((el l v8).fDest)), (vS ((el l v8).fTitle)), (vS (((el l v8).fAttr).fID)), (.sl ((((el l v8).fAttr).fClasses).map strAV)), (.sl ((((el l v8).fAttr).fPairs).map aPair)), (.sl (((el l v8).fArgs).map strAV)), (.sl (((el l v8).fCites).map aCited)), (.sl ((rec ((el l v8).fKids)).map aInline))])] : List AV).length) * 192 ≤ 140737488355328 from ⟨rfl, uni_one rfl rfl, by first | omega | (simp; done) | (simp; omega)⟩) (kw (ap1_aInline v3 (DInline.mk ((el l v8).fKind) ((el l v8).fText) ((el l v8).fDest) ((el l v8).fTitle) ((el l v8).fAttr) ((el l v8).fArgs) ((el l v8).fCites) (rec ((el l v8).fKids)))) (tn 1 (kn (wrE ((((v8 : Nat) : Int)) + 1) (((v8 + 1 : Nat) : Int)) (by omega)) (tn 1 z)))))))) (by kernel_rfl) ?_
      exact AG ⟨gv3 + 1, _, _, by first | (simp only [wl_append, wl, wInline_mk]; omega) | omega, by first | omega | assumption | (simp only [lenM_eq]; omega) | (simp; done) | (simp; omega), by first | omega | assumption | (simp only [lenM_eq]; omega) | (simp; done) | (simp; omega), by omega, rfl, rfl⟩ (WK (by kernel_rfl)) (by kernel_rfl) (Nat.lt_succ_self _)
  · have := lenM_eq aInline l
    refine GO (kb h1 z) (by kernel_rfl) ?_
    have := mrgL_bd v3
    have := sngL_bd (mrgL v3)
    refine OUT (tn 1 (kc (mrgL_to v3 (by first | assumption | omega | decide | (simp; done) | (simp; omega))) (kc (sngL_to (mrgL v3) (by first | assumption | omega | decide | (simp; done) | (simp; omega))) (tn 1 z)))) (by kernel_rfl) ?_
    exact EN (by kernel_rfl)
def tdyLN : Nat → (List DInline) → List DInline
  | 0, _ => default
  | n + 1, l => tdyLS (tdyLN n) l
theorem tdyLS_L0_eq (rec : (List DInline) → List DInline) (l : List DInline) : ∀ (n : Nat) (acc : List DInline) (i : Nat), l.length - i < n → tdyLS_L0 rec l n acc i = sngL (mrgL (acc ++ (l.drop i).flatMap (fun x => tdk (rec x.fKids) x)))
  | 0, acc, i, h => by omega
  | n + 1, acc, i, h => by
    have hl := lenM_eq aInline l
    rw [tdyLS_L0]
    by_cases hi : i < l.length
    · have hlk := lenM_eq aInline (rec (el l i).fKids)
      rw [dT (by omega), cond_true, drop_el hi, List.flatMap_cons, ← List.append_assoc]
      show cond (emk (el l i).fKind) (cond _ (tdyLS_L0 rec l n (acc ++ [setKids (el l i) (rec (el l i).fKids)]) (i + 1)) _) (tdyLS_L0 rec l n (acc ++ [setKids (el l i) (rec (el l i).fKids)]) (i + 1)) = _
      rw [tdyLS_L0_eq rec l n _ _ (by omega), tdyLS_L0_eq rec l n _ _ (by omega), tdk]
      cases hk : emk (el l i).fKind with
      | false => simp
      | true =>
        by_cases hz : rec (el l i).fKids = []
        · rw [dF (by rw [hz] at hlk ⊢; simp [lenM])]; simp [hz]
        · have := List.length_pos_iff.2 hz
          rw [dT (by omega)]; simp [hz]
    · rw [dF (by omega), cond_false, List.drop_eq_nil_of_le (by omega)]
      simp
theorem tdyLS_eq (rec : (List DInline) → List DInline) (l : List DInline) : tdyLS rec l = sngL (mrgL (l.flatMap (fun x => tdk (rec x.fKids) x))) := by
  rw [tdyLS, tdyLS_L0_eq rec l _ _ _ (by omega)]; simp
theorem tdk_wl (ks : List DInline) (x : DInline) (h : wl wInline ks ≤ wl wInline x.fKids) : wl wInline (tdk ks x) ≤ wInline x := by
  rw [tdk]; split
  · simp [wl]
  · have := setKids_wl x ks h; simp only [wl]; omega
theorem tdyLN_bd : ∀ (n : Nat) (l : List DInline), wl wInline l < n → wl wInline l ≤ 536870912 → wl wInline (tdyLN n l) ≤ wl wInline l
  | 0, l, h, _ => by omega
  | n + 1, l, h, hl => by
    rw [tdyLN, tdyLS_eq]
    refine Nat.le_trans (sngL_bd _) (Nat.le_trans (mrgL_bd _) (flat_wl (fun x hx => tdk_wl _ _ ?_)))
    have h1 := wl_mem (w := wInline) hx
    have h2 := wInline_eq x
    exact tdyLN_bd n x.fKids (by omega) (by omega)
theorem tdyLN_to : ∀ (n : Nat) (l : List DInline), wl wInline l < n → wl wInline l ≤ 536870912 → CallTo Tryz.prog 48 [(jL (l.map aInline))] [] [] (jL ((tdyLN n l).map aInline)) [] []
  | 0, l, h0, _ => absurd h0 (Nat.not_lt_zero _)
  | n + 1, l, h0, hl => by
    exact tdyL_st (tdyLN n) l hl (fun l' q1 hl' => tdyLN_to n l' (by omega) hl') (fun l' q1 hl' => tdyLN_bd n l' (by omega) hl')
def tdyL (l : List DInline) : List DInline := tdyLN (wl wInline l + 1) l
theorem tdyL_to (l : List DInline) (hl : wl wInline l ≤ 536870912) : CallTo Tryz.prog 48 [(jL (l.map aInline))] [] [] (jL ((tdyL l).map aInline)) [] [] := tdyLN_to _ l (Nat.lt_succ_self _) hl
theorem tdyL_bd (l : List DInline) (hl : wl wInline l ≤ 536870912) : wl wInline (tdyL l) ≤ wl wInline l := tdyLN_bd _ l (Nat.lt_succ_self _) hl
end Go.Proofs.YtdaglbjgdakmcaaGreat
namespace Go.Proofs.YtdaglbjgdakmcaaGreat
open Go Go.Eng
def linPS_L0 (rec : (List ByteArray) → (List DInline) → List DInline × Int) (w : List ByteArray) (l : List DInline) : Nat → (List DInline) → Nat → (List DInline × Int)
  | 0, _, _ => default
  | n0 + 1, v6, v17 => cond (decide ((((v17 : Nat) : Int) : Int) < ((lenM aInline l : Nat) : Int))) (cond (cond ((((el l v17).fKind : Int) == 11)) ((getP ((el l v17).fAttr) (⟨#[119, 104, 101, 110]⟩)).2) (false)) (cond ((((hldP w (cond ((((el l v17).fKind : Int) == 11)) ((getP ((el l v17).fAttr) (⟨#[119, 104, 101, 110]⟩)).1) (⟨#[]⟩))).2 : Int) != 0)) (([], (hldP w (cond ((((el l v17).fKind : Int) == 11)) ((getP ((el l v17).fAttr) (⟨#[119, 104, 101, 110]⟩)).1) (⟨#[]⟩))).2)) (cond ((!(hldP w (cond ((((el l v17).fKind : Int) == 11)) ((getP ((el l v17).fAttr) (⟨#[119, 104, 101, 110]⟩)).1) (⟨#[]⟩))).1)) (linPS_L0 rec w l n0 v6 (v17 + 1)) (cond ((((rec w ((el l v17).fKids)).2 : Int) != 0)) (([], (rec w ((el l v17).fKids)).2)) (linPS_L0 rec w l n0 (v6 ++ ((rec w ((el l v17).fKids)).1)) (v17 + 1))))) (cond ((((rec w ((el l v17).fKids)).2 : Int) != 0)) (([], (rec w ((el l v17).fKids)).2)) (linPS_L0 rec w l n0 (v6 ++ ([DInline.mk ((el l v17).fKind) ((el l v17).fText) ((el l v17).fDest) ((el l v17).fTitle) (cpyA ((el l v17).fAttr)) ((el l v17).fArgs) ((el l v17).fCites) ((rec w ((el l v17).fKids)).1)])) (v17 + 1)))) ((v6, 0))
def linPS (rec : (List ByteArray) → (List DInline) → List DInline × Int) (w : List ByteArray) (l : List DInline) : (List DInline × Int) := linPS_L0 rec w l ((List.length l - (0)) + 1) ([]) 0
set_option maxRecDepth 100000 in
set_option maxHeartbeats 4000000 in
theorem linP_st (rec : (List ByteArray) → (List DInline) → List DInline × Int) (w : List ByteArray) (l : List DInline) (hl : wl wInline l ≤ 536870912) (hrec : ∀ (w' : List ByteArray) (l' : List DInline), wl wInline l' < wl wInline l → wl wInline l' ≤ 536870912 → CallTo Tryz.prog 45 [(.av (.agg [(.rm (setF (w') []) (trues (setF (w') [])))])), (jL ((l').map aInline))] [] [] (.av (.tup [(.sl (((rec w' l').1).map aInline)), (vI ((rec w' l').2))])) [] []) (hrb : ∀ (w' : List ByteArray) (l' : List DInline), wl wInline l' < wl wInline l → wl wInline l' ≤ 536870912 → wl wInline (rec w' l').1 ≤ wl wInline l') : CallTo Tryz.prog 45 [(.av (.agg [(.rm (setF (w) []) (trues (setF (w) [])))])), (jL (l.map aInline))] [] [] (.av (.tup [(.sl (((linPS rec w l).1).map aInline)), (vI ((linPS rec w l).2))])) [] [] := by
  have hw_0 := wl_len (w := wInline) wInline_pos l
  refine BEG (fun r : (List DInline × Int) => (.av (.tup [(.sl (r.1.map aInline)), (vI (r.2))]))) (linPS rec w l) Tryz.func45 (by kernel_rfl) ?_
  refine UF (linPS.eq_1 ..) ?_
  refine GO (tn 7 z) (by kernel_rfl) ?_
  refine LP (fun N M S => ∃ gv6 : Nat, ∃ v6 : List DInline, ∃ v17 : Nat, ∃ gvk64_10 : Nat, ∃ gvk68_97 : Nat, (wl wInline v6 ≤ wl wInline (l.take v17)) ∧ (v17 ≤ l.length) ∧ (List.length l - v17 < N) ∧ M = linPS_L0 rec w l N v6 v17 ∧ S = (sx 76 [(2, (.ptr 2 0)), (6, (.own (206, 42) (gv6) 10 (v6.map aInline))), (15, (jL (l.map aInline))), (16, (jI (((lenM aInline l : Nat) : Int)))), (17, (jI (((v17 : Nat) : Int))))] [(2, (.cells 57 [(.av (.rm (setF (w) []) (trues (setF (w) []))))]))] [((206, 42), gv6), ((64, 10), gvk64_10), ((68, 97), gvk68_97)])) (by kernel_rfl) ⟨0, _, _, 0, 0, by simp [wl], by first | omega | assumption | (simp only [lenM_eq]; omega) | (simp; done) | (simp; omega), by omega, rfl, rfl⟩ (WKf [(6, (.own (206, 42) ((0)) 10 (([]).map aInline)))] (ac (show ((([]).map aInline) : List AV) = [] ∧ 0 < 42 ∧ ((0) : Nat) = (0) from ⟨rfl, by decide, rfl⟩) an) (by kernel_rfl)) ?_
  rintro n0 M S ⟨gv6, v6, v17, gvk64_10, gvk68_97, hv, hi, hF0, rfl, rfl⟩
  obtain ⟨n0, rfl⟩ : ∃ k, n0 = k + 1 := ⟨n0 - 1, by omega⟩
  refine UF (linPS_L0.eq_2 ..) ?_
  refine GO (tn 1 z) (by kernel_rfl) ?_
  refine CSd (fun h1p h1 => ?_) (fun h1p h1 => ?_)
  · have := lenM_eq aInline l
    have hce := wl_el (w := wInline) (l := l) (i := v17) (by omega)
    have hcw := wInline_eq (el l v17)
    simp only [wStr, w1] at hcw
    have htk := wl_take (w := wInline) (l := l) (i := v17) (by omega)
    have hca := wAttr_eq (el l v17).fAttr
    have hcp := wl_len (w := wPair) wPair_pos (el l v17).fAttr.fPairs
    have hcr := wl_len (w := wStr) wStr_pos (el l v17).fArgs
    have hcc := wl_len (w := wCited) wCited_pos (el l v17).fCites
    have hvl := wl_len (w := wInline) wInline_pos v6
    have htl := wl_take_le (w := wInline) l v17
    refine GO (kb h1 (ke (el_aInline l v17 (by first | omega | (simp only [lenM_eq, true_and]; omega))) (tn 8 (ks ((((el l v17).fKind : Int) == 11)) [9, 10] (tn 2 (hc (fun h => by have j0 := h.2; have j0p := eq_of_beq j0; have := getP_sz ((el l v17).fAttr) (⟨#[119, 104, 101, 110]⟩); exact (getP_to ((el l v17).fAttr) (⟨#[119, 104, 101, 110]⟩) (by first | assumption | omega | decide | (simp; done) | (simp; omega)))) (tn 5 z))) z (tn 1 z))))) (by kernel_rfl) ?_
    refine CS (fun h2 => ?_) (fun h2 => ?_)
    · have hsz := size_cond (((el l v17).fKind : Int) == 11) (getP ((el l v17).fAttr) (⟨#[119, 104, 101, 110]⟩)).1 ⟨#[]⟩
      have hgs := getP_sz ((el l v17).fAttr) (⟨#[119, 104, 101, 110]⟩)
      rw [size_e0] at hsz
      obtain ⟨h2a, h2o⟩ := cond_ff h2
      have h2ap := eq_of_beq h2a
      refine GO (kb h2 (tn 2 (kc (hldP_to w (cond ((((el l v17).fKind : Int) == 11)) ((getP ((el l v17).fAttr) (⟨#[119, 104, 101, 110]⟩)).1) (⟨#[]⟩)) (by first | assumption | omega | decide | (simp; done) | (simp; omega))) (tn 7 z)))) (by kernel_rfl) ?_
      refine CSn (fun h3p h3 => ?_) (fun h3p h3 => ?_)
      · refine GO (kb h3 (tn 3 z)) (by kernel_rfl) ?_
        refine OUT z (by kernel_rfl) ?_
        exact EN (by kernel_rfl)
      · refine GO (kb h3 (tn 2 z)) (by kernel_rfl) ?_
        refine CS (fun h4 => ?_) (fun h4 => ?_)
        · have h4n := nott h4
          refine GO (kb h4 (kn (wrE ((((v17 : Nat) : Int)) + 1) (((v17 + 1 : Nat) : Int)) (by omega)) (tn 1 z))) (by kernel_rfl) ?_
          exact AG ⟨gv6, _, _, gvk64_10, gvk68_97, by first | (simp only [wl_append, wl, wInline_mk, wBlock_mk, cpyA]; omega) | omega, by first | omega | assumption | (simp only [lenM_eq]; omega) | (simp; done) | (simp; omega), by omega, rfl, rfl⟩ (WK (by kernel_rfl)) (by kernel_rfl) (Nat.lt_succ_self _)
        · have h4n := notf h4
          have := wl_len (w := wInline) wInline_pos (rec w ((el l v17).fKids)).1
          have := hrb w ((el l v17).fKids) (by first | assumption | omega | decide | (simp; done) | (simp; omega)) (by first | assumption | omega | decide | (simp; done) | (simp; omega))
          refine GO (kb h4 (tn 3 (kc (hrec w ((el l v17).fKids) (by first | assumption | omega | decide | (simp; done) | (simp; omega)) (by first | assumption | omega | decide | (simp; done) | (simp; omega))) (tn 7 z)))) (by kernel_rfl) ?_
          refine CSn (fun h5p h5 => ?_) (fun h5p h5 => ?_)
          · refine GO (kb h5 (tn 3 z)) (by kernel_rfl) ?_
            refine OUT z (by kernel_rfl) ?_
            exact EN (by kernel_rfl)
          · refine GO (kb h5 (tn 1 (kb h2 (tn 2 (kp (show (gv6 : Nat) = gv6 ∧ Uni 10 (((rec w ((el l v17).fKids)).1).map aInline) ∧ (((v6.map aInline) : List AV).length + ((((rec w ((el l v17).fKids)).1).map aInline) : List AV).length) * 192 ≤ 140737488355328 from ⟨rfl, uni_aInline _, by first | omega | (simp; done) | (simp; omega)⟩) (kw (apL aInline v6 ((rec w ((el l v17).fKids)).1)) (tn 1 (kn (wrE ((((v17 : Nat) : Int)) + 1) (((v17 + 1 : Nat) : Int)) (by omega)) (tn 1 z))))))))) (by kernel_rfl) ?_
            exact AG ⟨gv6 + 1, _, _, gvk64_10, gvk68_97, by first | (simp only [wl_append, wl, wInline_mk, wBlock_mk, cpyA]; omega) | omega, by first | omega | assumption | (simp only [lenM_eq]; omega) | (simp; done) | (simp; omega), by omega, rfl, rfl⟩ (WK (by kernel_rfl)) (by kernel_rfl) (Nat.lt_succ_self _)
    · have := wl_len (w := wInline) wInline_pos (rec w ((el l v17).fKids)).1
      have := hrb w ((el l v17).fKids) (by first | assumption | omega | decide | (simp; done) | (simp; omega)) (by first | assumption | omega | decide | (simp; done) | (simp; omega))
      refine GO (kb h2 (tn 3 (kc (hrec w ((el l v17).fKids) (by first | assumption | omega | decide | (simp; done) | (simp; omega)) (by first | assumption | omega | decide | (simp; done) | (simp; omega))) (tn 7 z)))) (by kernel_rfl) ?_
      refine CSn (fun h6p h6 => ?_) (fun h6p h6 => ?_)
      · refine GO (kb h6 (tn 3 z)) (by kernel_rfl) ?_
        refine OUT z (by kernel_rfl) ?_
        exact EN (by kernel_rfl)
      · refine GO (kb h6 (tn 1 (kb h2 (tn 2 (kc (cpyA_to ((el l v17).fAttr) (by first | assumption | omega | decide | (simp; done) | (simp; omega))) (tn 7 (kp (show Uni 1 (((el l v17).fArgs).map strAV) ∧ ((((el l v17).fArgs).map strAV) : List AV).length * 16 ≤ 140737488355328 from ⟨uni_strAV _, by first | omega | (simp; done) | (simp; omega)⟩) (kw (Eq.refl (((el l v17).fArgs).map strAV)) (tn 4 (kp (show Uni 4 (((el l v17).fCites).map aCited) ∧ ((((el l v17).fCites).map aCited) : List AV).length * 56 ≤ 140737488355328 from ⟨uni_aCited _, by first | omega | (simp; done) | (simp; omega)⟩) (kw (Eq.refl (((el l v17).fCites).map aCited)) (tn 4 (kp (show Uni 10 [(.agg [(vI ((el l v17).fKind)), (vS ((el l v17).fText)), (vS ((el l v17).fDest)), (vS ((el l v17).fTitle)), (vS ((cpyA ((el l v17).fAttr)).fID)), (.sl (((cpyA ((el l v17).fAttr)).fClasses).map strAV)), (.sl (((cpyA ((el l v17).fAttr)).fPairs).map aPair)), (.sl (((el l v17).fArgs).map strAV)), (.sl (((el l v17).fCites).map aCited)), (.sl (((rec w ((el l v17).fKids)).1).map aInline))])] from (uni_one rfl rfl)) (kp (show (gv6 : Nat) = gv6 ∧ Uni 10 [(.agg [(vI ((el l v17).fKind)), (vS ((el l v17).fText)), (vS ((el l v17).fDest)), (vS ((el l v17).fTitle)), (vS ((cpyA ((el l v17).fAttr)).fID)), (.sl (((cpyA ((el l v17).fAttr)).fClasses).map strAV)), (.sl (((cpyA ((el l v17).fAttr)).fPairs).map aPair)), (.sl (((el l v17).fArgs).map strAV)), (.sl (((el l v17).fCites).map aCited)), (.sl (((rec w ((el l v17).fKids)).1).map aInline))])] ∧ (((v6.map aInline) : List AV).length + ([(.agg [(vI ((el l v17).fKind)), (vS ((el l v17).fText)), (vS ((el l v17).fDest)), (vS ((el l v17).fTitle)), (vS ((cpyA ((el l v17).fAttr)).fID)), (.sl (((cpyA ((el l v17).fAttr)).fClasses).map strAV)), (.sl (((cpyA ((el l v17).fAttr)).fPairs).map aPair)), (.sl (((el l v17).fArgs).map strAV)), (.sl (((el l v17).fCites).map aCited)), (.sl (((rec w ((el l v17).fKids)).1).map aInline))])] : List AV).length) * 192 ≤ 140737488355328 from ⟨rfl, uni_one rfl rfl, by first | omega | (simp; done) | (simp; omega)⟩) (kw (ap1_aInline v6 (DInline.mk ((el l v17).fKind) ((el l v17).fText) ((el l v17).fDest) ((el l v17).fTitle) (cpyA ((el l v17).fAttr)) ((el l v17).fArgs) ((el l v17).fCites) ((rec w ((el l v17).fKids)).1))) (tn 1 (kn (wrE ((((v17 : Nat) : Int)) + 1) (((v17 + 1 : Nat) : Int)) (by omega)) (tn 1 z)))))))))))))))))) (by kernel_rfl) ?_
        exact AG ⟨gv6 + 1, _, _, gvk64_10 + 1, gvk68_97 + 1, by first | (simp only [wl_append, wl, wInline_mk, wBlock_mk, cpyA]; omega) | omega, by first | omega | assumption | (simp only [lenM_eq]; omega) | (simp; done) | (simp; omega), by omega, rfl, rfl⟩ (WK (by kernel_rfl)) (by kernel_rfl) (Nat.lt_succ_self _)
  · have := lenM_eq aInline l
    refine GO (kb h1 z) (by kernel_rfl) ?_
    refine OUT (tn 3 z) (by kernel_rfl) ?_
    exact EN (by kernel_rfl)
def linPN : Nat → (List ByteArray) → (List DInline) → List DInline × Int
  | 0, _, _ => default
  | n + 1, w, l => linPS (linPN n) w l
def inlW (w : List ByteArray) (rec : List DInline → List DInline × Int) (x : DInline) : List DInline × Int :=
  if x.fKind = 11 ∧ (getP x.fAttr whenA).2 = true then
    (if (hldP w (getP x.fAttr whenA).1).2 ≠ 0 then ([], (hldP w (getP x.fAttr whenA).1).2) else if (hldP w (getP x.fAttr whenA).1).1 = true then (if (rec x.fKids).2 ≠ 0 then ([], (rec x.fKids).2) else ((rec x.fKids).1, 0)) else ([], 0))
  else (if (rec x.fKids).2 ≠ 0 then ([], (rec x.fKids).2) else ([setKids x (rec x.fKids).1], 0))
def seqE {α β : Type} (f : α → List β × Int) : List α → List β → List β × Int
  | [], acc => (acc, 0)
  | x :: r, acc => if (f x).2 ≠ 0 then ([], (f x).2) else seqE f r (acc ++ (f x).1)
theorem linPS_L0_eq (rec : (List ByteArray) → (List DInline) → List DInline × Int) (w : List ByteArray) (l : List DInline) : ∀ (n : Nat) (acc : List DInline) (i : Nat), l.length - i < n → linPS_L0 rec w l n acc i = seqE (inlW w (rec w)) (l.drop i) acc
  | 0, acc, i, h => by omega
  | n + 1, acc, i, h => by
    have hl := lenM_eq aInline l
    rw [linPS_L0]
    by_cases hi : i < l.length
    · rw [dT (by omega), cond_true, drop_el hi, seqE, linPS_L0_eq rec w l n _ _ (by omega), linPS_L0_eq rec w l n _ _ (by omega), linPS_L0_eq rec w l n _ _ (by omega)]
      show cond (cond _ (getP (el l i).fAttr whenA).2 _) _ _ = _
      generalize el l i = x
      cases hk : (x.fKind == 11) with
      | true =>
        have hk' := eq_of_beq hk
        cases hw : (getP x.fAttr whenA).2 with
        | true =>
          simp only [cond_true, inlW, hk', hw, and_self, if_true]
          simp only [show (⟨#[119, 104, 101, 110]⟩ : ByteArray) = whenA from rfl]
          by_cases h1 : (hldP w (getP x.fAttr whenA).1).2 = 0
          · simp only [h1, bne_self_eq_false, cond_false, ne_eq, not_true_eq_false, if_false]
            cases hv : (hldP w (getP x.fAttr whenA).1).1 with
            | true =>
              by_cases h2 : (rec w x.fKids).2 = 0
              · simp [h2]
              · simp [h2, bne_iff_ne.2 h2]
            | false => simp
          · simp [h1, bne_iff_ne.2 h1]
        | false =>
          simp only [cond_true, cond_false, inlW, hw, Bool.false_eq_true, and_false, if_false]
          by_cases h2 : (rec w x.fKids).2 = 0
          · simp [h2, setKids, cpyA]
          · simp [h2, bne_iff_ne.2 h2]
      | false =>
        have hk' := ne_of_beq_false hk
        simp only [cond_false, inlW, hk', false_and, if_false]
        by_cases h2 : (rec w x.fKids).2 = 0
        · simp [h2, setKids, cpyA]
        · simp [h2, bne_iff_ne.2 h2]
    · rw [dF (by omega), cond_false, List.drop_eq_nil_of_le (by omega)]; rfl
theorem linPS_eq (rec : (List ByteArray) → (List DInline) → List DInline × Int) (w : List ByteArray) (l : List DInline) : linPS rec w l = seqE (inlW w (rec w)) l [] := by
  rw [linPS, linPS_L0_eq rec w l _ _ _ (by omega)]; simp
theorem seqE_wl {α β : Type} {w : α → Nat} {w' : β → Nat} {f : α → List β × Int} : ∀ {l : List α} {acc : List β}, (∀ x ∈ l, wl w' (f x).1 ≤ w x) → wl w' (seqE f l acc).1 ≤ wl w' acc + wl w l
  | [], acc, _ => by simp [seqE, wl]
  | x :: l, acc, h => by
    have h1 := h x (by simp)
    have h2 := seqE_wl (l := l) (acc := acc ++ (f x).1) (fun y hy => h y (by simp [hy]))
    rw [seqE]; split
    · simp [wl]
    · rw [wl_append] at h2; simp only [wl]; omega
theorem inlW_wl (w : List ByteArray) (rec : List DInline → List DInline × Int) (x : DInline) (h : wl wInline (rec x.fKids).1 ≤ wl wInline x.fKids) : wl wInline (inlW w rec x).1 ≤ wInline x := by
  have h1 := wInline_eq x
  have h2 := setKids_wl x _ h
  unfold inlW
  repeat' split
  all_goals first | (simp [wl]; done) | (simp only [wl]; omega)
theorem linPN_bd : ∀ (n : Nat) (w : List ByteArray) (l : List DInline), wl wInline l < n → wl wInline l ≤ 536870912 → wl wInline (linPN n w l).1 ≤ wl wInline l
  | 0, w, l, h, _ => by omega
  | n + 1, w, l, h, hl => by
    rw [linPN, linPS_eq]
    refine Nat.le_trans (seqE_wl (fun x hx => inlW_wl _ _ _ ?_)) (by simp [wl])
    have h1 := wl_mem (w := wInline) hx
    have h2 := wInline_eq x
    exact linPN_bd n w x.fKids (by omega) (by omega)
theorem linPN_to : ∀ (n : Nat) (w : List ByteArray) (l : List DInline), wl wInline l < n → wl wInline l ≤ 536870912 → CallTo Tryz.prog 45 [(.av (.agg [(.rm (setF (w) []) (trues (setF (w) [])))])), (jL (l.map aInline))] [] [] (.av (.tup [(.sl (((linPN n w l).1).map aInline)), (vI ((linPN n w l).2))])) [] []
  | 0, w, l, h0, _ => absurd h0 (Nat.not_lt_zero _)
  | n + 1, w, l, h0, hl => by
    exact linP_st (linPN n) w l hl (fun w' l' q1 hl' => linPN_to n w' l' (by omega) hl') (fun w' l' q1 hl' => linPN_bd n w' l' (by omega) hl')
def linP (w : List ByteArray) (l : List DInline) : List DInline × Int := linPN (wl wInline l + 1) w l
theorem linP_to (w : List ByteArray) (l : List DInline) (hl : wl wInline l ≤ 536870912) : CallTo Tryz.prog 45 [(.av (.agg [(.rm (setF (w) []) (trues (setF (w) [])))])), (jL (l.map aInline))] [] [] (.av (.tup [(.sl (((linP w l).1).map aInline)), (vI ((linP w l).2))])) [] [] := linPN_to _ w l (Nat.lt_succ_self _) hl
theorem linP_bd (w : List ByteArray) (l : List DInline) (hl : wl wInline l ≤ 536870912) : wl wInline (linP w l).1 ≤ wl wInline l := linPN_bd _ w l (Nat.lt_succ_self _) hl
end Go.Proofs.YtdaglbjgdakmcaaGreat
namespace Go.Proofs.YtdaglbjgdakmcaaGreat
open Go Go.Eng
def chsP (rec : List ByteArray → List DBlock → List DBlock × Int) (w : List ByteArray) (b : DBlock) : (List DBlock × Int) := cond ((!(getP b.fAttr (⟨#[119, 104, 101, 110]⟩)).2)) (([], 8)) (cond (cond ((((hldP w ((getP b.fAttr (⟨#[119, 104, 101, 110]⟩)).1)).2 : Int) != 0)) (true) ((!(hldP w ((getP b.fAttr (⟨#[119, 104, 101, 110]⟩)).1)).1))) (([], (hldP w ((getP b.fAttr (⟨#[119, 104, 101, 110]⟩)).1)).2)) (((rec w b.fKids).1, (rec w b.fKids).2)))
set_option maxRecDepth 100000 in
set_option maxHeartbeats 4000000 in
theorem chsP_to (rec : List ByteArray → List DBlock → List DBlock × Int) (w : List ByteArray) (b : DBlock) (hb : wBlock b ≤ 536870912) (hrec : ∀ (w' : List ByteArray) (l' : List DBlock), wl wBlock l' < wBlock b → wl wBlock l' ≤ 536870912 → CallTo Tryz.prog 24 [(.av (.agg [(.rm (setF (w') []) (trues (setF (w') [])))])), (jL ((l').map aBlock))] [] [] (.av (.tup [(.sl (((rec w' l').1).map aBlock)), (vI ((rec w' l').2))])) [] []) : CallTo Tryz.prog 44 [(.av (.agg [(.rm (setF (w) []) (trues (setF (w) [])))])), (.av (cBlock b))] [] [] (.av (.tup [(.sl (((chsP rec w b).1).map aBlock)), (vI ((chsP rec w b).2))])) [] [] := by
  have hwb := wBlock_eq b
  simp only [wStr, w1] at hwb
  have hca := wAttr_eq b.fAttr
  have hcp := wl_len (w := wPair) wPair_pos b.fAttr.fPairs
  refine BEG (fun r : (List DBlock × Int) => (.av (.tup [(.sl (r.1.map aBlock)), (vI (r.2))]))) (chsP rec w b) Tryz.func44 (by kernel_rfl) ?_
  refine UF (chsP.eq_1 ..) ?_
  have := getP_sz b.fAttr (⟨#[119, 104, 101, 110]⟩)
  refine GO (tn 6 (kc (getP_to b.fAttr (⟨#[119, 104, 101, 110]⟩) (by first | assumption | omega | decide | (simp; done) | (simp; omega))) (tn 7 z))) (by kernel_rfl) ?_
  refine CS (fun h1 => ?_) (fun h1 => ?_)
  · have h1n := nott h1
    refine GO (kb h1 (tn 2 z)) (by kernel_rfl) ?_
    exact EN (by kernel_rfl)
  · have h1n := notf h1
    refine GO (kb h1 (tn 2 (kc (hldP_to w ((getP b.fAttr (⟨#[119, 104, 101, 110]⟩)).1) (by first | assumption | omega | decide | (simp; done) | (simp; omega))) (tn 8 (kj ((((hldP w ((getP b.fAttr (⟨#[119, 104, 101, 110]⟩)).1)).2 : Int) != 0)) z (tn 2 z) z))))) (by kernel_rfl) ?_
    refine CS (fun h2 => ?_) (fun h2 => ?_)
    · refine GO (kb h2 (tn 3 z)) (by kernel_rfl) ?_
      exact EN (by kernel_rfl)
    · obtain ⟨h2a, h2o⟩ := cond_tt h2
      have h2ap := eq_of_bne_false h2a
      have h2on := notf h2o
      refine GO (kb h2 (tn 3 (kc (hrec w b.fKids (by omega) (by omega)) (tn 4 z)))) (by kernel_rfl) ?_
      exact EN (by kernel_rfl)
end Go.Proofs.YtdaglbjgdakmcaaGreat
namespace Go.Proofs.YtdaglbjgdakmcaaGreat
open Go Go.Eng
def ifS : ByteArray := ⟨#[105, 102]⟩
def setBlk (b : DBlock) (li : List DInline) (ks : List DBlock) : DBlock := DBlock.mk b.fKind b.fLevel b.fInfo b.fText b.fDest b.fTitle b.fAttr li ks
def isIf (b : DBlock) : Bool := cond (b.fKind == 13) (eqs b.fInfo ifS) false
def chsW (w : List ByteArray) (rec : List DBlock → List DBlock × Int) (b : DBlock) : List DBlock × Int :=
  if (getP b.fAttr whenA).2 = true then
    (if (hldP w (getP b.fAttr whenA).1).2 ≠ 0 then ([], (hldP w (getP b.fAttr whenA).1).2) else if (hldP w (getP b.fAttr whenA).1).1 = true then rec b.fKids else ([], 0))
  else ([], 8)
theorem chsP_eq (rec : List ByteArray → List DBlock → List DBlock × Int) (w : List ByteArray) (b : DBlock) : chsP rec w b = chsW w (rec w) b := by
  unfold chsP chsW
  simp only [show (⟨#[119, 104, 101, 110]⟩ : ByteArray) = whenA from rfl]
  cases (getP b.fAttr whenA).2 with
  | false => simp
  | true =>
    simp only [Bool.not_true, cond_false, if_true]
    by_cases h1 : (hldP w (getP b.fAttr whenA).1).2 = 0
    · cases hv : (hldP w (getP b.fAttr whenA).1).1 <;> simp [h1]
    · simp [h1, bne_iff_ne.2 h1]
theorem chsP_wl (rec : List ByteArray → List DBlock → List DBlock × Int) (w : List ByteArray) (b : DBlock) (h : wl wBlock (rec w b.fKids).1 ≤ wl wBlock b.fKids) : wl wBlock (chsP rec w b).1 ≤ wBlock b ∧ (chsP rec w b).1.length ≤ wBlock b := by
  have h1 := wBlock_eq b
  have h2 : wl wBlock (chsP rec w b).1 ≤ wBlock b := by
    rw [chsP_eq]; unfold chsW
    repeat' split
    all_goals first | (simp [wl]; done) | omega
  exact ⟨h2, Nat.le_trans (wl_len wBlock_pos _) h2⟩
def blkPS_L0 (rec : (List ByteArray) → (List DBlock) → List DBlock × Int) (w : List ByteArray) (l : List DBlock) : Nat → (List DBlock) → Nat → (List DBlock × Int)
  | 0, _, _ => default
  | n0 + 1, v6, v16 => cond (decide ((((v16 : Nat) : Int) : Int) < ((lenM aBlock l : Nat) : Int))) (cond (cond ((((el l v16).fKind : Int) == 13)) (eqs ((el l v16).fInfo) (⟨#[105, 102]⟩)) (false)) (cond ((((chsP rec w (el l v16)).2 : Int) != 0)) (([], (chsP rec w (el l v16)).2)) (blkPS_L0 rec w l n0 (v6 ++ ((chsP rec w (el l v16)).1)) (v16 + 1))) (cond ((((linP w ((el l v16).fLine)).2 : Int) != 0)) (([], (linP w ((el l v16).fLine)).2)) (cond ((((rec w ((el l v16).fKids)).2 : Int) != 0)) (([], (rec w ((el l v16).fKids)).2)) (cond (cond ((((el l v16).fKind : Int) != 1)) (true) (decide ((((lenM aInline (trmL (tdyL ((linP w ((el l v16).fLine)).1))) : Nat) : Int) : Int) > 0))) (blkPS_L0 rec w l n0 (v6 ++ ([DBlock.mk ((el l v16).fKind) ((el l v16).fLevel) ((el l v16).fInfo) ((el l v16).fText) ((el l v16).fDest) ((el l v16).fTitle) (cpyA ((el l v16).fAttr)) (trmL (tdyL ((linP w ((el l v16).fLine)).1))) ((rec w ((el l v16).fKids)).1)])) (v16 + 1)) (blkPS_L0 rec w l n0 v6 (v16 + 1)))))) ((v6, 0))
def blkPS (rec : (List ByteArray) → (List DBlock) → List DBlock × Int) (w : List ByteArray) (l : List DBlock) : (List DBlock × Int) := blkPS_L0 rec w l ((List.length l - (0)) + 1) ([]) 0
set_option maxRecDepth 100000 in
set_option maxHeartbeats 4000000 in
theorem blkP_st (rec : (List ByteArray) → (List DBlock) → List DBlock × Int) (w : List ByteArray) (l : List DBlock) (hl : wl wBlock l ≤ 536870912) (hrec : ∀ (w' : List ByteArray) (l' : List DBlock), wl wBlock l' < wl wBlock l → wl wBlock l' ≤ 536870912 → CallTo Tryz.prog 24 [(.av (.agg [(.rm (setF (w') []) (trues (setF (w') [])))])), (jL ((l').map aBlock))] [] [] (.av (.tup [(.sl (((rec w' l').1).map aBlock)), (vI ((rec w' l').2))])) [] []) (hrb : ∀ (w' : List ByteArray) (l' : List DBlock), wl wBlock l' < wl wBlock l → wl wBlock l' ≤ 536870912 → wl wBlock (rec w' l').1 ≤ wl wBlock l') : CallTo Tryz.prog 24 [(.av (.agg [(.rm (setF (w) []) (trues (setF (w) [])))])), (jL (l.map aBlock))] [] [] (.av (.tup [(.sl (((blkPS rec w l).1).map aBlock)), (vI ((blkPS rec w l).2))])) [] [] := by
  have hw_0 := wl_len (w := wBlock) wBlock_pos l
  refine BEG (fun r : (List DBlock × Int) => (.av (.tup [(.sl (r.1.map aBlock)), (vI (r.2))]))) (blkPS rec w l) Tryz.func24 (by kernel_rfl) ?_
  refine UF (blkPS.eq_1 ..) ?_
  refine GO (tn 7 z) (by kernel_rfl) ?_
  refine LP (fun N M S => ∃ gv6 : Nat, ∃ v6 : List DBlock, ∃ v16 : Nat, (wl wBlock v6 ≤ wl wBlock (l.take v16)) ∧ (v16 ≤ l.length) ∧ (List.length l - v16 < N) ∧ M = blkPS_L0 rec w l N v6 v16 ∧ S = (sx 85 [(2, (.ptr 2 0)), (6, (.own (206, 66) (gv6) 11 (v6.map aBlock))), (14, (jL (l.map aBlock))), (15, (jI (((lenM aBlock l : Nat) : Int)))), (16, (jI (((v16 : Nat) : Int))))] [(2, (.cells 57 [(.av (.rm (setF (w) []) (trues (setF (w) []))))]))] [((206, 66), gv6)])) (by kernel_rfl) ⟨0, _, _, by simp [wl], by first | omega | assumption | (simp only [lenM_eq]; omega) | (simp; done) | (simp; omega), by omega, rfl, rfl⟩ (WKf [(6, (.own (206, 66) ((0)) 11 (([]).map aBlock)))] (ac (show ((([]).map aBlock) : List AV) = [] ∧ 0 < 66 ∧ ((0) : Nat) = (0) from ⟨rfl, by decide, rfl⟩) an) (by kernel_rfl)) ?_
  rintro n0 M S ⟨gv6, v6, v16, hv, hi, hF0, rfl, rfl⟩
  obtain ⟨n0, rfl⟩ : ∃ k, n0 = k + 1 := ⟨n0 - 1, by omega⟩
  refine UF (blkPS_L0.eq_2 ..) ?_
  refine GO (tn 1 z) (by kernel_rfl) ?_
  refine CSd (fun h1p h1 => ?_) (fun h1p h1 => ?_)
  · have := lenM_eq aBlock l
    have hce := wl_el (w := wBlock) (l := l) (i := v16) (by omega)
    have hcw := wBlock_eq (el l v16)
    simp only [wStr, w1] at hcw
    have htk := wl_take (w := wBlock) (l := l) (i := v16) (by omega)
    have hca := wAttr_eq (el l v16).fAttr
    have hvl := wl_len (w := wBlock) wBlock_pos v6
    have htl := wl_take_le (w := wBlock) l v16
    refine GO (kb h1 (ke (el_aBlock l v16 (by first | omega | (simp only [lenM_eq, true_and]; omega))) (tn 7 (kj ((((el l v16).fKind : Int) == 13)) (tn 3 z) z z)))) (by kernel_rfl) ?_
    refine CS (fun h2 => ?_) (fun h2 => ?_)
    · obtain ⟨h2a, h2o⟩ := cond_ff h2
      have h2ap := eq_of_beq h2a
      have := chsP_wl rec w (el l v16) (hrb _ _ (by omega) (by omega))
      refine GO (kb h2 (tn 2 (kc (chsP_to rec w (el l v16) (by omega) (fun w' l' q1 q2 => hrec w' l' (by omega) q2)) (tn 7 z)))) (by kernel_rfl) ?_
      refine CSn (fun h3p h3 => ?_) (fun h3p h3 => ?_)
      · refine GO (kb h3 (tn 3 z)) (by kernel_rfl) ?_
        refine OUT z (by kernel_rfl) ?_
        exact EN (by kernel_rfl)
      · refine GO (kb h3 (tn 2 (kp (show (gv6 : Nat) = gv6 ∧ Uni 11 (((chsP rec w (el l v16)).1).map aBlock) ∧ (((v6.map aBlock) : List AV).length + ((((chsP rec w (el l v16)).1).map aBlock) : List AV).length) * 192 ≤ 140737488355328 from ⟨rfl, uni_aBlock _, by first | omega | (simp; done) | (simp; omega)⟩) (kw (apL aBlock v6 ((chsP rec w (el l v16)).1)) (tn 1 (kn (wrE ((((v16 : Nat) : Int)) + 1) (((v16 + 1 : Nat) : Int)) (by omega)) (tn 1 z))))))) (by kernel_rfl) ?_
        exact AG ⟨gv6 + 1, _, _, by first | (simp only [wl_append, wl, wInline_mk, wBlock_mk, cpyA]; omega) | omega, by first | omega | assumption | (simp only [lenM_eq]; omega) | (simp; done) | (simp; omega), by omega, rfl, rfl⟩ (WK (by kernel_rfl)) (by kernel_rfl) (Nat.lt_succ_self _)
    · have := linP_bd w ((el l v16).fLine) (by first | assumption | omega | decide | (simp; done) | (simp; omega))
      refine GO (kb h2 (tn 3 (kc (linP_to w ((el l v16).fLine) (by first | assumption | omega | decide | (simp; done) | (simp; omega))) (tn 7 z)))) (by kernel_rfl) ?_
      refine CSn (fun h4p h4 => ?_) (fun h4p h4 => ?_)
      · refine GO (kb h4 (tn 3 z)) (by kernel_rfl) ?_
        refine OUT z (by kernel_rfl) ?_
        exact EN (by kernel_rfl)
      · have := wl_len (w := wBlock) wBlock_pos (rec w ((el l v16).fKids)).1
        have := hrb w ((el l v16).fKids) (by first | assumption | omega | decide | (simp; done) | (simp; omega)) (by first | assumption | omega | decide | (simp; done) | (simp; omega))
        refine GO (kb h4 (tn 3 (kc (hrec w ((el l v16).fKids) (by first | assumption | omega | decide | (simp; done) | (simp; omega)) (by first | assumption | omega | decide | (simp; done) | (simp; omega))) (tn 7 z)))) (by kernel_rfl) ?_
        refine CSn (fun h5p h5 => ?_) (fun h5p h5 => ?_)
        · refine GO (kb h5 (tn 3 z)) (by kernel_rfl) ?_
          refine OUT z (by kernel_rfl) ?_
          exact EN (by kernel_rfl)
        · have := tdyL_bd ((linP w ((el l v16).fLine)).1) (by first | assumption | omega | decide | (simp; done) | (simp; omega))
          have := trmL_bd (tdyL ((linP w ((el l v16).fLine)).1))
          refine GO (kb h5 (tn 2 (kc (cpyA_to ((el l v16).fAttr) (by first | assumption | omega | decide | (simp; done) | (simp; omega))) (tn 1 (kc (tdyL_to ((linP w ((el l v16).fLine)).1) (by first | assumption | omega | decide | (simp; done) | (simp; omega))) (kc (trmL_to (tdyL ((linP w ((el l v16).fLine)).1)) (by first | assumption | omega | decide | (simp; done) | (simp; omega))) (tn 11 (kj ((((el l v16).fKind : Int) != 1)) z (tn 4 z) z)))))))) (by kernel_rfl) ?_
          refine CS (fun h6 => ?_) (fun h6 => ?_)
          · refine GO (kb h6 (tn 2 (kp (show Uni 11 [(.agg [(vI ((el l v16).fKind)), (vI ((el l v16).fLevel)), (vS ((el l v16).fInfo)), (vS ((el l v16).fText)), (vS ((el l v16).fDest)), (vS ((el l v16).fTitle)), (vS ((cpyA ((el l v16).fAttr)).fID)), (.sl (((cpyA ((el l v16).fAttr)).fClasses).map strAV)), (.sl (((cpyA ((el l v16).fAttr)).fPairs).map aPair)), (.sl ((trmL (tdyL ((linP w ((el l v16).fLine)).1))).map aInline)), (.sl (((rec w ((el l v16).fKids)).1).map aBlock))])] from (uni_one rfl rfl)) (kp (show (gv6 : Nat) = gv6 ∧ Uni 11 [(.agg [(vI ((el l v16).fKind)), (vI ((el l v16).fLevel)), (vS ((el l v16).fInfo)), (vS ((el l v16).fText)), (vS ((el l v16).fDest)), (vS ((el l v16).fTitle)), (vS ((cpyA ((el l v16).fAttr)).fID)), (.sl (((cpyA ((el l v16).fAttr)).fClasses).map strAV)), (.sl (((cpyA ((el l v16).fAttr)).fPairs).map aPair)), (.sl ((trmL (tdyL ((linP w ((el l v16).fLine)).1))).map aInline)), (.sl (((rec w ((el l v16).fKids)).1).map aBlock))])] ∧ (((v6.map aBlock) : List AV).length + ([(.agg [(vI ((el l v16).fKind)), (vI ((el l v16).fLevel)), (vS ((el l v16).fInfo)), (vS ((el l v16).fText)), (vS ((el l v16).fDest)), (vS ((el l v16).fTitle)), (vS ((cpyA ((el l v16).fAttr)).fID)), (.sl (((cpyA ((el l v16).fAttr)).fClasses).map strAV)), (.sl (((cpyA ((el l v16).fAttr)).fPairs).map aPair)), (.sl ((trmL (tdyL ((linP w ((el l v16).fLine)).1))).map aInline)), (.sl (((rec w ((el l v16).fKids)).1).map aBlock))])] : List AV).length) * 192 ≤ 140737488355328 from ⟨rfl, uni_one rfl rfl, by first | omega | (simp; done) | (simp; omega)⟩) (kw (ap1_aBlock v6 (DBlock.mk ((el l v16).fKind) ((el l v16).fLevel) ((el l v16).fInfo) ((el l v16).fText) ((el l v16).fDest) ((el l v16).fTitle) (cpyA ((el l v16).fAttr)) (trmL (tdyL ((linP w ((el l v16).fLine)).1))) ((rec w ((el l v16).fKids)).1))) (tn 1 (kn (wrE ((((v16 : Nat) : Int)) + 1) (((v16 + 1 : Nat) : Int)) (by omega)) (tn 1 z)))))))) (by kernel_rfl) ?_
            exact AG ⟨gv6 + 1, _, _, by first | (simp only [wl_append, wl, wInline_mk, wBlock_mk, cpyA]; omega) | omega, by first | omega | assumption | (simp only [lenM_eq]; omega) | (simp; done) | (simp; omega), by omega, rfl, rfl⟩ (WK (by kernel_rfl)) (by kernel_rfl) (Nat.lt_succ_self _)
          · obtain ⟨h6a, h6o⟩ := cond_tt h6
            have h6ap := eq_of_bne_false h6a
            have h6op := of_decide_eq_false h6o
            refine GO (kb h6 (kn (wrE ((((v16 : Nat) : Int)) + 1) (((v16 + 1 : Nat) : Int)) (by omega)) (tn 1 z))) (by kernel_rfl) ?_
            exact AG ⟨gv6, _, _, by first | (simp only [wl_append, wl, wInline_mk, wBlock_mk, cpyA]; omega) | omega, by first | omega | assumption | (simp only [lenM_eq]; omega) | (simp; done) | (simp; omega), by omega, rfl, rfl⟩ (WK (by kernel_rfl)) (by kernel_rfl) (Nat.lt_succ_self _)
  · have := lenM_eq aBlock l
    refine GO (kb h1 z) (by kernel_rfl) ?_
    refine OUT (tn 3 z) (by kernel_rfl) ?_
    exact EN (by kernel_rfl)
def blkPN : Nat → (List ByteArray) → (List DBlock) → List DBlock × Int
  | 0, _, _ => default
  | n + 1, w, l => blkPS (blkPN n) w l
def lnW (w : List ByteArray) (l : List DInline) : List DInline := trmL (tdyL (linP w l).1)
def blkW (w : List ByteArray) (rec : List DBlock → List DBlock × Int) (b : DBlock) : List DBlock × Int :=
  if isIf b = true then chsW w rec b
  else if (linP w b.fLine).2 ≠ 0 then ([], (linP w b.fLine).2)
  else if (rec b.fKids).2 ≠ 0 then ([], (rec b.fKids).2)
  else if b.fKind = 1 ∧ lnW w b.fLine = [] then ([], 0) else ([setBlk b (lnW w b.fLine) (rec b.fKids).1], 0)
theorem blkPS_L0_eq (rec : (List ByteArray) → (List DBlock) → List DBlock × Int) (w : List ByteArray) (l : List DBlock) : ∀ (n : Nat) (acc : List DBlock) (i : Nat), l.length - i < n → blkPS_L0 rec w l n acc i = seqE (blkW w (rec w)) (l.drop i) acc
  | 0, acc, i, h => by omega
  | n + 1, acc, i, h => by
    have hl := lenM_eq aBlock l
    rw [blkPS_L0]
    by_cases hi : i < l.length
    · rw [dT (by omega), cond_true, drop_el hi, seqE, blkPS_L0_eq rec w l n _ _ (by omega), blkPS_L0_eq rec w l n _ _ (by omega), blkPS_L0_eq rec w l n _ _ (by omega), chsP_eq]
      show cond (isIf (el l i)) _ _ = _
      generalize el l i = x
      cases hk : isIf x with
      | true =>
        simp only [cond_true, blkW, hk, if_true]
        by_cases h1 : (chsW w (rec w) x).2 = 0
        · simp [h1]
        · simp [h1, bne_iff_ne.2 h1]
      | false =>
        simp only [cond_false, blkW, hk, Bool.false_eq_true, if_false]
        by_cases h1 : (linP w x.fLine).2 = 0
        · by_cases h2 : (rec w x.fKids).2 = 0
          · simp only [h1, h2, bne_self_eq_false, cond_false, ne_eq, not_true_eq_false, if_false]
            show cond (cond (x.fKind != 1) true (decide (((lenM aInline (lnW w x.fLine) : Nat) : Int) > 0))) (seqE _ _ (acc ++ [setBlk x (lnW w x.fLine) (rec w x.fKids).1])) _ = _
            have hll := lenM_eq aInline (lnW w x.fLine)
            by_cases h3 : x.fKind = 1
            · by_cases h4 : lnW w x.fLine = []
              · rw [dF (by rw [h4] at hll ⊢; simp [lenM])]; simp [h3, h4]
              · have := List.length_pos_iff.2 h4
                rw [dT (by omega)]; simp [h3, h4]
            · simp [h3, bne_iff_ne.2 h3]
          · simp [h1, h2, bne_iff_ne.2 h2]
        · simp [h1, bne_iff_ne.2 h1]
    · rw [dF (by omega), cond_false, List.drop_eq_nil_of_le (by omega)]; rfl
theorem blkPS_eq (rec : (List ByteArray) → (List DBlock) → List DBlock × Int) (w : List ByteArray) (l : List DBlock) : blkPS rec w l = seqE (blkW w (rec w)) l [] := by
  rw [blkPS, blkPS_L0_eq rec w l _ _ _ (by omega)]; simp
theorem lnW_wl (w : List ByteArray) (l : List DInline) (hl : wl wInline l ≤ 536870912) : wl wInline (lnW w l) ≤ wl wInline l := by
  have h1 := linP_bd w l hl
  have h2 := tdyL_bd (linP w l).1 (by omega)
  have h3 := trmL_bd (tdyL (linP w l).1)
  rw [lnW]; omega
theorem blkW_wl (w : List ByteArray) (rec : List DBlock → List DBlock × Int) (x : DBlock) (hx : wBlock x ≤ 536870912) (h : wl wBlock (rec x.fKids).1 ≤ wl wBlock x.fKids) : wl wBlock (blkW w rec x).1 ≤ wBlock x := by
  have h1 := wBlock_eq x
  have h2 := lnW_wl w x.fLine (by omega)
  have h3 : wBlock (setBlk x (lnW w x.fLine) (rec x.fKids).1) ≤ wBlock x := by rw [setBlk, wBlock_mk]; simp only [wStr, w1] at h1; omega
  unfold blkW chsW
  repeat' split
  all_goals first | (simp [wl]; done) | (simp only [wl]; omega) | omega
theorem blkPN_bd : ∀ (n : Nat) (w : List ByteArray) (l : List DBlock), wl wBlock l < n → wl wBlock l ≤ 536870912 → wl wBlock (blkPN n w l).1 ≤ wl wBlock l
  | 0, w, l, h, _ => by omega
  | n + 1, w, l, h, hl => by
    rw [blkPN, blkPS_eq]
    refine Nat.le_trans (seqE_wl (w := wBlock) (fun x hx => ?_)) (by simp [wl])
    have h1 := wl_mem (w := wBlock) hx
    have h2 := wBlock_eq x
    exact blkW_wl w _ x (by omega) (blkPN_bd n w x.fKids (by omega) (by omega))
theorem blkPN_to : ∀ (n : Nat) (w : List ByteArray) (l : List DBlock), wl wBlock l < n → wl wBlock l ≤ 536870912 → CallTo Tryz.prog 24 [(.av (.agg [(.rm (setF (w) []) (trues (setF (w) [])))])), (jL (l.map aBlock))] [] [] (.av (.tup [(.sl (((blkPN n w l).1).map aBlock)), (vI ((blkPN n w l).2))])) [] []
  | 0, w, l, h0, _ => absurd h0 (Nat.not_lt_zero _)
  | n + 1, w, l, h0, hl => by
    exact blkP_st (blkPN n) w l hl (fun w' l' q1 hl' => blkPN_to n w' l' (by omega) hl') (fun w' l' q1 hl' => blkPN_bd n w' l' (by omega) hl')
def blkP (w : List ByteArray) (l : List DBlock) : List DBlock × Int := blkPN (wl wBlock l + 1) w l
theorem blkP_to (w : List ByteArray) (l : List DBlock) (hl : wl wBlock l ≤ 536870912) : CallTo Tryz.prog 24 [(.av (.agg [(.rm (setF (w) []) (trues (setF (w) [])))])), (jL (l.map aBlock))] [] [] (.av (.tup [(.sl (((blkP w l).1).map aBlock)), (vI ((blkP w l).2))])) [] [] := blkPN_to _ w l (Nat.lt_succ_self _) hl
theorem blkP_bd (w : List ByteArray) (l : List DBlock) (hl : wl wBlock l ≤ 536870912) : wl wBlock (blkP w l).1 ≤ wl wBlock l := blkPN_bd _ w l (Nat.lt_succ_self _) hl
end Go.Proofs.YtdaglbjgdakmcaaGreat
namespace Go.Proofs.YtdaglbjgdakmcaaGreat
open Go Go.Eng
def aplD (d : DDoc) (flags : List ByteArray) : (DDoc × Int) := cond ((((blkP flags d.fBlocks).2 : Int) != 0)) ((DDoc.mk ([]) ([]), (blkP flags d.fBlocks).2)) ((DDoc.mk d.fMeta ((blkP flags d.fBlocks).1), 0))
set_option maxRecDepth 100000 in
set_option maxHeartbeats 4000000 in
theorem aplD_to (d : DDoc) (flags : List ByteArray) (hd : wDoc d ≤ 536870912) (hf : flags.length ≤ 1073741824) : CallTo Tryz.prog 9 [(.av (cDoc d)), (jL (flags.map strAV))] [] [] (.av (.tup [(cDoc ((aplD d flags).1)), (vI ((aplD d flags).2))])) [] [] := by
  have hwd := wDoc_eq d
  have hmp := wl_len (w := wPair) wPair_pos d.fMeta
  refine BEG (fun r : (DDoc × Int) => (.av (.tup [(cDoc r.1), (vI (r.2))]))) (aplD d flags) Tryz.func9 (by kernel_rfl) ?_
  refine UF (aplD.eq_1 ..) ?_
  have := blkP_bd flags d.fBlocks (by first | assumption | omega | decide | (simp; done) | (simp; omega))
  refine GO (tn 4 (kc (setOf_to (flags) (by unfold maxLen; omega)) (tn 6 (kc (blkP_to flags d.fBlocks (by first | assumption | omega | decide | (simp; done) | (simp; omega))) (tn 7 z))))) (by kernel_rfl) ?_
  refine CSn (fun h1p h1 => ?_) (fun h1p h1 => ?_)
  · refine GO (kb h1 (tn 4 z)) (by kernel_rfl) ?_
    exact EN (by kernel_rfl)
  · refine GO (kb h1 (tn 2 (kp (show Uni 2 (d.fMeta.map aPair) ∧ ((d.fMeta.map aPair) : List AV).length * 32 ≤ 140737488355328 from ⟨uni_aPair _, by first | omega | (simp; done) | (simp; omega)⟩) (kw (Eq.refl (d.fMeta.map aPair)) (tn 4 z))))) (by kernel_rfl) ?_
    exact EN (by kernel_rfl)
end Go.Proofs.YtdaglbjgdakmcaaGreat
namespace Go.Proofs.YtdaglbjgdakmcaaGreat
open Go Go.Eng
theorem aplD_bd (d : DDoc) (flags : List ByteArray) (hd : wDoc d ≤ 536870912) : wDoc (aplD d flags).1 ≤ wDoc d := by
  have h0 := wDoc_eq d
  have h1 := blkP_bd flags d.fBlocks (by omega)
  unfold aplD
  refine condP (fun r : DDoc × Int => wDoc r.1 ≤ wDoc d) (fun _ => ?_) (fun _ => ?_)
  · show wDoc (DDoc.mk [] []) ≤ _; simp [wDoc_eq, wl]; omega
  · show wDoc (DDoc.mk d.fMeta (blkP flags d.fBlocks).1) ≤ _; simp only [wDoc_eq]; omega
end Go.Proofs.YtdaglbjgdakmcaaGreat
namespace Go.Proofs.YtdaglbjgdakmcaaGreat
open Go Go.Eng
def cwlM_L0 (d : DDoc) (flags : List ByteArray) : Nat → Int → Nat → Bool
  | 0, _, _ => default
  | n0 + 1, v9, v10 => cond (decide ((((v10 : Nat) : Int) : Int) < ((lenM aInline (ilsB d.fBlocks) : Nat) : Int))) (cwlM_L0 d flags n0 (cond ((((el (ilsB d.fBlocks) v10).fKind : Int) == 4)) (v9 + 1) (v9)) (v10 + 1)) (cond (cond (cond ((((aplD d flags).2 : Int) != 0)) (true) (((chkD ((aplD d flags).1) : Int) == 0))) (true) (cond (((chkD ((aplD d flags).1) : Int) == 5)) (decide ((v9 : Int) > 1)) (false))) (true) (false))
def cwlM (d : DDoc) (flags : List ByteArray) : Bool := cond (cond (cond ((!smlD d)) (true) (decide ((((lenM strAV flags : Nat) : Int) : Int) > 40))) (true) (((chkD d : Int) != 0))) (true) (cwlM_L0 d flags ((List.length (ilsB d.fBlocks) - (0)) + 1) 0 0)
set_option maxRecDepth 100000 in
set_option maxHeartbeats 4000000 in
theorem cwlM_to (d : DDoc) (flags : List ByteArray) (hd : wDoc d ≤ 536870912) (hf : flags.length ≤ 1073741824) : CallTo Tryz.prog 5 [(.av (cDoc d)), (jL (flags.map strAV))] [] [] (jB (cwlM d flags)) [] [] := by
  have hwd := wDoc_eq d
  have hmp := wl_len (w := wPair) wPair_pos d.fMeta
  have hil := ilsB_len d.fBlocks (by omega)
  refine BEG (fun r : Bool => (jB (r))) (cwlM d flags) Tryz.func5 (by kernel_rfl) ?_
  refine UF (cwlM.eq_1 ..) ?_
  refine GO (tn 3 (kc (smlD_to d (by first | assumption | omega | decide | (simp; done) | (simp; omega))) (tn 2 (kj ((!smlD d)) z (tn 3 z) (tn 1 (kj (cond ((!smlD d)) (true) (decide ((((lenM strAV flags : Nat) : Int) : Int) > 40))) z (tn 1 (hc (fun h => by have j0 := h.2; have := lenM_eq strAV flags; obtain ⟨j0a, j0o⟩ := cond_tt j0; have j0an := notf j0a; have := lenM_eq strAV flags; have j0op := of_decide_eq_false j0o; exact (chkD_to d (by first | assumption | omega | decide | (simp; done) | (simp; omega)))) (tn 1 z))) z)))))) (by kernel_rfl) ?_
  refine CS (fun h1 => ?_) (fun h1 => ?_)
  · have := lenM_eq strAV flags
    refine GO (kb h1 (kc awake_to (tn 1 z))) (by kernel_rfl) ?_
    exact EN (by kernel_rfl)
  · have := lenM_eq strAV flags
    obtain ⟨h1a, h1o⟩ := cond_tt h1
    have := lenM_eq strAV flags
    obtain ⟨h1aa, h1ao⟩ := cond_tt h1a
    have h1aan := notf h1aa
    have := lenM_eq strAV flags
    have h1aop := of_decide_eq_false h1ao
    have h1op := eq_of_bne_false h1o
    have := aplD_bd d flags (by omega)
    refine GO (kb h1 (tn 2 (kc (aplD_to d flags (by first | assumption | omega | decide | (simp; done) | (simp; omega)) (by first | assumption | omega | decide | (simp; done) | (simp; omega))) (tn 7 (kc (chkD_to ((aplD d flags).1) (by first | assumption | omega | decide | (simp; done) | (simp; omega))) (tn 3 (kc (ilsB_to d.fBlocks (by first | assumption | omega | decide | (simp; done) | (simp; omega))) (tn 3 z)))))))) (by kernel_rfl) ?_
    refine LP (fun N M S => ∃ v9 : Int, ∃ v10 : Nat, (0 ≤ v9) ∧ (v9 ≤ v10) ∧ (v10 ≤ (ilsB d.fBlocks).length) ∧ (List.length (ilsB d.fBlocks) - v10 < N) ∧ M = cwlM_L0 d flags N v9 v10 ∧ S = (sx 67 [(6, (jI ((aplD d flags).2))), (7, (jI (chkD ((aplD d flags).1)))), (8, (jL ((ilsB d.fBlocks).map aInline))), (9, (jI (v9))), (10, (jI (((v10 : Nat) : Int))))] [] [])) (by kernel_rfl) ⟨_, _, by first | omega | assumption | (simp only [lenM_eq]; omega) | (simp; done) | (simp; omega), by first | omega | assumption | (simp only [lenM_eq]; omega) | (simp; done) | (simp; omega), by first | omega | assumption | (simp only [lenM_eq]; omega) | (simp; done) | (simp; omega), by omega, rfl, rfl⟩ (WK (by kernel_rfl)) ?_
    rintro n0 M S ⟨v9, v10, hv, hv2, hi, hF0, rfl, rfl⟩
    obtain ⟨n0, rfl⟩ : ∃ k, n0 = k + 1 := ⟨n0 - 1, by omega⟩
    refine UF (cwlM_L0.eq_2 ..) ?_
    refine GO (tn 4 z) (by kernel_rfl) ?_
    refine CSd (fun h2p h2 => ?_) (fun h2p h2 => ?_)
    · have := lenM_eq aInline (ilsB d.fBlocks)
      have := cond_or ((((el (ilsB d.fBlocks) v10).fKind : Int) == 4)) (v9 + 1) (v9)
      refine GO (kb h2 (tn 2 (ke (el_aInline (ilsB d.fBlocks) v10 (by first | omega | (simp only [lenM_eq, true_and]; omega))) (tn 3 (ks ((((el (ilsB d.fBlocks) v10).fKind : Int) == 4)) [9] (tn 1 (hn (fun h => by have j0 := h.2; have j0p := eq_of_beq j0; exact (wrE ((v9) + 1) (v9 + 1) (by omega))) (tn 1 z))) z (tn 1 (kn (wrE ((((v10 : Nat) : Int)) + 1) (((v10 + 1 : Nat) : Int)) (by omega)) (tn 1 z)))))))) (by kernel_rfl) ?_
      exact AG ⟨_, _, by first | omega | assumption | (simp only [lenM_eq]; omega) | (simp; done) | (simp; omega), by first | omega | assumption | (simp only [lenM_eq]; omega) | (simp; done) | (simp; omega), by first | omega | assumption | (simp only [lenM_eq]; omega) | (simp; done) | (simp; omega), by omega, rfl, rfl⟩ (WK (by kernel_rfl)) (by kernel_rfl) (Nat.lt_succ_self _)
    · have := lenM_eq aInline (ilsB d.fBlocks)
      refine GO (kb h2 z) (by kernel_rfl) ?_
      refine OUT (tn 3 (kj ((((aplD d flags).2 : Int) != 0)) z (tn 2 z) (tn 1 (kj (cond ((((aplD d flags).2 : Int) != 0)) (true) (((chkD ((aplD d flags).1) : Int) == 0))) z (tn 3 (kj (((chkD ((aplD d flags).1) : Int) == 5)) (tn 2 z) z z)) (tn 1 (kj (cond (cond ((((aplD d flags).2 : Int) != 0)) (true) (((chkD ((aplD d flags).1) : Int) == 0))) (true) (cond (((chkD ((aplD d flags).1) : Int) == 5)) (decide ((v9 : Int) > 1)) (false))) (kc awake_to z) z (tn 1 z))))))) (by kernel_rfl) ?_
      exact EN (by kernel_rfl)
end Go.Proofs.YtdaglbjgdakmcaaGreat
namespace Go.Proofs.YtdaglbjgdakmcaaGreat
open Go Go.Eng
theorem inl_ind {P : List DInline → Prop} (nil : P []) (cons : ∀ x l, P x.fKids → P l → P (x :: l)) : ∀ l, P l := by
  have key : ∀ (n : Nat) (l : List DInline), wl wInline l < n → P l := by
    intro n
    induction n with
    | zero => intro l h; omega
    | succ n ih =>
      intro l
      induction l with
      | nil => intro _; exact nil
      | cons x l il =>
        intro h
        have h1 := wInline_eq x
        simp only [wl] at h
        exact cons x l (ih _ (by omega)) (il (by omega))
  exact fun l => key _ l (Nat.lt_succ_self _)
theorem blk_ind {P : List DBlock → Prop} (nil : P []) (cons : ∀ x l, P x.fKids → P l → P (x :: l)) : ∀ l, P l := by
  have key : ∀ (n : Nat) (l : List DBlock), wl wBlock l < n → P l := by
    intro n
    induction n with
    | zero => intro l h; omega
    | succ n ih =>
      intro l
      induction l with
      | nil => intro _; exact nil
      | cons x l il =>
        intro h
        have h1 := wBlock_eq x
        simp only [wl] at h
        exact cons x l (ih _ (by omega)) (il (by omega))
  exact fun l => key _ l (Nat.lt_succ_self _)
theorem inl_all {P : List DInline → Prop} (h : ∀ l, (∀ x ∈ l, P x.fKids) → P l) : ∀ l : List DInline, P l := by
  intro l
  have : P l ∧ ∀ x ∈ l, P x.fKids := by
    refine inl_ind (P := fun l => P l ∧ ∀ x ∈ l, P x.fKids) ⟨h [] (by simp), by simp⟩ (fun x l hx hl => ?_) l
    have hk : ∀ y ∈ x :: l, P y.fKids := by
      intro y hy
      simp only [List.mem_cons] at hy
      rcases hy with rfl | hy
      · exact hx.1
      · exact hl.2 y hy
    exact ⟨h _ hk, hk⟩
  exact this.1
theorem blk_all {P : List DBlock → Prop} (h : ∀ l, (∀ x ∈ l, P x.fKids) → P l) : ∀ l : List DBlock, P l := by
  intro l
  have : P l ∧ ∀ x ∈ l, P x.fKids := by
    refine blk_ind (P := fun l => P l ∧ ∀ x ∈ l, P x.fKids) ⟨h [] (by simp), by simp⟩ (fun x l hx hl => ?_) l
    have hk : ∀ y ∈ x :: l, P y.fKids := by
      intro y hy
      simp only [List.mem_cons] at hy
      rcases hy with rfl | hy
      · exact hx.1
      · exact hl.2 y hy
    exact ⟨h _ hk, hk⟩
  exact this.1
/-- A loop over a list. -/
theorem loop_fold {α β : Type} [Inhabited α] (f : α → AV) (l : List α) (g : α → β → β) (z : β) (F : Nat → Nat → β) (hF : ∀ n i, F (n + 1) i = cond (decide ((((i : Nat) : Int) : Int) < ((lenM f l : Nat) : Int))) (g (el l i) (F n (i + 1))) z) : ∀ (n i : Nat), l.length - i < n → F n i = (l.drop i).foldr g z
  | 0, i, h => by omega
  | n + 1, i, h => by
    have hl := lenM_eq f l
    rw [hF]
    by_cases hi : i < l.length
    · rw [dT (by omega), cond_true, drop_el hi, List.foldr_cons, loop_fold f l g z F hF n _ (by omega)]
    · rw [dF (by omega), cond_false, List.drop_eq_nil_of_le (by omega)]; rfl
theorem dpIN_eq : ∀ (n m : Nat) (l : List DInline), wl wInline l < n → wl wInline l < m → dpIN n l = dpIN m l
  | 0, m, l, h, _ => by omega
  | n + 1, 0, l, _, h => by omega
  | n + 1, m + 1, l, h, k => by
    rw [dpIN, dpIN, dpIS_eq, dpIS_eq]
    refine flat_eq (fun x hx => ?_)
    have h1 := wl_mem (w := wInline) hx
    have h2 := wInline_eq x
    rw [dpIN_eq n m x.fKids (by omega) (by omega)]
theorem dpI_flat (l : List DInline) : dpI l = l.flatMap (fun x => x :: dpI x.fKids) := by
  rw [dpI, dpIN, dpIS_eq]
  refine flat_eq (fun x hx => ?_)
  have h1 := wl_mem (w := wInline) hx
  have h2 := wInline_eq x
  rw [dpI, dpIN_eq _ (wl wInline x.fKids + 1) x.fKids (by omega) (by omega)]
theorem dpI_cons (x : DInline) (l : List DInline) : dpI (x :: l) = x :: (dpI x.fKids ++ dpI l) := by
  rw [dpI_flat, List.flatMap_cons, ← dpI_flat l]; rfl
theorem mem_dpI {y : DInline} {l : List DInline} : y ∈ dpI l ↔ ∃ x ∈ l, y = x ∨ y ∈ dpI x.fKids := by
  rw [dpI_flat, List.mem_flatMap]; simp
theorem lsBN_eq : ∀ (n m : Nat) (l : List DBlock), wl wBlock l < n → wl wBlock l < m → lsBN n l = lsBN m l
  | 0, m, l, h, _ => by omega
  | n + 1, 0, l, _, h => by omega
  | n + 1, m + 1, l, h, k => by
    rw [lsBN, lsBN, lsBS_eq, lsBS_eq]
    refine flat_eq (fun x hx => ?_)
    have h1 := wl_mem (w := wBlock) hx
    have h2 := wBlock_eq x
    rw [lsBN_eq n m x.fKids (by omega) (by omega)]
theorem lsB_flat (l : List DBlock) : lsB l = l.flatMap (fun x => x :: lsB x.fKids) := by
  rw [lsB, lsBN, lsBS_eq]
  refine flat_eq (fun x hx => ?_)
  have h1 := wl_mem (w := wBlock) hx
  have h2 := wBlock_eq x
  rw [lsB, lsBN_eq _ (wl wBlock x.fKids + 1) x.fKids (by omega) (by omega)]
theorem lsB_cons (x : DBlock) (l : List DBlock) : lsB (x :: l) = x :: (lsB x.fKids ++ lsB l) := by
  rw [lsB_flat, List.flatMap_cons, ← lsB_flat l]; rfl
def sq {α β : Type} (f : α → List β × Int) : List α → List β × Int
  | [] => ([], 0)
  | x :: r => if (f x).2 ≠ 0 then ([], (f x).2) else if (sq f r).2 ≠ 0 then ([], (sq f r).2) else ((f x).1 ++ (sq f r).1, 0)
theorem seqE_sq {α β : Type} (f : α → List β × Int) : ∀ (l : List α) (acc : List β), seqE f l acc = if (sq f l).2 ≠ 0 then ([], (sq f l).2) else (acc ++ (sq f l).1, 0)
  | [], acc => by simp [seqE, sq]
  | x :: r, acc => by
    rw [seqE, sq]
    split
    · rename_i h; simp [h]
    · rw [seqE_sq f r]; split
      · rename_i h; simp [h]
      · simp
theorem sq_nil_of {α β : Type} {f : α → List β × Int} : ∀ {l : List α}, (sq f l).2 ≠ 0 → (sq f l).1 = []
  | [], h => by simp [sq] at h
  | x :: r, h => by
    rw [sq] at h ⊢
    split
    · rfl
    · split
      · rfl
      · rename_i h1 h2; simp [h1, h2] at h
theorem seqE_eq {α β : Type} (f : α → List β × Int) (l : List α) : seqE f l [] = sq f l := by
  rw [seqE_sq]
  split
  · rename_i h; have := sq_nil_of h; exact Prod.ext this.symm rfl
  · rename_i h; simp only [ne_eq, Decidable.not_not] at h; exact Prod.ext (by simp) h.symm
theorem sq_congr {α β : Type} {f g : α → List β × Int} : ∀ {l : List α}, (∀ x ∈ l, f x = g x) → sq f l = sq g l
  | [], _ => rfl
  | x :: r, h => by rw [sq, sq, h x (by simp), sq_congr (fun y hy => h y (by simp [hy]))]
theorem inlW_congr {w : List ByteArray} {r r' : List DInline → List DInline × Int} {x : DInline} (h : r x.fKids = r' x.fKids) : inlW w r x = inlW w r' x := by unfold inlW; rw [h]
theorem linPN_eq : ∀ (n m : Nat) (w : List ByteArray) (l : List DInline), wl wInline l < n → wl wInline l < m → linPN n w l = linPN m w l
  | 0, m, w, l, h, _ => by omega
  | n + 1, 0, w, l, _, h => by omega
  | n + 1, m + 1, w, l, h, k => by
    rw [linPN, linPN, linPS_eq, linPS_eq, seqE_eq, seqE_eq]
    refine sq_congr (fun x hx => inlW_congr ?_)
    have h1 := wl_mem (w := wInline) hx
    have h2 := wInline_eq x
    exact linPN_eq n m w x.fKids (by omega) (by omega)
theorem linP_eq (w : List ByteArray) (l : List DInline) : linP w l = sq (inlW w (linP w)) l := by
  rw [linP, linPN, linPS_eq, seqE_eq]
  refine sq_congr (fun x hx => inlW_congr ?_)
  have h1 := wl_mem (w := wInline) hx
  have h2 := wInline_eq x
  exact linPN_eq _ _ w x.fKids (by omega) (by omega)
theorem blkW_congr {w : List ByteArray} {r r' : List DBlock → List DBlock × Int} {x : DBlock} (h : r x.fKids = r' x.fKids) : blkW w r x = blkW w r' x := by unfold blkW chsW; rw [h]
theorem blkPN_eq : ∀ (n m : Nat) (w : List ByteArray) (l : List DBlock), wl wBlock l < n → wl wBlock l < m → blkPN n w l = blkPN m w l
  | 0, m, w, l, h, _ => by omega
  | n + 1, 0, w, l, _, h => by omega
  | n + 1, m + 1, w, l, h, k => by
    rw [blkPN, blkPN, blkPS_eq, blkPS_eq, seqE_eq, seqE_eq]
    refine sq_congr (fun x hx => blkW_congr ?_)
    have h1 := wl_mem (w := wBlock) hx
    have h2 := wBlock_eq x
    exact blkPN_eq n m w x.fKids (by omega) (by omega)
theorem blkP_eq (w : List ByteArray) (l : List DBlock) : blkP w l = sq (blkW w (blkP w)) l := by
  rw [blkP, blkPN, blkPS_eq, seqE_eq]
  refine sq_congr (fun x hx => blkW_congr ?_)
  have h1 := wl_mem (w := wBlock) hx
  have h2 := wBlock_eq x
  exact blkPN_eq _ _ w x.fKids (by omega) (by omega)
theorem tdyLN_eq : ∀ (n m : Nat) (l : List DInline), wl wInline l < n → wl wInline l < m → tdyLN n l = tdyLN m l
  | 0, m, l, h, _ => by omega
  | n + 1, 0, l, _, h => by omega
  | n + 1, m + 1, l, h, k => by
    rw [tdyLN, tdyLN, tdyLS_eq, tdyLS_eq]
    congr 2
    refine flat_eq (fun x hx => ?_)
    have h1 := wl_mem (w := wInline) hx
    have h2 := wInline_eq x
    rw [tdyLN_eq n m x.fKids (by omega) (by omega)]
/-- One level of tidy. -/
def td1 (l : List DInline) : List DInline := l.flatMap (fun x => tdk (tdyL x.fKids) x)
theorem tdyL_eq (l : List DInline) : tdyL l = sg false (mg (flt (td1 l))) := by
  rw [tdyL, tdyLN, tdyLS_eq, sngL_eq, mrgL_eq, td1]
  congr 3
  refine flat_eq (fun x hx => ?_)
  have h1 := wl_mem (w := wInline) hx
  have h2 := wInline_eq x
  rw [tdyL, tdyLN_eq _ (wl wInline x.fKids + 1) x.fKids (by omega) (by omega)]
end Go.Proofs.YtdaglbjgdakmcaaGreat
namespace Go.Proofs.YtdaglbjgdakmcaaGreat
open Go Go.Eng
def Sub (a b : List DInline) : Prop := ∀ y ∈ dpI a, ∃ z ∈ dpI b, y.fKind = z.fKind ∧ y.fAttr = z.fAttr
theorem Sub.refl (a : List DInline) : Sub a a := fun y hy => ⟨y, hy, rfl, rfl⟩
theorem Sub.trans {a b c : List DInline} (h : Sub a b) (k : Sub b c) : Sub a c := fun y hy => by
  obtain ⟨z, hz, e1, e2⟩ := h y hy
  obtain ⟨u, hu, e3, e4⟩ := k z hz
  exact ⟨u, hu, e1.trans e3, e2.trans e4⟩
theorem Sub.of_mem {a b : List DInline} (h : ∀ x ∈ a, x ∈ b) : Sub a b := fun y hy => by
  obtain ⟨x, hx, h1⟩ := mem_dpI.1 hy
  exact ⟨y, mem_dpI.2 ⟨x, h x hx, h1⟩, rfl, rfl⟩
theorem Sub.cons {x y : DInline} {a b : List DInline} (h1 : x.fKind = y.fKind) (h2 : x.fAttr = y.fAttr) (hk : Sub x.fKids y.fKids) (h : Sub a b) : Sub (x :: a) (y :: b) := fun u hu => by
  rw [dpI_cons] at hu ⊢
  simp only [List.mem_cons, List.mem_append] at hu
  rcases hu with rfl | hu | hu
  · exact ⟨y, by simp, h1, h2⟩
  · obtain ⟨z, hz, e⟩ := hk u hu; exact ⟨z, by simp [hz], e⟩
  · obtain ⟨z, hz, e⟩ := h u hu; exact ⟨z, by simp [hz], e⟩
theorem Sub.more {a b : List DInline} (y : DInline) (h : Sub a b) : Sub a (y :: b) := fun u hu => by
  obtain ⟨z, hz, e⟩ := h u hu; exact ⟨z, by rw [dpI_cons]; simp [hz], e⟩
theorem Sub_mga : ∀ (r : List DInline) (x : DInline), Sub (mga x r) (x :: r)
  | [], x => by rw [mga]; exact Sub.refl _
  | y :: r, x => by
    rw [mga]; split
    · refine (Sub_mga r _).trans (Sub.cons rfl rfl (Sub.refl _) (Sub.more y (Sub.refl _)))
    · exact Sub.cons rfl rfl (Sub.refl _) (Sub_mga r y)
theorem Sub_mg : ∀ l : List DInline, Sub (mg l) l
  | [] => Sub.refl _
  | x :: r => Sub_mga r x
theorem flt_sub {l : List DInline} {x : DInline} (h : x ∈ flt l) : x ∈ l := (List.mem_filter.1 h).1
theorem dropS_sub : ∀ {l : List DInline} {x : DInline}, x ∈ dropS l → x ∈ l
  | [], x, h => h
  | y :: r, x, h => by
    rw [dropS] at h; split at h
    · exact List.mem_cons_of_mem _ (dropS_sub h)
    · exact h
theorem dropB_sub : ∀ {l : List DInline} {x : DInline}, x ∈ dropB l → x ∈ l
  | [], x, h => h
  | y :: r, x, h => by
    rw [dropB] at h; split at h
    · split at h
      · simp at h
      · simp at h; simp [h]
    · rename_i z r' e
      simp only [List.mem_cons] at h ⊢
      rcases h with h | h
      · exact .inl h
      · exact .inr (dropB_sub (by rw [e]; simpa using h))
theorem Sub_trm (l : List DInline) : Sub (trmL l) l := by rw [trmL_eq]; exact Sub.of_mem (fun x h => dropS_sub (dropB_sub h))
theorem Sub_td1 : ∀ l : List DInline, (∀ x ∈ l, Sub (tdyL x.fKids) x.fKids) → Sub (td1 l) l
  | [], _ => Sub.refl _
  | y :: l, h => by
    have h1 := h y (by simp)
    have h2 := Sub_td1 l (fun z hz => h z (by simp [hz]))
    rw [td1, List.flatMap_cons, ← td1, tdk]
    split
    · exact Sub.more y h2
    · exact Sub.cons rfl rfl h1 h2
theorem Sub_tdy : ∀ l : List DInline, Sub (tdyL l) l := by
  refine inl_all (fun l hl => ?_)
  rw [tdyL_eq]
  exact (Sub.of_mem (fun x hx => sg_sub _ _ _ hx)).trans ((Sub_mg _).trans ((Sub.of_mem (fun x hx => flt_sub hx)).trans (Sub_td1 l hl)))
def adjK : Int → List DInline → Prop
  | _, [] => True
  | k, y :: r => ¬ (k = 1 ∧ y.fKind = 1) ∧ adjK y.fKind r
theorem adjK_mono {k k' : Int} (hk : k ≠ 1) : ∀ {l : List DInline}, adjK k' l → adjK k l
  | [], _ => trivial
  | y :: r, h => ⟨fun q => hk q.1, h.2⟩
def brkOk : Bool → List DInline → Prop
  | _, [] => True
  | a, x :: r => (x.fKind = 2 → a = false) ∧ brkOk (brk2 x.fKind) r
structure N1 (l : List DInline) : Prop where
  emp : ∀ x ∈ l, emk x.fKind = true → x.fKids ≠ []
  txt : ∀ x ∈ l, fltq x = true
  adj : adjK 0 l
  brk : brkOk false l
theorem brk2_ne1 {k : Int} (h : brk2 k = true) : k ≠ 1 := by rintro rfl; exact absurd h (by decide)
theorem adjK_sg : ∀ (l : List DInline) (a : Bool) (k : Int), adjK k l → (a = true → k ≠ 1) → adjK k (sg a l)
  | [], a, k, _, _ => trivial
  | y :: r, a, k, h, ha => by
    rw [sg]
    split
    · exact ⟨h.1, adjK_sg r _ _ h.2 brk2_ne1⟩
    · rename_i hc
      have hat : a = true := by
        cases a
        · cases (y.fKind != 2) <;> simp at hc
        · rfl
      exact adjK_sg r _ _ (adjK_mono (ha hat) h.2) (fun _ => ha hat)
theorem brkOk_sg : ∀ (l : List DInline) (a : Bool), brkOk a (sg a l)
  | [], a => trivial
  | y :: r, a => by
    rw [sg]
    split
    · rename_i hc
      refine ⟨fun h2 => ?_, brkOk_sg r _⟩
      rw [h2] at hc; cases a <;> simp_all
    · rename_i hc
      have h2 : y.fKind = 2 ∧ a = true := by
        by_cases h2 : y.fKind = 2
        · exact ⟨h2, by rw [h2] at hc; cases a <;> simp_all⟩
        · rw [bne_iff_ne.2 h2] at hc; exact absurd rfl hc
      rw [h2.1, h2.2]; exact brkOk_sg r true
theorem adjK_mga : ∀ (r : List DInline) (x : DInline) (k : Int), ¬ (k = 1 ∧ x.fKind = 1) → adjK k (mga x r)
  | [], x, k, h => ⟨h, trivial⟩
  | y :: r, x, k, h => by
    rw [mga]; split
    · exact adjK_mga r _ k h
    · rename_i hc; exact ⟨h, adjK_mga r y _ hc⟩
theorem adjK_mg : ∀ (l : List DInline), adjK 0 (mg l)
  | [] => trivial
  | x :: r => adjK_mga r x 0 (by simp)
theorem mga_mem : ∀ (r : List DInline) (x z : DInline), z ∈ mga x r → ∃ u ∈ x :: r, z.fKind = u.fKind ∧ z.fKids = u.fKids
  | [], x, z, h => by simp only [mga, List.mem_singleton] at h; subst h; exact ⟨z, by simp, rfl, rfl⟩
  | y :: r, x, z, h => by
    rw [mga] at h; split at h
    · obtain ⟨u, hu, e1, e2⟩ := mga_mem r _ z h
      simp only [List.mem_cons] at hu
      rcases hu with rfl | hu
      · exact ⟨x, by simp, e1, e2⟩
      · exact ⟨u, by simp [hu], e1, e2⟩
    · simp only [List.mem_cons] at h
      rcases h with rfl | h
      · exact ⟨z, by simp, rfl, rfl⟩
      · obtain ⟨u, hu, e⟩ := mga_mem r y z h; exact ⟨u, by simp only [List.mem_cons] at hu ⊢; exact .inr hu, e⟩
theorem mg_mem {l : List DInline} {z : DInline} (h : z ∈ mg l) : ∃ u ∈ l, z.fKind = u.fKind ∧ z.fKids = u.fKids := by
  cases l with
  | nil => exact absurd h (by simp [mg])
  | cons x r => exact mga_mem r x z h
theorem fltq_size {x : DInline} : fltq x = true ↔ (x.fKind = 1 → 0 < x.fText.size) := by
  unfold fltq
  by_cases h : x.fKind = 1
  · simp only [h, bne_self_eq_false, cond_false, forall_const]
    exact ⟨size_neqs_t, fun q => by cases hq : eqs x.fText ⟨#[]⟩ with | false => rfl | true => have := size_eqs_t hq; omega⟩
  · simp [h, bne_iff_ne.2 h]
theorem fltq_mga : ∀ (r : List DInline) (x : DInline), (∀ u ∈ x :: r, fltq u = true) → ∀ z ∈ mga x r, fltq z = true
  | [], x, h, z, hz => h z (by simpa [mga] using hz)
  | y :: r, x, h, z, hz => by
    rw [mga] at hz; split at hz
    · rename_i hc
      refine fltq_mga r _ (fun u hu => ?_) z hz
      simp only [List.mem_cons] at hu
      rcases hu with rfl | hu
      · rw [fltq_size]; intro _
        have := fltq_size.1 (h x (by simp)) hc.1
        show 0 < (x.fText ++ y.fText).size
        rw [ByteArray.size_append]; omega
      · exact h u (by simp [hu])
    · simp only [List.mem_cons] at hz
      rcases hz with rfl | hz
      · exact h _ (by simp)
      · exact fltq_mga r y (fun u hu => h u (by simp only [List.mem_cons] at hu ⊢; exact .inr hu)) z hz
theorem fltq_mg {l : List DInline} (h : ∀ u ∈ l, fltq u = true) : ∀ z ∈ mg l, fltq z = true := by
  cases l with
  | nil => intro z hz; exact absurd hz (by simp [mg])
  | cons x r => exact fltq_mga r x h
theorem td1_mem {l : List DInline} {z : DInline} (h : z ∈ td1 l) : ∃ x ∈ l, z = setKids x (tdyL x.fKids) ∧ (emk z.fKind = true → z.fKids ≠ []) := by
  rw [td1, List.mem_flatMap] at h
  obtain ⟨x, hx, hz⟩ := h
  rw [tdk] at hz
  split at hz
  · simp at hz
  · rename_i hc
    simp only [List.mem_singleton] at hz
    subst hz
    exact ⟨x, hx, rfl, fun q e => hc ⟨q, e⟩⟩
theorem tdy_mem {l : List DInline} {z : DInline} (h : z ∈ tdyL l) : ∃ x ∈ l, z.fKind = x.fKind ∧ z.fKids = tdyL x.fKids ∧ (emk z.fKind = true → z.fKids ≠ []) := by
  rw [tdyL_eq] at h
  obtain ⟨u, hu, e1, e2⟩ := mg_mem (sg_sub _ _ _ h)
  obtain ⟨x, hx, rfl, e4⟩ := td1_mem (flt_sub hu)
  exact ⟨x, hx, e1, e2, fun q => by rw [e2]; rw [e1] at q; exact e4 q⟩
theorem N1_tdy (l : List DInline) : N1 (tdyL l) := by
  refine ⟨fun x hx => ?_, fun x hx => ?_, ?_, ?_⟩
  · obtain ⟨_, _, _, _, h⟩ := tdy_mem hx; exact h
  · rw [tdyL_eq] at hx
    exact fltq_mg (fun u hu => (List.mem_filter.1 hu).2) x (sg_sub _ _ _ hx)
  · rw [tdyL_eq]; exact adjK_sg _ _ _ (adjK_mg _) (fun h => by cases h)
  · rw [tdyL_eq]; exact brkOk_sg _ _
theorem adjK_dropS : ∀ {l : List DInline} {k : Int}, adjK k l → adjK 0 (dropS l)
  | [], k, h => trivial
  | x :: r, k, h => by
    rw [dropS]; split
    · exact adjK_dropS h.2
    · exact ⟨fun q => by simp at q, h.2⟩
theorem adjK_dropB : ∀ {l : List DInline} {k : Int}, adjK k l → adjK k (dropB l)
  | [], k, h => trivial
  | x :: r, k, h => by
    have h2 := adjK_dropB h.2
    rw [dropB]; split
    · split
      · trivial
      · exact ⟨h.1, trivial⟩
    · rename_i y r' e; rw [e] at h2; exact ⟨h.1, h2⟩
theorem brkOk_dropS : ∀ {l : List DInline} {a : Bool}, brkOk a l → brkOk false (dropS l)
  | [], a, h => trivial
  | x :: r, a, h => by
    rw [dropS]; split
    · exact brkOk_dropS h.2
    · exact ⟨fun _ => rfl, h.2⟩
theorem brkOk_dropB : ∀ {l : List DInline} {a : Bool}, brkOk a l → brkOk a (dropB l)
  | [], a, h => trivial
  | x :: r, a, h => by
    have h2 := brkOk_dropB h.2
    rw [dropB]; split
    · split
      · trivial
      · exact ⟨h.1, trivial⟩
    · rename_i y r' e; rw [e] at h2; exact ⟨h.1, h2⟩
theorem trm_sub {l : List DInline} {x : DInline} (h : x ∈ trmL l) : x ∈ l := by rw [trmL_eq] at h; exact dropS_sub (dropB_sub h)
theorem N1_trm {l : List DInline} (h : N1 l) : N1 (trmL l) := by
  refine ⟨fun x hx => h.emp x (trm_sub hx), fun x hx => h.txt x (trm_sub hx), ?_, ?_⟩
  · rw [trmL_eq]; exact adjK_dropB (adjK_dropS h.adj)
  · rw [trmL_eq]; exact brkOk_dropB (brkOk_dropS h.brk)
/-- Trimmed. -/
def trimd (l : List DInline) : Prop := (∀ x r, l = x :: r → x.fKind ≠ 2) ∧ ∀ x r, l = r ++ [x] → brk2 x.fKind = false
theorem dropS_head : ∀ (l : List DInline) x r, dropS l = x :: r → x.fKind ≠ 2
  | [], x, r, h => by simp [dropS] at h
  | y :: l, x, r, h => by
    rw [dropS] at h; split at h
    · exact dropS_head l x r h
    · rename_i hc; simp only [List.cons.injEq] at h; rw [← h.1]; exact hc
theorem dropB_head {l : List DInline} {x : DInline} {r : List DInline} (h : dropB l = x :: r) : ∃ r', l = x :: r' := by
  cases l with
  | nil => simp [dropB] at h
  | cons y l =>
    rw [dropB] at h; split at h
    · split at h
      · simp at h
      · simp only [List.cons.injEq] at h; exact ⟨l, by rw [h.1]⟩
    · simp only [List.cons.injEq] at h; exact ⟨l, by rw [h.1]⟩
theorem dropB_last : ∀ (n : Nat) (l : List DInline), l.length = n → ∀ x r, dropB l = r ++ [x] → brk2 x.fKind = false
  | 0, l, hn, x, r, h => by
    have := List.eq_nil_of_length_eq_zero hn; subst this
    simp [dropB] at h
  | n + 1, l, hn, x, r, h => by
    rcases List.eq_nil_or_concat l with rfl | ⟨l', y, rfl⟩
    · simp at hn
    · rw [List.concat_eq_append] at h hn
      rw [dropB_snoc] at h
      split at h
      · exact dropB_last n l' (by simpa using hn) x r h
      · rename_i hc
        have := (List.append_inj' h rfl).2
        simp only [List.cons.injEq, and_true] at this
        rw [← this]; simpa using hc
theorem trimd_trm (l : List DInline) : trimd (trmL l) := by
  rw [trmL_eq]
  refine ⟨fun x r h => ?_, fun x r h => dropB_last _ _ rfl x r h⟩
  obtain ⟨r', e⟩ := dropB_head h
  exact dropS_head _ _ _ e
end Go.Proofs.YtdaglbjgdakmcaaGreat
namespace Go.Proofs.YtdaglbjgdakmcaaGreat
open Go Go.Eng
theorem foldr_any {α : Type} (p : α → Bool) (z : Bool) : ∀ l : List α, l.foldr (fun x r => cond (p x) true r) z = (l.any p || z)
  | [] => rfl
  | x :: l => by rw [List.foldr_cons, foldr_any p z l, List.any_cons]; cases p x <;> simp
def lsq (rec : List DInline → Int → Int) (depth : Int) : Bool → Int → List DInline → Int
  | _, _, [] => 0
  | f, before, x :: r => if depth > 15 then 11 else
      if oneE x before (cond (depth == 0) f false) (cond (depth == 0) r.isEmpty false) ≠ 0 then oneE x before (cond (depth == 0) f false) (cond (depth == 0) r.isEmpty false)
      else if rec x.fKids (depth + 1) ≠ 0 then rec x.fKids (depth + 1) else lsq rec depth false x.fKind r
theorem listES_L0_eq (rec : List DInline → Int → Int) (l : List DInline) (depth : Int) : ∀ (n : Nat) (before : Int) (i : Nat), l.length - i < n → listES_L0 rec l depth n before i = lsq rec depth (decide (i = 0)) before (l.drop i)
  | 0, before, i, h => by omega
  | n + 1, before, i, h => by
    have hl := lenM_eq aInline l
    rw [listES_L0]
    by_cases hi : i < l.length
    · rw [dT (by omega), cond_true, drop_el hi, lsq, listES_L0_eq rec l depth n _ _ (by omega)]
      have e1 : ((((i : Nat) : Int) : Int) == 0) = decide (i = 0) := by
        by_cases h0 : i = 0
        · subst h0; rfl
        · rw [dF h0]; exact beq_eq_false_iff_ne.2 (by omega)
      have e2 : ((((i : Nat) : Int) : Int) == (((lenM aInline l : Nat) : Int)) - 1) = (l.drop (i + 1)).isEmpty := by
        by_cases h0 : i + 1 = l.length
        · rw [List.drop_eq_nil_of_le (by omega)]; exact beq_iff_eq.2 (by omega)
        · rw [drop_el (by omega)]; exact beq_eq_false_iff_ne.2 (by omega)
      rw [e1, e2, show decide (i + 1 = 0) = false from rfl]
      generalize cond (depth == 0) (decide (i = 0)) false = f
      generalize cond (depth == 0) (l.drop (i + 1)).isEmpty false = g
      by_cases hd : depth > 15
      · rw [dT hd, if_pos hd]; rfl
      · rw [dF hd, if_neg hd, cond_false]
        by_cases ho : oneE (el l i) before f g = 0
        · by_cases hr : rec (el l i).fKids (depth + 1) = 0
          · simp [ho, hr]
          · simp [ho, hr, bne_iff_ne.2 hr]
        · simp [ho, bne_iff_ne.2 ho]
    · rw [dF (by omega), cond_false, List.drop_eq_nil_of_le (by omega)]; rfl
theorem lsq_congr {r r' : List DInline → Int → Int} {depth : Int} : ∀ {f : Bool} {before : Int} {l : List DInline}, (∀ x ∈ l, r x.fKids (depth + 1) = r' x.fKids (depth + 1)) → lsq r depth f before l = lsq r' depth f before l
  | f, before, [], _ => rfl
  | f, before, x :: l, h => by rw [lsq, lsq, h x (by simp), lsq_congr (fun y hy => h y (by simp [hy]))]
theorem listEN_eq : ∀ (n m : Nat) (l : List DInline) (depth : Int), wl wInline l < n → wl wInline l < m → listEN n l depth = listEN m l depth
  | 0, m, l, d, h, _ => by omega
  | n + 1, 0, l, d, _, h => by omega
  | n + 1, m + 1, l, d, h, k => by
    rw [listEN, listEN, listES, listES, listES_L0_eq _ _ _ _ _ _ (by omega), listES_L0_eq _ _ _ _ _ _ (by omega)]
    simp only [List.drop_zero]
    refine lsq_congr (fun x hx => ?_)
    have h1 := wl_mem (w := wInline) hx
    have h2 := wInline_eq x
    exact listEN_eq n m x.fKids _ (by omega) (by omega)
theorem listE_eq (l : List DInline) (depth : Int) : listE l depth = lsq listE depth true 0 l := by
  rw [listE, listEN, listES, listES_L0_eq _ _ _ _ _ _ (by omega)]
  simp only [List.drop_zero]
  refine lsq_congr (fun x hx => ?_)
  have h1 := wl_mem (w := wInline) hx
  have h2 := wInline_eq x
  exact listEN_eq _ _ x.fKids _ (by omega) (by omega)
end Go.Proofs.YtdaglbjgdakmcaaGreat
namespace Go.Proofs.YtdaglbjgdakmcaaGreat
open Go Go.Eng
theorem beqT {a b : Int} (h : a = b) : (a == b) = true := beq_iff_eq.2 h
theorem beqF {a b : Int} (h : a ≠ b) : (a == b) = false := beq_eq_false_iff_ne.2 h
structure One0 (x : DInline) (before : Int) (f g : Bool) : Prop where
  fld : inlF x = true
  txt : x.fKind = 1 → 0 < x.fText.size ∧ before ≠ 1
  soft : x.fKind = 2 → brk2 before = false ∧ f = false ∧ g = false
  hard : x.fKind = 3 → g = false
  emp : emk x.fKind = true → x.fKids ≠ []
theorem emk_eq (k : Int) : emk k = cond (k == 6) true (cond (k == 7) true (k == 8)) := by unfold emk; cases (k == 6) <;> cases (k == 7) <;> rfl
theorem emk_iff (k : Int) : emk k = true ↔ k = 6 ∨ k = 7 ∨ k = 8 := by
  rw [emk_eq]
  by_cases h6 : k = 6
  · simp [h6]
  · by_cases h7 : k = 7
    · simp [h7]
    · simp [beqF h6, beqF h7, h6, h7]
theorem oneE_zero {x : DInline} {before : Int} {f g : Bool} (h : oneE x before f g = 0) : One0 x before f g := by
  unfold oneE at h
  cases hi : inlF x with
  | false => rw [hi] at h; exact absurd (show (5 : Int) = 0 from h) (by decide)
  | true =>
    rw [hi] at h
    simp only [Bool.not_true, cond_false] at h
    refine ⟨hi, fun hk => ?_, fun hk => ?_, fun hk => ?_, fun hk => ?_⟩
    · rw [hk] at h
      simp only [show ((1 : Int) == 1) = true from rfl, cond_true, show ((1 : Int) != 5) = true from rfl] at h
      cases he : eqs x.fText ⟨#[]⟩ with
      | true => rw [he] at h; exact absurd (show (17 : Int) = 0 from h) (by decide)
      | false =>
        rw [he] at h
        refine ⟨size_eqs_f he, fun hb => ?_⟩
        rw [hb] at h
        cases hlb : lineB x.fText <;> rw [hlb] at h
        · exact absurd (show (17 : Int) = 0 from h) (by decide)
        · exact absurd (show (5 : Int) = 0 from h) (by decide)
    · rw [hk] at h
      cases f <;> cases g <;> by_cases hb2 : before = 2 <;> by_cases hb3 : before = 3 <;> simp [hb2, hb3, beqF, brk2] at h ⊢
    · rw [hk] at h
      cases g
      · rfl
      · exact absurd (show (5 : Int) = 0 from h) (by decide)
    · rcases (emk_iff _).1 hk with hk | hk | hk <;> rw [hk] at h <;> intro hn <;> rw [hn] at h <;> exact absurd (show (8 : Int) = 0 from h) (by decide)
structure L0 (rec : List DInline → Int → Int) (depth : Int) (before : Int) (l : List DInline) : Prop where
  emp : ∀ x ∈ l, emk x.fKind = true → x.fKids ≠ []
  txt : ∀ x ∈ l, fltq x = true
  adj : adjK before l
  brk : brkOk (brk2 before) l
  kids : ∀ x ∈ l, rec x.fKids (depth + 1) = 0
theorem lsq_zero {rec : List DInline → Int → Int} {depth : Int} : ∀ {l : List DInline} {f : Bool} {before : Int}, lsq rec depth f before l = 0 → L0 rec depth before l
  | [], f, before, _ => ⟨by simp, by simp, trivial, trivial, by simp⟩
  | x :: r, f, before, h => by
    rw [lsq] at h
    split at h
    · simp at h
    · split at h
      · rename_i h1; exact absurd h h1
      · split at h
        · rename_i h1; exact absurd h h1
        · rename_i hd ho hr
          have o := oneE_zero (Decidable.not_not.1 ho)
          have t := lsq_zero h
          refine ⟨?_, ?_, ?_, ?_, ?_⟩
          · intro y hy; simp only [List.mem_cons] at hy
            rcases hy with rfl | hy
            · exact o.emp
            · exact t.emp y hy
          · intro y hy; simp only [List.mem_cons] at hy
            rcases hy with rfl | hy
            · exact fltq_size.2 (fun hk => (o.txt hk).1)
            · exact t.txt y hy
          · exact ⟨fun q => (o.txt q.2).2 q.1, t.adj⟩
          · exact ⟨fun q => (o.soft q).1, t.brk⟩
          · intro y hy; simp only [List.mem_cons] at hy
            rcases hy with rfl | hy
            · exact Decidable.not_not.1 hr
            · exact t.kids y hy
def bsq (rec : List DBlock → Int → Int → Int) (inn depth : Int) : List DBlock → Int
  | [] => 0
  | b :: r => if depth > 15 then 11 else if blkF b = false ∨ placeB b.fKind inn = false then 5 else if itsE b ≠ 0 then itsE b
      else if rec b.fKids b.fKind (depth + 1) ≠ 0 then rec b.fKids b.fKind (depth + 1) else bsq rec inn depth r
theorem blsES_eq (rec : List DBlock → Int → Int → Int) (l : List DBlock) (inn depth : Int) : blsES rec l inn depth = bsq rec inn depth l := by
  have h := loop_fold aBlock l (fun b r => if depth > 15 then 11 else if blkF b = false ∨ placeB b.fKind inn = false then 5 else if itsE b ≠ 0 then itsE b
      else if rec b.fKids b.fKind (depth + 1) ≠ 0 then rec b.fKids b.fKind (depth + 1) else r) 0 (blsES_L0 rec l inn depth) (fun n i => by
    rw [blsES_L0]
    congr 1
    by_cases hd : depth > 15
    · rw [dT hd, if_pos hd]; rfl
    · rw [dF hd, if_neg hd, cond_false]
      cases blkF (el l i) <;> cases placeB (el l i).fKind inn <;> simp only [Bool.not_true, Bool.not_false, cond_true, cond_false, true_or, or_true, if_true, Bool.true_eq_false, Bool.false_eq_true, or_self, if_false]
      by_cases ho : itsE (el l i) = 0
      · by_cases hr : rec (el l i).fKids (el l i).fKind (depth + 1) = 0
        · simp [ho, hr]
        · simp [ho, hr, bne_iff_ne.2 hr]
      · simp [ho, bne_iff_ne.2 ho])
  rw [blsES, h _ _ (by omega), List.drop_zero]
  clear h
  induction l with
  | nil => rfl
  | cons b l ih => rw [List.foldr_cons, ih, bsq]
theorem bsq_congr {r r' : List DBlock → Int → Int → Int} {inn depth : Int} : ∀ {l : List DBlock}, (∀ x ∈ l, r x.fKids x.fKind (depth + 1) = r' x.fKids x.fKind (depth + 1)) → bsq r inn depth l = bsq r' inn depth l
  | [], _ => rfl
  | x :: l, h => by rw [bsq, bsq, h x (by simp), bsq_congr (fun y hy => h y (by simp [hy]))]
theorem blsEN_eq : ∀ (n m : Nat) (l : List DBlock) (inn depth : Int), wl wBlock l < n → wl wBlock l < m → blsEN n l inn depth = blsEN m l inn depth
  | 0, m, l, i, d, h, _ => by omega
  | n + 1, 0, l, i, d, _, h => by omega
  | n + 1, m + 1, l, i, d, h, k => by
    rw [blsEN, blsEN, blsES_eq, blsES_eq]
    refine bsq_congr (fun x hx => ?_)
    have h1 := wl_mem (w := wBlock) hx
    have h2 := wBlock_eq x
    exact blsEN_eq n m x.fKids _ _ (by omega) (by omega)
theorem blsE_eq (l : List DBlock) (inn depth : Int) : blsE l inn depth = bsq blsE inn depth l := by
  rw [blsE, blsEN, blsES_eq]
  refine bsq_congr (fun x hx => ?_)
  have h1 := wl_mem (w := wBlock) hx
  have h2 := wBlock_eq x
  exact blsEN_eq _ _ x.fKids _ _ (by omega) (by omega)
theorem bsq_zero {rec : List DBlock → Int → Int → Int} {inn depth : Int} : ∀ {l : List DBlock}, bsq rec inn depth l = 0 → ∀ b ∈ l, depth ≤ 15 ∧ blkF b = true ∧ placeB b.fKind inn = true ∧ itsE b = 0 ∧ rec b.fKids b.fKind (depth + 1) = 0
  | [], _, b, hb => by simp at hb
  | x :: r, h, b, hb => by
    rw [bsq] at h
    split at h
    · simp at h
    · split at h
      · simp at h
      · split at h
        · rename_i q; exact absurd h q
        · split at h
          · rename_i q; exact absurd h q
          · rename_i h1 h2 h3 h4
            simp only [List.mem_cons] at hb
            rcases hb with rfl | hb
            · simp only [not_or, Bool.not_eq_false] at h2
              exact ⟨by omega, h2.1, h2.2, Decidable.not_not.1 h3, Decidable.not_not.1 h4⟩
            · exact bsq_zero h b hb
theorem chkD_L1_zero {d : DDoc} {v3 : Nat} {k0 : Nat → Int} : ∀ {n w5 : Nat}, v3 - w5 < n → chkD_L1 d v3 k0 n w5 = 0 → k0 (v3 + 1) = 0
  | 0, w5, h, _ => by omega
  | n + 1, w5, h, e => by
    rw [chkD_L1] at e
    by_cases hi : w5 < v3
    · rw [dT (by omega), cond_true, condE] at e
      split at e
      · exact absurd e (by decide)
      · exact chkD_L1_zero (by omega) e
    · rw [dF (by omega)] at e; exact e
theorem chkD_L0_zero {d : DDoc} : ∀ {n v3 : Nat}, d.fMeta.length - v3 < n → chkD_L0 d n v3 = 0 → blksE d.fBlocks = 0
  | 0, v3, h, _ => by omega
  | n + 1, v3, h, e => by
    have hl := lenM_eq aPair d.fMeta
    rw [chkD_L0] at e
    by_cases hi : v3 < d.fMeta.length
    · rw [dT (by omega), cond_true, condE] at e
      split at e
      · exact absurd e (by decide)
      · rw [condE] at e; split at e
        · exact absurd e (by decide)
        · exact chkD_L0_zero (by omega) (chkD_L1_zero (by omega) e)
    · rw [dF (by omega)] at e; exact e
theorem chkD_zero {d : DDoc} (h : chkD d = 0) : blsE d.fBlocks 0 0 = 0 := by
  unfold chkD at h
  rw [condE] at h
  split at h
  · exact absurd h (by decide)
  · exact chkD_L0_zero (by omega) h
end Go.Proofs.YtdaglbjgdakmcaaGreat
namespace Go.Proofs.YtdaglbjgdakmcaaGreat
open Go Go.Eng
theorem bne_self (a : Int) : (a != a) = false := by simp
end Go.Proofs.YtdaglbjgdakmcaaGreat
namespace Go.Proofs.YtdaglbjgdakmcaaGreat
open Go Go.Eng
theorem byt_left (a b : ByteArray) (i : Nat) (h : i < a.size) : byt (a ++ b) i = byt a i := by
  have h2 : i < a.data.size := h
  simp only [byt, ByteArray.data_append, Array.getD_eq_getD_getElem?, Array.getElem?_append, if_pos h2]
theorem byt_right (a b : ByteArray) (j : Nat) : byt (a ++ b) (a.size + j) = byt b j := by
  have h2 : ¬ a.size + j < a.data.size := by show ¬ a.size + j < a.size; omega
  simp only [byt, ByteArray.data_append, Array.getD_eq_getD_getElem?, Array.getElem?_append, if_neg h2]
  rw [show a.size + j - a.data.size = j by show a.size + j - a.size = j; omega]
theorem moreI_right (a b : ByteArray) (j lo hi : Int) (h : 0 ≤ j) : moreI (a ++ b) (a.size + j) lo hi = moreI b j lo hi := by
  unfold moreI
  rw [show ((a.size : Int) + j).toNat = a.size + j.toNat by omega, byt_right]
  rw [show decide ((a.size : Int) + j ≥ ((ByteArray.size (a ++ b) : Nat) : Int)) = decide (j ≥ ((ByteArray.size b : Nat) : Int)) from by
    rw [ByteArray.size_append]; exact decide_eq_decide.2 ⟨fun q => by omega, fun q => by omega⟩]
theorem moreI_left {a : ByteArray} (b : ByteArray) {k lo hi : Int} (h0 : 0 ≤ k) (h : ¬ moreI a k lo hi < 0) : k < a.size ∧ moreI (a ++ b) k lo hi = moreI a k lo hi := by
  have hk : k < a.size := by
    by_cases hk : k < a.size
    · exact hk
    · exfalso; apply h
      unfold moreI
      rw [dT (show k ≥ ((ByteArray.size a : Nat) : Int) by omega)]
      simp only [cond_true]; decide
  refine ⟨hk, ?_⟩
  unfold moreI
  rw [byt_left a b k.toNat (by omega), dF (show ¬ k ≥ ((ByteArray.size a : Nat) : Int) by omega), dF (show ¬ k ≥ ((ByteArray.size (a ++ b) : Nat) : Int) by rw [ByteArray.size_append]; omega)]
theorem atP_right (a b : ByteArray) (j : Int) (h : 0 ≤ j) : atP (a ++ b) (a.size + j) = atP b j := by
  unfold atP threeP fourP
  rw [show ((a.size : Int) + j).toNat = a.size + j.toNat by omega, byt_right]
  simp only [Int.add_assoc]
  rw [moreI_right a b (j + 1) _ _ (by omega)]
  simp only [moreI_right a b (j + 1) _ _ (show 0 ≤ j + 1 by omega), moreI_right a b (j + 2) _ _ (show 0 ≤ j + 2 by omega), moreI_right a b (j + 3) _ _ (show 0 ≤ j + 3 by omega)]
def badP (p : DPoint) : Prop := p.fC = 65533 ∧ p.fN = 1
theorem atP_left {a : ByteArray} (b : ByteArray) {i : Int} (h0 : 0 ≤ i) (h1 : i < a.size) (hok : ¬ badP (atP a i)) : atP (a ++ b) i = atP a i ∧ i + (atP a i).fN ≤ a.size := by
  have hb := byt_left a b i.toNat (by omega)
  unfold atP at hok ⊢
  rw [hb]
  unfold threeP fourP at hok ⊢
  rw [hb]
  generalize IntKind.i64.wrap (((byt a i.toNat : Nat) : Int)) = x at hok ⊢
  rcases Bool.eq_false_or_eq_true (decide (x < 128)) with c | c
  · rw [cT c, cT c]; exact ⟨rfl, by show i + 1 ≤ _; omega⟩
  rw [cF c] at hok; rw [cF c, cF c]
  rcases Bool.eq_false_or_eq_true (cond (decide (x ≥ 194)) (decide (x ≤ 223)) false) with c | c
  · rw [cT c] at hok; rw [cT c, cT c]
    rcases Bool.eq_false_or_eq_true (decide (moreI a (i + 1) 128 191 ≥ 0)) with c3 | c3
    · have c3' := of_decide_eq_true c3
      obtain ⟨q1, q2⟩ := moreI_left b (show 0 ≤ i + 1 by omega) (show ¬ moreI a (i + 1) 128 191 < 0 by omega)
      rw [q2, cT c3]; exact ⟨rfl, by show i + 2 ≤ _; omega⟩
    · rw [cF c3] at hok; exact absurd ⟨rfl, rfl⟩ hok
  rw [cF c] at hok; rw [cF c, cF c]
  rcases Bool.eq_false_or_eq_true (cond (decide (x ≥ 224)) (decide (x ≤ 239)) false) with c | c
  · rw [cT c] at hok; rw [cT c, cT c]
    generalize cond (x == 224) (160 : Int) 128 = lo at hok ⊢
    generalize cond (x == 237) (159 : Int) 191 = hi at hok ⊢
    rcases Bool.eq_false_or_eq_true (cond (decide (moreI a (i + 1) lo hi < 0)) true (decide (moreI a (i + 2) 128 191 < 0))) with c4 | c4
    · rw [cT c4] at hok; exact absurd ⟨rfl, rfl⟩ hok
    · have d4 := cond_tt c4
      obtain ⟨q1, q2⟩ := moreI_left b (show 0 ≤ i + 1 by omega) (of_decide_eq_false d4.1)
      obtain ⟨q3, q4⟩ := moreI_left b (show 0 ≤ i + 2 by omega) (of_decide_eq_false d4.2)
      rw [q2, q4, cF c4]
      exact ⟨rfl, by show i + 3 ≤ _; omega⟩
  rw [cF c] at hok; rw [cF c, cF c]
  rcases Bool.eq_false_or_eq_true (cond (decide (x ≥ 240)) (decide (x ≤ 244)) false) with c | c
  · rw [cT c] at hok; rw [cT c, cT c]
    generalize cond (x == 240) (144 : Int) 128 = lo at hok ⊢
    generalize cond (x == 244) (143 : Int) 191 = hi at hok ⊢
    rcases Bool.eq_false_or_eq_true (cond (cond (decide (moreI a (i + 1) lo hi < 0)) true (decide (moreI a (i + 2) 128 191 < 0))) true (decide (moreI a (i + 3) 128 191 < 0))) with c5 | c5
    · rw [cT c5] at hok; exact absurd ⟨rfl, rfl⟩ hok
    · have d5 := cond_tt c5
      have d6 := cond_tt d5.1
      obtain ⟨q1, q2⟩ := moreI_left b (show 0 ≤ i + 1 by omega) (of_decide_eq_false d6.1)
      obtain ⟨q3, q4⟩ := moreI_left b (show 0 ≤ i + 2 by omega) (of_decide_eq_false d6.2)
      obtain ⟨q5, q6⟩ := moreI_left b (show 0 ≤ i + 3 by omega) (of_decide_eq_false d5.2)
      rw [q2, q4, q6, cF c5]
      exact ⟨rfl, by show i + 4 ≤ _; omega⟩
  · rw [cF c] at hok; exact absurd ⟨rfl, rfl⟩ hok
theorem points_acc (s : ByteArray) : ∀ (n : Nat) (acc : List DPoint) (i : Int), 0 ≤ i → s.size - i.toNat < n → points_L0 s n acc i = acc ++ points_L0 s n [] i
  | 0, acc, i, _, h => by omega
  | n + 1, acc, i, h0, h => by
    have hp := (atP_bd s i).1
    rw [points_L0, points_L0]
    by_cases hi : i < s.size
    · rw [dT (by omega), cond_true, cond_true, points_acc s n (acc ++ [atP s i]) _ (by omega) (by omega), points_acc s n ([] ++ [atP s i]) _ (by omega) (by omega)]; simp
    · rw [dF (by omega)]; simp
theorem points_cons (s : ByteArray) (n : Nat) (i : Int) (h0 : 0 ≤ i) (hi : i < s.size) (h : s.size - i.toNat < n + 1) : points_L0 s (n + 1) [] i = atP s i :: points_L0 s n [] (i + (atP s i).fN) := by
  have hp := (atP_bd s i).1
  rw [points_L0, dT (by omega), cond_true, points_acc s n _ _ (by omega) (by omega)]; simp
theorem points_end (s : ByteArray) (n : Nat) (i : Int) (hi : ¬ i < s.size) : points_L0 s (n + 1) [] i = [] := by
  rw [points_L0, dF (by omega)]; rfl
def pntOk (p : DPoint) : Bool := !(cond (!cleanB p.fC) true (cond (p.fC == 65533) (p.fN == 1) false))
theorem pntOk_bad {p : DPoint} (h : pntOk p = true) : ¬ badP p := by
  rintro ⟨h1, h2⟩
  unfold pntOk at h; rw [h1, h2] at h
  cases cleanB 65533 <;> exact absurd h (by decide)
theorem foldr_all {α : Type} (p : α → Bool) : ∀ l : List α, l.foldr (fun x r => cond (p x) false r) true = l.all (fun x => !p x)
  | [] => rfl
  | x :: l => by rw [List.foldr_cons, foldr_all p l, List.all_cons]; cases p x <;> simp
theorem validB_eq (s : ByteArray) : validB s = (points s).all pntOk := by
  have h := loop_fold aPoint (points s) (fun p r => cond (cond (!cleanB p.fC) true (cond (p.fC == 65533) (p.fN == 1) false)) false r) true (validB_L0 s) (fun n i => by rw [validB_L0])
  rw [validB, h _ _ (by omega), foldr_all, List.drop_zero]; rfl
theorem points_right (a b : ByteArray) : ∀ (n : Nat) (j : Int), 0 ≤ j → b.size - j.toNat < n → (∀ p ∈ points_L0 b n [] j, pntOk p = true) → ∀ m : Nat, (a ++ b).size - (a.size + j).toNat < m → ∀ p ∈ points_L0 (a ++ b) m [] (a.size + j), pntOk p = true
  | 0, j, _, h, _, _, _ => by omega
  | n + 1, j, h0, h, hk, 0, hm => by omega
  | n + 1, j, h0, h, hk, m + 1, hm => by
    have hp := (atP_bd b j).1
    have hs := (ByteArray.size_append : (a ++ b).size = _)
    by_cases hj : j < b.size
    · rw [points_cons b n j h0 hj h] at hk
      rw [points_cons (a ++ b) m _ (by omega) (by omega) hm, atP_right a b j h0, show (a.size : Int) + j + (atP b j).fN = a.size + (j + (atP b j).fN) by omega]
      intro p hp2
      simp only [List.mem_cons] at hp2
      rcases hp2 with rfl | hp2
      · exact hk _ (by simp)
      · exact points_right a b n _ (by omega) (by omega) (fun q hq => hk q (by simp [hq])) m (by omega) p hp2
    · rw [points_end _ _ _ (by omega)]; simp
theorem points_left (a b : ByteArray) (hb : ∀ m : Nat, (a ++ b).size - a.size < m → ∀ p ∈ points_L0 (a ++ b) m [] a.size, pntOk p = true) : ∀ (n : Nat) (i : Int), 0 ≤ i → i ≤ a.size → a.size - i.toNat < n → (∀ p ∈ points_L0 a n [] i, pntOk p = true) → ∀ m : Nat, (a ++ b).size - i.toNat < m → ∀ p ∈ points_L0 (a ++ b) m [] i, pntOk p = true
  | 0, i, _, _, h, _, _, _ => by omega
  | n + 1, i, h0, h1, h, hk, 0, hm => by omega
  | n + 1, i, h0, h1, h, hk, m + 1, hm => by
    have hp := (atP_bd a i).1
    have hs := (ByteArray.size_append : (a ++ b).size = _)
    by_cases hi : i < a.size
    · rw [points_cons a n i h0 hi h] at hk
      obtain ⟨e1, e2⟩ := atP_left b h0 hi (pntOk_bad (hk _ (by simp)))
      rw [points_cons (a ++ b) m _ (by omega) (by omega) hm, e1]
      intro p hp2
      simp only [List.mem_cons] at hp2
      rcases hp2 with rfl | hp2
      · exact hk _ (by simp)
      · exact points_left a b hb n _ (by omega) e2 (by omega) (fun q hq => hk q (by simp [hq])) m (by omega) p hp2
    · have : i = a.size := by omega
      subst this
      exact hb (m + 1) (by simpa using hm)
theorem validB_app {a b : ByteArray} (ha : validB a = true) (hb : validB b = true) : validB (a ++ b) = true := by
  rw [validB_eq, List.all_eq_true] at *
  unfold points at *
  refine points_left a b (fun m hm => ?_) _ 0 (by omega) (by omega) (by omega) ha _ (by simp)
  have := points_right a b _ 0 (by omega) (by omega) hb m (by simpa using hm)
  simpa using this
theorem lineB_L0_eq (s : ByteArray) : ∀ (n i : Nat), s.size - i < n → (lineB_L0 s n i = true ↔ ∀ k, i ≤ k → k < s.size → byt s k ≠ 10)
  | 0, i, h => by omega
  | n + 1, i, h => by
    rw [lineB_L0]
    by_cases hi : i < s.size
    · rw [dT (by omega), cond_true]
      by_cases h10 : byt s i = 10
      · rw [beqT (show ((byt s i : Nat) : Int) = 10 by omega), cond_true]; simp only [Bool.false_eq_true, false_iff]; exact fun q => q i (by omega) hi h10
      · rw [beqF (show (((byt s i : Nat) : Int)) ≠ 10 by omega), cond_false, lineB_L0_eq s n _ (by omega)]
        refine ⟨fun q k h1 h2 => ?_, fun q k h1 h2 => q k (by omega) h2⟩
        by_cases hk : k = i
        · subst hk; exact h10
        · exact q k (by omega) h2
    · rw [dF (by omega)]
      exact ⟨fun _ k h1 h2 => by omega, fun _ => rfl⟩
theorem lineB_iff (s : ByteArray) : lineB s = true ↔ validB s = true ∧ ∀ k, k < s.size → byt s k ≠ 10 := by
  unfold lineB
  cases validB s with
  | false => simp
  | true => simp only [Bool.not_true, cond_false, true_and, lineB_L0_eq s _ 0 (show s.size - 0 < ByteArray.size s - 0 + 1 by omega)]; simp
theorem lineB_app {a b : ByteArray} (ha : lineB a = true) (hb : lineB b = true) : lineB (a ++ b) = true := by
  rw [lineB_iff] at *
  refine ⟨validB_app ha.1 hb.1, fun k hk => ?_⟩
  rw [ByteArray.size_append] at hk
  by_cases h : k < a.size
  · rw [byt_left a b k h]; exact ha.2 k h
  · rw [show k = a.size + (k - a.size) by omega, byt_right]; exact hb.2 _ (by omega)
end Go.Proofs.YtdaglbjgdakmcaaGreat
namespace Go.Proofs.YtdaglbjgdakmcaaGreat
open Go Go.Eng
def anyq (e : Bool) (x : DInline) : Bool := cond (cond (!e) (refK x.fKind) false) true (cond e (brk2 x.fKind) false)
theorem anyES_eq (rec : List DInline → Bool → Bool) (l : List DInline) (e : Bool) : anyES rec l e = l.any (fun x => anyq e x || rec x.fKids e) := by
  have h := loop_fold aInline l (fun x r => cond (anyq e x || rec x.fKids e) true r) false (anyES_L0 rec l e) (fun n i => by
    rw [anyES_L0]; congr 1)
  rw [anyES, h _ _ (by omega), foldr_any]; simp
theorem anyEN_eq : ∀ (n : Nat) (l : List DInline) (e : Bool), wl wInline l < n → anyEN n l e = (dpI l).any (anyq e)
  | 0, l, e, h => by omega
  | n + 1, l, e, h => by
    rw [anyEN, anyES_eq, dpI_flat, List.any_flatMap, Bool.eq_iff_iff, List.any_eq_true, List.any_eq_true]
    have key : ∀ x ∈ l, anyEN n x.fKids e = (dpI x.fKids).any (anyq e) := fun x hx => by
      have h1 := wl_mem (w := wInline) hx
      have h2 := wInline_eq x
      exact anyEN_eq n x.fKids e (by omega)
    exact ⟨fun ⟨x, hx, hq⟩ => ⟨x, hx, by rw [List.any_cons, ← key x hx]; exact hq⟩, fun ⟨x, hx, hq⟩ => ⟨x, hx, by rw [List.any_cons, ← key x hx] at hq; exact hq⟩⟩
theorem anyE_eq (l : List DInline) (e : Bool) : anyE l e = (dpI l).any (anyq e) := anyEN_eq _ l e (by omega)
theorem anyE_Sub {a b : List DInline} {e : Bool} (h : Sub a b) (hb : anyE b e = false) : anyE a e = false := by
  rw [anyE_eq, List.any_eq_false] at hb ⊢
  intro y hy
  obtain ⟨z, hz, e1, _⟩ := h y hy
  have := hb z hz
  simpa only [anyq, e1] using this
def tgtA (x : DInline) : Int := cond (cond (!eqs x.fText ⟨#[]⟩) (cond (!eqs x.fDest ⟨#[]⟩) true (!eqs x.fTitle ⟨#[]⟩)) false) 5 (cond (cond (!eqs x.fText ⟨#[]⟩) (!labelB x.fText) false) 6 (cond (cond (!lineB x.fDest) true (!lineB x.fTitle)) 17 (cond (x.fKind == 10) (chkA x.fAttr) 0)))
/-- What holds of an inline, its children apart. -/
structure LA (x : DInline) : Prop where
  lo : 1 ≤ x.fKind
  hi : x.fKind ≤ 16
  ftxt : cond (inL x.fKind [1, 4, 5, 9, 10, 12, 14, 15]) true (eqs x.fText ⟨#[]⟩) = true
  fdst : cond (inL x.fKind [9, 10, 16]) true (eqs x.fDest ⟨#[]⟩) = true
  ftit : cond (inL x.fKind [9, 10, 14]) true (eqs x.fTitle ⟨#[]⟩) = true
  fatt : cond (inL x.fKind [10, 11]) true (noAttr x.fAttr) = true
  farg : cond (x.fKind == 15) true ((((lenM strAV x.fArgs : Nat) : Int) : Int) == 0) = true
  fcit : cond (x.fKind == 13) true ((((lenM aCited x.fCites : Nat) : Int) : Int) == 0) = true
  text : x.fKind = 1 ∨ x.fKind = 4 ∨ x.fKind = 5 → eqs x.fText ⟨#[]⟩ = false ∧ lineB x.fText = true
  targ : x.fKind = 9 ∨ x.fKind = 10 → tgtA x = 0
  span : x.fKind = 11 → noAttr x.fAttr = false ∧ chkA x.fAttr = 0
  name : x.fKind = 12 ∨ x.fKind = 14 ∨ x.fKind = 15 → namedE x = 0
  cite : x.fKind = 13 → citesE x.fCites = 0
  auto : x.fKind = 16 → autoB x.fDest = true
/-- Of its children. -/
structure LK (x : DInline) : Prop where
  fkid : inL x.fKind [6, 7, 8, 9, 10, 11] = false → x.fKids = []
  refs : x.fKind = 9 → anyE x.fKids false = false
theorem inlF_iff (x : DInline) (h : LA x) : inlF x = true ↔ (inL x.fKind [6, 7, 8, 9, 10, 11] = false → x.fKids = []) := by
  unfold inlF
  rw [dT h.lo, dT h.hi, cond_true, cond_true, h.ftxt, h.fdst, h.ftit, h.fatt, h.farg, h.fcit]
  simp only [cond_true]
  have hl := lenM_eq aInline x.fKids
  cases inL x.fKind [6, 7, 8, 9, 10, 11] with
  | true => simp
  | false =>
    simp only [cond_false, forall_const]
    by_cases hn : x.fKids = []
    · rw [hn]; simp [lenM]
    · have := List.length_pos_iff.2 hn
      rw [beqF (show (((lenM aInline x.fKids : Nat) : Int) : Int) ≠ 0 by omega)]; simp [hn]
theorem tgtE_iff (x : DInline) (hk : x.fKind = 9 ∨ x.fKind = 10) : tgtE x = 0 ↔ tgtA x = 0 ∧ (x.fKind = 9 → anyE x.fKids false = false) := by
  unfold tgtE tgtA
  cases cond (!eqs x.fText ⟨#[]⟩) (cond (!eqs x.fDest ⟨#[]⟩) true (!eqs x.fTitle ⟨#[]⟩)) false with
  | true => simp
  | false =>
    cases cond (!eqs x.fText ⟨#[]⟩) (!labelB x.fText) false with
    | true => simp
    | false =>
      cases cond (!lineB x.fDest) true (!lineB x.fTitle) with
      | true => simp
      | false =>
        rcases hk with hk | hk
        · cases anyE x.fKids false <;> simp [hk]
        · simp [hk]
theorem oneE_val {x : DInline} (h : LA x) (k : LK x) (he : emk x.fKind = true → x.fKids ≠ []) (before : Int) (f g : Bool) :
    oneE x before f g = if (x.fKind = 1 ∨ x.fKind = 4) ∧ before = x.fKind then 5 else if x.fKind = 2 ∧ (brk2 before = true ∨ f = true ∨ g = true) then 5 else if x.fKind = 3 ∧ g = true then 5 else 0 := by
  have hi := (inlF_iff x h).2 k.fkid
  have h1 := h.lo; have h2 := h.hi
  have hl := lenM_eq aInline x.fKids
  unfold oneE
  rw [hi]
  simp only [Bool.not_true, cond_false]
  have : x.fKind = 1 ∨ x.fKind = 2 ∨ x.fKind = 3 ∨ x.fKind = 4 ∨ x.fKind = 5 ∨ emk x.fKind = true ∨ x.fKind = 9 ∨ x.fKind = 10 ∨ x.fKind = 11 ∨ x.fKind = 12 ∨ x.fKind = 13 ∨ x.fKind = 14 ∨ x.fKind = 15 ∨ x.fKind = 16 := by
    rw [emk_iff]; omega
  rcases this with hk | hk | hk | hk | hk | hk | hk | hk | hk | hk | hk | hk | hk | hk
  · obtain ⟨t1, t2⟩ := h.text (.inl hk)
    rw [hk, t1, t2]; by_cases hb : before = 1
    · simp [hb]
    · have hb' := beqF hb; simp [hb, hb']
  · rw [hk]; cases f <;> cases g <;> by_cases hb2 : before = 2 <;> by_cases hb3 : before = 3 <;> simp [hb2, hb3, beqF, brk2]
  · rw [hk]; cases g <;> simp
  · obtain ⟨t1, t2⟩ := h.text (.inr (.inl hk))
    rw [hk, t1, t2]; by_cases hb : before = 4
    · simp [hb]
    · have hb' := beqF hb; simp [hb, hb']
  · obtain ⟨t1, t2⟩ := h.text (.inr (.inr hk))
    rw [hk, t1, t2]; simp
  · have hn := he hk
    have := List.length_pos_iff.2 hn
    have hz : ((((lenM aInline x.fKids : Nat) : Int) : Int) == 0) = false := beqF (by omega)
    rcases (emk_iff _).1 hk with hk | hk | hk <;> rw [hk, hz] <;> simp
  · have t := (tgtE_iff x (.inl hk)).2 ⟨h.targ (.inl hk), k.refs⟩
    rw [hk, t]; simp
  · have t := (tgtE_iff x (.inr hk)).2 ⟨h.targ (.inr hk), k.refs⟩
    rw [hk, t]; simp
  · obtain ⟨t1, t2⟩ := h.span hk
    rw [hk, t1, t2]; simp
  · rw [hk, h.name (.inl hk)]; simp
  · rw [hk, h.cite hk]; simp
  · rw [hk, h.name (.inr (.inl hk))]; simp
  · rw [hk, h.name (.inr (.inr hk))]; simp
  · rw [hk, h.auto hk]; simp
theorem oneE_LA {x : DInline} {before : Int} {f g : Bool} (h : oneE x before f g = 0) : LA x ∧ LK x := by
  have o := oneE_zero h
  have hf := o.fld
  unfold inlF at hf
  have f1 := cond_ff hf; have f2 := cond_ff f1.1; have f3 := cond_ff f2.1; have f4 := cond_ff f3.1; have f5 := cond_ff f4.1; have f6 := cond_ff f5.1; have f7 := cond_ff f6.1; have f8 := cond_ff f7.1
  have g1 := of_decide_eq_true f8.1; have g2 := of_decide_eq_true f8.2
  have hl := lenM_eq aInline x.fKids
  have fk : inL x.fKind [6, 7, 8, 9, 10, 11] = false → x.fKids = [] := fun q => by
    have := f3.2; rw [q, cond_false] at this
    have := eq_of_beq this
    exact List.eq_nil_of_length_eq_zero (by omega)
  unfold oneE at h
  rw [o.fld] at h
  simp only [Bool.not_true, cond_false] at h
  have t9 : x.fKind = 9 ∨ x.fKind = 10 → tgtE x = 0 := by rintro (hk | hk) <;> rw [hk] at h <;> simpa using h
  refine ⟨⟨by omega, by omega, f7.2, f6.2, f5.2, f4.2, f2.2, f1.2, ?_, fun q => ((tgtE_iff x q).1 (t9 q)).1, ?_, ?_, ?_, ?_⟩, ⟨fk, fun q => ((tgtE_iff x (.inl q)).1 (t9 (.inl q))).2 q⟩⟩
  · rintro (hk | hk | hk) <;> rw [hk] at h <;> cases q1 : eqs x.fText ⟨#[]⟩ <;> cases q2 : lineB x.fText <;> rw [q1, q2] at h <;> simp at h ⊢
  · intro hk; rw [hk] at h; cases q1 : noAttr x.fAttr <;> rw [q1] at h <;> simp at h ⊢; exact h
  · rintro (hk | hk | hk) <;> rw [hk] at h <;> simpa using h
  · intro hk; rw [hk] at h; simpa using h
  · intro hk; rw [hk] at h; cases q1 : autoB x.fDest <;> rw [q1] at h <;> simp at h ⊢
def DI : Nat → List DInline → Prop
  | 0, l => l = []
  | k + 1, l => ∀ x ∈ l, DI k x.fKids
theorem DI_nil : ∀ k, DI k []
  | 0 => rfl
  | k + 1 => by intro x hx; simp at hx
theorem DI_succ : ∀ {k : Nat} {l : List DInline}, DI k l → DI (k + 1) l
  | 0, l, h => by rw [show l = [] from h]; exact DI_nil 1
  | k + 1, l, h => fun x hx => DI_succ (h x hx)
theorem DI_sub {k : Nat} {a b : List DInline} (h : ∀ x ∈ a, x ∈ b) (hb : DI k b) : DI k a := by
  cases k with
  | zero => rw [show b = [] from hb] at h; exact List.eq_nil_iff_forall_not_mem.2 (fun x hx => by simpa using h x hx)
  | succ k => exact fun x hx => hb x (h x hx)
def c4 (l : List DInline) : Nat := (dpI l).countP (fun x => x.fKind == 4)
def cI (x : DInline) : Nat := (if x.fKind = 4 then 1 else 0) + c4 x.fKids
theorem c4_cons (x : DInline) (l : List DInline) : c4 (x :: l) = cI x + c4 l := by
  rw [c4, dpI_cons, List.countP_cons, List.countP_append, cI, c4, c4]
  by_cases h : x.fKind = 4
  · simp [h]; omega
  · simp [h]
theorem c4_wl : ∀ l : List DInline, c4 l = wl cI l
  | [] => rfl
  | x :: l => by rw [c4_cons, wl, c4_wl l]
structure TI (l : List DInline) : Prop where
  loc : ∀ y ∈ dpI l, LA y ∧ LK y
  nrm : N1 l
  dnr : ∀ y ∈ dpI l, N1 y.fKids
theorem TI.kids {l : List DInline} (h : TI l) {x : DInline} (hx : x ∈ l) : TI x.fKids :=
  ⟨fun y hy => h.loc y (mem_dpI.2 ⟨x, hx, .inr hy⟩), h.dnr x (mem_dpI.2 ⟨x, hx, .inl rfl⟩), fun y hy => h.dnr y (mem_dpI.2 ⟨x, hx, .inr hy⟩)⟩
def b4 (k : Int) : Nat := if k = 4 then 1 else 0
theorem lsq_val {rec : List DInline → Int → Int} {depth : Int} : ∀ (l : List DInline) (f : Bool) (before : Int), (l ≠ [] → depth ≤ 15) → (∀ x ∈ l, LA x ∧ LK x) → (∀ x ∈ l, emk x.fKind = true → x.fKids ≠ []) → adjK before l → brkOk (brk2 before) l →
    (depth = 0 → f = true → ∀ x r, l = x :: r → x.fKind ≠ 2) → (depth = 0 → ∀ x r, l = r ++ [x] → brk2 x.fKind = false) → (∀ x ∈ l, rec x.fKids (depth + 1) = 0 ∨ (rec x.fKids (depth + 1) = 5 ∧ 2 ≤ c4 x.fKids)) →
    lsq rec depth f before l = 0 ∨ (lsq rec depth f before l = 5 ∧ 2 ≤ c4 l + b4 before)
  | [], f, before, _, _, _, _, _, _, _, _ => .inl rfl
  | x :: r, f, before, hd, hl, he, ha, hb, hf, hg, hr => by
    obtain ⟨la, lk⟩ := hl x (by simp)
    have hv := oneE_val la lk (he x (by simp)) before (cond (depth == 0) f false) (cond (depth == 0) r.isEmpty false)
    have hrest := lsq_val (rec := rec) (depth := depth) r false x.fKind (fun q => hd (by simp)) (fun y hy => hl y (by simp [hy])) (fun y hy => he y (by simp [hy])) ha.2 hb.2 (fun _ q => by cases q)
      (fun h0 y r' e => hg h0 y (x :: r') (by rw [e]; rfl)) (fun y hy => hr y (by simp [hy]))
    rw [lsq, if_neg (by have := hd (by simp); omega), hv]
    have hc := c4_cons x r
    by_cases h1 : (x.fKind = 1 ∨ x.fKind = 4) ∧ before = x.fKind
    · rw [if_pos h1]
      rcases h1 with ⟨h1 | h1, h2⟩
      · exact absurd ⟨h2.trans h1, h1⟩ ha.1
      · right
        refine ⟨by simp, ?_⟩
        rw [hc, cI, if_pos h1, b4, if_pos (h2.trans h1)]; omega
    · rw [if_neg h1]
      have h2 : ¬ (x.fKind = 2 ∧ (brk2 before = true ∨ cond (depth == 0) f false = true ∨ cond (depth == 0) r.isEmpty false = true)) := by
        rintro ⟨hk, q | q | q⟩
        · rw [hb.1 hk] at q; cases q
        · by_cases h0 : depth = 0
          · rw [h0] at q; exact hf h0 q x r rfl hk
          · rw [beqF h0] at q; cases q
        · by_cases h0 : depth = 0
          · rw [h0] at q
            have : r = [] := by simpa using q
            have := hg h0 x [] (by rw [this]; rfl)
            rw [hk] at this; exact absurd this (by decide)
          · rw [beqF h0] at q; cases q
      rw [if_neg h2]
      have h3 : ¬ (x.fKind = 3 ∧ cond (depth == 0) r.isEmpty false = true) := by
        rintro ⟨hk, q⟩
        by_cases h0 : depth = 0
        · rw [h0] at q
          have : r = [] := by simpa using q
          have := hg h0 x [] (by rw [this]; rfl)
          rw [hk] at this; exact absurd this (by decide)
        · rw [beqF h0] at q; cases q
      rw [if_neg h3, if_neg (by simp)]
      rcases hr x (by simp) with q | ⟨q, q2⟩
      · rw [q, if_neg (by simp)]
        rcases hrest with h | ⟨h, h'⟩
        · exact .inl h
        · right; refine ⟨h, ?_⟩
          rw [hc, cI]; rw [b4] at h'; omega
      · rw [q, if_pos (by decide)]
        right; refine ⟨rfl, ?_⟩
        rw [hc, cI]; omega
theorem listE_val : ∀ (l : List DInline) (k : Nat) (depth : Int), 0 ≤ depth → DI k l → depth + k ≤ 16 → TI l → (depth = 0 → trimd l) → listE l depth = 0 ∨ (listE l depth = 5 ∧ 2 ≤ c4 l) := by
  refine inl_all (P := fun l => ∀ (k : Nat) (depth : Int), 0 ≤ depth → DI k l → depth + k ≤ 16 → TI l → (depth = 0 → trimd l) → listE l depth = 0 ∨ (listE l depth = 5 ∧ 2 ≤ c4 l)) (fun l hl k depth h0 hd hk ht htr => ?_)
  rw [listE_eq]
  cases k with
  | zero => rw [show l = [] from hd]; exact .inl rfl
  | succ k =>
    have := lsq_val (rec := listE) (depth := depth) l true 0 (fun _ => by omega) (fun x hx => ht.loc x (mem_dpI.2 ⟨x, hx, .inl rfl⟩)) ht.nrm.emp ht.nrm.adj ht.nrm.brk (fun q _ x r e => (htr q).1 x r e) (fun q => (htr q).2)
      (fun x hx => hl x hx k _ (by omega) (hd x hx) (by omega) (ht.kids hx) (fun q => by omega))
    simpa [b4] using this
/-- What Check says of a line, deep. -/
theorem lsq_LA {rec : List DInline → Int → Int} {depth : Int} : ∀ {l : List DInline} {f : Bool} {before : Int}, lsq rec depth f before l = 0 → (l ≠ [] → depth ≤ 15) ∧ ∀ x ∈ l, LA x ∧ LK x
  | [], f, before, _ => ⟨by simp, by simp⟩
  | x :: r, f, before, h => by
    rw [lsq] at h
    split at h
    · simp at h
    · split at h
      · rename_i h1; exact absurd h h1
      · split at h
        · rename_i h1; exact absurd h h1
        · rename_i hd ho hr
          have t := lsq_LA h
          refine ⟨fun _ => by omega, fun y hy => ?_⟩
          simp only [List.mem_cons] at hy
          rcases hy with rfl | hy
          · exact oneE_LA (Decidable.not_not.1 ho)
          · exact t.2 y hy
theorem listE_LA : ∀ (l : List DInline) (depth : Int), listE l depth = 0 → ∀ y ∈ dpI l, LA y ∧ LK y := by
  refine inl_all (P := fun l => ∀ depth : Int, listE l depth = 0 → ∀ y ∈ dpI l, LA y ∧ LK y) (fun l hl depth h y hy => ?_)
  rw [listE_eq] at h
  obtain ⟨x, hx, hy⟩ := mem_dpI.1 hy
  rcases hy with rfl | hy
  · exact (lsq_LA h).2 y hx
  · exact hl x hx _ ((lsq_zero h).kids x hx) y hy
theorem listE_DI : ∀ (k : Nat) (l : List DInline) (depth : Int), depth + k = 16 → listE l depth = 0 → DI k l
  | 0, l, depth, hk, h => by
    rw [listE_eq] at h
    have := (lsq_LA h).1
    by_cases hl : l = []
    · exact hl
    · have := this hl; omega
  | k + 1, l, depth, hk, h => fun x hx => by
    rw [listE_eq] at h
    exact listE_DI k x.fKids (depth + 1) (by omega) ((lsq_zero h).kids x hx)
end Go.Proofs.YtdaglbjgdakmcaaGreat
namespace Go.Proofs.YtdaglbjgdakmcaaGreat
open Go Go.Eng
theorem sq_mem {α β : Type} {f : α → List β × Int} : ∀ {l : List α} {z : β}, z ∈ (sq f l).1 → ∃ x ∈ l, z ∈ (f x).1
  | [], z, h => by simp [sq] at h
  | x :: l, z, h => by
    rw [sq] at h
    split at h
    · simp at h
    · split at h
      · simp at h
      · rcases List.mem_append.1 h with h | h
        · exact ⟨x, by simp, h⟩
        · obtain ⟨y, hy, e⟩ := sq_mem h; exact ⟨y, by simp [hy], e⟩
theorem sq_wl {α β : Type} {w : α → Nat} {w' : β → Nat} {f : α → List β × Int} : ∀ {l : List α}, (∀ x ∈ l, wl w' (f x).1 ≤ w x) → wl w' (sq f l).1 ≤ wl w l
  | [], _ => by simp [sq, wl]
  | x :: l, h => by
    have h1 := h x (by simp)
    have h2 := sq_wl (l := l) (fun y hy => h y (by simp [hy]))
    rw [sq]; split
    · simp [wl]
    · split
      · simp [wl]
      · rw [wl_append]; simp only [wl]; omega
theorem inlW_cases (w : List ByteArray) (rec : List DInline → List DInline × Int) (x : DInline) : (inlW w rec x).1 = [] ∨ (inlW w rec x).1 = (rec x.fKids).1 ∨ (inlW w rec x).1 = [setKids x (rec x.fKids).1] := by
  unfold inlW
  repeat' split
  all_goals first | exact .inl rfl | exact .inr (.inl rfl) | exact .inr (.inr rfl)
theorem lin_nil (w : List ByteArray) : linP w [] = ([], 0) := by rw [linP_eq]; rfl
theorem lin_mem {w : List ByteArray} {l : List DInline} {z : DInline} (h : z ∈ (linP w l).1) : ∃ x ∈ l, z ∈ (linP w x.fKids).1 ∨ z = setKids x (linP w x.fKids).1 := by
  rw [linP_eq] at h
  obtain ⟨x, hx, hz⟩ := sq_mem h
  refine ⟨x, hx, ?_⟩
  rcases inlW_cases w (linP w) x with e | e | e
  · rw [e] at hz; simp at hz
  · rw [e] at hz; exact .inl hz
  · rw [e] at hz; exact .inr (by simpa using hz)
theorem Sub_lin (w : List ByteArray) : ∀ l : List DInline, Sub (linP w l).1 l := by
  refine inl_all (fun l hl y hy => ?_)
  obtain ⟨z, hz, hy⟩ := mem_dpI.1 hy
  obtain ⟨x, hx, h | rfl⟩ := lin_mem hz
  · obtain ⟨u, hu, e⟩ := hl x hx y (mem_dpI.2 ⟨z, h, hy⟩)
    exact ⟨u, mem_dpI.2 ⟨x, hx, .inr hu⟩, e⟩
  · rcases hy with rfl | hy
    · exact ⟨x, mem_dpI.2 ⟨x, hx, .inl rfl⟩, rfl, rfl⟩
    · obtain ⟨u, hu, e⟩ := hl x hx y hy
      exact ⟨u, mem_dpI.2 ⟨x, hx, .inr hu⟩, e⟩
theorem namedE_L0_kids (x : DInline) (ks : List DInline) : ∀ n v : Nat, namedE_L0 (setKids x ks) n v = namedE_L0 x n v
  | 0, _ => rfl
  | n + 1, v => by rw [namedE_L0, namedE_L0, namedE_L0_kids x ks n]; rfl
theorem namedE_kids (x : DInline) (ks : List DInline) : namedE (setKids x ks) = namedE x := by
  unfold namedE; rw [namedE_L0_kids]; rfl
theorem cI_kids (x : DInline) (ks : List DInline) : cI (setKids x ks) + c4 x.fKids = cI x + c4 ks := by
  show (if x.fKind = 4 then 1 else 0) + c4 ks + c4 x.fKids = (if x.fKind = 4 then 1 else 0) + c4 x.fKids + c4 ks
  omega
theorem cI_text (x : DInline) (s : ByteArray) : cI (setText x s) = cI x := rfl
theorem LA_setKids {x : DInline} (h : LA x) (ks : List DInline) : LA (setKids x ks) := ⟨h.lo, h.hi, h.ftxt, h.fdst, h.ftit, h.fatt, h.farg, h.fcit, h.text, h.targ, h.span, fun q => (namedE_kids x ks).trans (h.name q), h.cite, h.auto⟩
def P2 (y : DInline) : Prop := LA y ∧ LK y
theorem P2_setKids {x : DInline} (h : P2 x) {ks : List DInline} (h0 : x.fKids = [] → ks = []) (hs : Sub ks x.fKids) : P2 (setKids x ks) :=
  ⟨LA_setKids h.1 ks, ⟨fun q => h0 (h.2.fkid q), fun q => anyE_Sub hs (h.2.refs q)⟩⟩
theorem P2_lin (w : List ByteArray) : ∀ l : List DInline, (∀ y ∈ dpI l, P2 y) → ∀ y ∈ dpI (linP w l).1, P2 y := by
  refine inl_all (P := fun l => (∀ y ∈ dpI l, P2 y) → ∀ y ∈ dpI (linP w l).1, P2 y) (fun l hl hp y hy => ?_)
  obtain ⟨z, hz, hy⟩ := mem_dpI.1 hy
  obtain ⟨x, hx, h | rfl⟩ := lin_mem hz
  · exact hl x hx (fun u hu => hp u (mem_dpI.2 ⟨x, hx, .inr hu⟩)) y (mem_dpI.2 ⟨z, h, hy⟩)
  · rcases hy with rfl | hy
    · exact P2_setKids (hp x (mem_dpI.2 ⟨x, hx, .inl rfl⟩)) (fun e => by rw [e, lin_nil]) (Sub_lin w _)
    · exact hl x hx (fun u hu => hp u (mem_dpI.2 ⟨x, hx, .inr hu⟩)) y hy
theorem DI_lin (w : List ByteArray) : ∀ (k : Nat) (l : List DInline), DI k l → DI k (linP w l).1
  | 0, l, h => by rw [show l = [] from h, lin_nil]; rfl
  | k + 1, l, h => fun z hz => by
    obtain ⟨x, hx, hz | rfl⟩ := lin_mem hz
    · exact DI_succ (DI_lin w k _ (h x hx)) z hz
    · exact DI_lin w k _ (h x hx)
theorem c4_lin (w : List ByteArray) : ∀ l : List DInline, c4 (linP w l).1 ≤ c4 l := by
  refine inl_all (fun l hl => ?_)
  rw [c4_wl, c4_wl, linP_eq]
  refine sq_wl (fun x hx => ?_)
  have := hl x hx
  rcases inlW_cases w (linP w) x with e | e | e
  · rw [e]; simp [wl]
  · rw [e, ← c4_wl, cI]; omega
  · rw [e]; have := cI_kids x (linP w x.fKids).1; simp only [wl]; omega
theorem tdy_nil : tdyL [] = [] := by rw [tdyL_eq]; rfl
theorem LA_setText {x : DInline} (h : LA x) (hk : x.fKind = 1) {s : ByteArray} (h0 : 0 < s.size) (hs : lineB s = true) : LA (setText x s) := by
  refine ⟨h.lo, h.hi, ?_, h.fdst, h.ftit, h.fatt, h.farg, h.fcit, fun _ => ⟨?_, hs⟩, fun q => ?_, fun q => ?_, fun q => ?_, fun q => ?_, fun q => ?_⟩
  · show cond (inL x.fKind _) _ _ = true
    rw [hk]; rfl
  · show eqs s ⟨#[]⟩ = false
    cases hq : eqs s ⟨#[]⟩ with
    | false => rfl
    | true => have := size_eqs_t hq; omega
  all_goals (simp only [setText] at q; omega)
theorem P2_mga : ∀ (r : List DInline) (x : DInline), (∀ u ∈ x :: r, P2 u) → ∀ z ∈ mga x r, P2 z
  | [], x, h, z, hz => h z (by simpa [mga] using hz)
  | y :: r, x, h, z, hz => by
    rw [mga] at hz; split at hz
    · rename_i hc
      refine P2_mga r _ (fun u hu => ?_) z hz
      simp only [List.mem_cons] at hu
      rcases hu with rfl | hu
      · have hx := h x (by simp); have hy := h y (by simp)
        obtain ⟨t1, t2⟩ := hx.1.text (.inl hc.1)
        obtain ⟨t3, t4⟩ := hy.1.text (.inl hc.2)
        have := size_eqs_f t1
        exact ⟨LA_setText hx.1 hc.1 (by rw [ByteArray.size_append]; omega) (lineB_app t2 t4), ⟨hx.2.fkid, hx.2.refs⟩⟩
      · exact h u (by simp [hu])
    · simp only [List.mem_cons] at hz
      rcases hz with rfl | hz
      · exact h _ (by simp)
      · exact P2_mga r y (fun u hu => h u (by simp only [List.mem_cons] at hu ⊢; exact .inr hu)) z hz
theorem P2_mg {l : List DInline} (h : ∀ u ∈ l, P2 u) : ∀ z ∈ mg l, P2 z := by
  cases l with
  | nil => intro z hz; exact absurd hz (by simp [mg])
  | cons x r => exact P2_mga r x h
theorem P2_tdy : ∀ l : List DInline, (∀ y ∈ dpI l, P2 y) → ∀ y ∈ dpI (tdyL l), P2 y := by
  refine inl_all (P := fun l => (∀ y ∈ dpI l, P2 y) → ∀ y ∈ dpI (tdyL l), P2 y) (fun l hl hp y hy => ?_)
  obtain ⟨z, hz, hy⟩ := mem_dpI.1 hy
  rcases hy with rfl | hy
  · rw [tdyL_eq] at hz
    refine P2_mg (fun u hu => ?_) y (sg_sub _ _ _ hz)
    obtain ⟨x, hx, rfl, _⟩ := td1_mem (flt_sub hu)
    exact P2_setKids (hp x (mem_dpI.2 ⟨x, hx, .inl rfl⟩)) (fun e => by rw [e, tdy_nil]) (Sub_tdy _)
  · obtain ⟨x, hx, _, e, _⟩ := tdy_mem hz
    rw [e] at hy
    exact hl x hx (fun u hu => hp u (mem_dpI.2 ⟨x, hx, .inr hu⟩)) y hy
theorem DI_tdy : ∀ (k : Nat) (l : List DInline), DI k l → DI k (tdyL l)
  | 0, l, h => by rw [show l = [] from h, tdy_nil]; rfl
  | k + 1, l, h => fun z hz => by
    obtain ⟨x, hx, _, e, _⟩ := tdy_mem hz
    rw [e]; exact DI_tdy k _ (h x hx)
theorem mga_cI : ∀ (r : List DInline) (x : DInline), wl cI (mga x r) ≤ cI x + wl cI r
  | [], x => by simp [mga, wl]
  | y :: r, x => by
    rw [mga]; split
    · have := mga_cI r (setText x (x.fText ++ y.fText))
      rw [cI_text] at this
      simp only [wl]; omega
    · have := mga_cI r y
      simp only [wl]; omega
theorem mg_cI (l : List DInline) : wl cI (mg l) ≤ wl cI l := by
  cases l with
  | nil => simp [mg]
  | cons x r => exact mga_cI r x
theorem c4_tdy : ∀ l : List DInline, c4 (tdyL l) ≤ c4 l := by
  refine inl_all (fun l hl => ?_)
  rw [c4_wl, c4_wl, tdyL_eq]
  refine Nat.le_trans (sg_wl _ _) (Nat.le_trans (mg_cI _) (Nat.le_trans (flt_wl _) (flat_wl (fun x hx => ?_))))
  have := hl x hx
  rw [tdk]; split
  · simp [wl]
  · have := cI_kids x (tdyL x.fKids); simp only [wl]; omega
theorem dnr_tdy : ∀ l : List DInline, ∀ y ∈ dpI (tdyL l), N1 y.fKids := by
  refine inl_all (fun l hl y hy => ?_)
  obtain ⟨z, hz, hy⟩ := mem_dpI.1 hy
  obtain ⟨x, hx, _, e, _⟩ := tdy_mem hz
  rcases hy with rfl | hy
  · rw [e]; exact N1_tdy _
  · rw [e] at hy; exact hl x hx y hy
theorem dpI_trm {l : List DInline} {y : DInline} (h : y ∈ dpI (trmL l)) : y ∈ dpI l := by
  obtain ⟨z, hz, hy⟩ := mem_dpI.1 h
  exact mem_dpI.2 ⟨z, trm_sub hz, hy⟩
theorem c4_trm (l : List DInline) : c4 (trmL l) ≤ c4 l := by rw [c4_wl, c4_wl, trmL_eq]; exact Nat.le_trans (dropB_wl _) (dropS_wl _)
theorem lnW_TI (w : List ByteArray) {l : List DInline} (h : ∀ y ∈ dpI l, P2 y) : TI (lnW w l) :=
  ⟨fun y hy => P2_tdy _ (P2_lin w l h) y (dpI_trm hy), N1_trm (N1_tdy _), fun y hy => dnr_tdy _ y (dpI_trm hy)⟩
theorem lnW_DI (w : List ByteArray) {k : Nat} {l : List DInline} (h : DI k l) : DI k (lnW w l) := DI_sub (fun x hx => trm_sub hx) (DI_tdy k _ (DI_lin w k l h))
theorem lnW_c4 (w : List ByteArray) (l : List DInline) : c4 (lnW w l) ≤ c4 l := Nat.le_trans (c4_trm _) (Nat.le_trans (c4_tdy _) (c4_lin w l))
theorem Sub_lnW (w : List ByteArray) (l : List DInline) : Sub (lnW w l) l := (Sub_trm _).trans ((Sub_tdy _).trans (Sub_lin w l))
theorem lnW_nil (w : List ByteArray) : lnW w [] = [] := by rw [lnW, lin_nil]; show trmL (tdyL []) = []; rw [tdy_nil, trmL_eq]; rfl
/-- A line without errors: what becomes of it has none, or two code spans. -/
theorem lnW_val (w : List ByteArray) {l : List DInline} (h : listE l 0 = 0) : listE (lnW w l) 0 = 0 ∨ (listE (lnW w l) 0 = 5 ∧ 2 ≤ c4 (lnW w l)) :=
  listE_val _ 16 0 (by omega) (lnW_DI w (listE_DI 16 l 0 (by omega) h)) (by omega) (lnW_TI w (listE_LA l 0 h)) (fun _ => trimd_trm _)
end Go.Proofs.YtdaglbjgdakmcaaGreat
namespace Go.Proofs.YtdaglbjgdakmcaaGreat
open Go Go.Eng
def c4B (l : List DBlock) : Nat := (ilsB l).countP (fun x => x.fKind == 4)
def cB (b : DBlock) : Nat := c4 b.fLine + c4B b.fKids
theorem ilsB_cons (b : DBlock) (l : List DBlock) : ilsB (b :: l) = dpI b.fLine ++ (ilsB b.fKids ++ ilsB l) := by
  rw [ilsB_eq, lsB_cons, List.flatMap_cons, List.flatMap_append, ← ilsB_eq, ← ilsB_eq]
theorem c4B_cons (b : DBlock) (l : List DBlock) : c4B (b :: l) = cB b + c4B l := by
  rw [c4B, ilsB_cons, List.countP_append, List.countP_append, cB, c4, c4B, c4B]; omega
theorem c4B_wl : ∀ l : List DBlock, c4B l = wl cB l
  | [] => rfl
  | b :: l => by rw [c4B_cons, wl, c4B_wl l]
inductive BC (w : List ByteArray) (rec : List DBlock → List DBlock × Int) (x : DBlock) (r : List DBlock) : Prop
  | none (h : r = []) : BC w rec x r
  | lift (hi : isIf x = true) (h : r = (rec x.fKids).1) : BC w rec x r
  | stay (hi : isIf x = false) (h0 : (rec x.fKids).2 = 0) (hp : ¬ (x.fKind = 1 ∧ lnW w x.fLine = [])) (h : r = [setBlk x (lnW w x.fLine) (rec x.fKids).1]) : BC w rec x r
theorem blkW_cases (w : List ByteArray) (rec : List DBlock → List DBlock × Int) (x : DBlock) : BC w rec x (blkW w rec x).1 := by
  unfold blkW
  split
  · rename_i hi
    unfold chsW
    split
    · split
      · exact .none rfl
      · split
        · exact .lift hi rfl
        · exact .none rfl
    · exact .none rfl
  · rename_i hi
    split
    · exact .none rfl
    · split
      · exact .none rfl
      · rename_i h0
        split
        · exact .none rfl
        · rename_i hp; exact .stay (by simpa using hi) (Decidable.not_not.1 h0) hp rfl
theorem c4B_blk (w : List ByteArray) : ∀ l : List DBlock, c4B (blkP w l).1 ≤ c4B l := by
  refine blk_all (fun l hl => ?_)
  rw [c4B_wl, c4B_wl, blkP_eq]
  refine sq_wl (fun x hx => ?_)
  have := hl x hx
  have h2 := lnW_c4 w x.fLine
  cases blkW_cases w (blkP w) x with
  | none h => rw [h]; simp [wl]
  | lift hi h => rw [h, ← c4B_wl, cB]; omega
  | stay hi h0 hp h => rw [h]; simp only [wl, cB, setBlk]; omega
theorem blk_map (w : List ByteArray) : ∀ l : List DBlock, (∀ b ∈ l, b.fKind ≠ 13 ∧ b.fKind ≠ 1) → (blkP w l).2 = 0 → (blkP w l).1 = l.map (fun b => setBlk b (lnW w b.fLine) (blkP w b.fKids).1) ∧ ∀ b ∈ l, (blkP w b.fKids).2 = 0
  | [], _, _ => ⟨by rw [blkP_eq]; rfl, by simp⟩
  | b :: l, hk, h => by
    have hb := hk b (by simp)
    have ih := blk_map w l (fun y hy => hk y (by simp [hy]))
    rw [blkP_eq] at ih
    rw [blkP_eq, sq] at h
    rw [blkP_eq, sq]
    have hi : isIf b = false := by unfold isIf; rw [beqF hb.1]; rfl
    split at h
    · rename_i q; exact absurd h q
    · split at h
      · rename_i q; exact absurd h q
      · rename_i h1 h2
        rw [if_neg h1, if_neg h2]
        obtain ⟨i1, i2⟩ := ih (Decidable.not_not.1 h2)
        have h1' := Decidable.not_not.1 h1
        have hw : blkW w (blkP w) b = ([setBlk b (lnW w b.fLine) (blkP w b.fKids).1], 0) ∧ (blkP w b.fKids).2 = 0 := by
          unfold blkW at h1' ⊢
          rw [hi] at h1' ⊢
          simp only [Bool.false_eq_true, if_false] at h1' ⊢
          split at h1'
          · rename_i q; exact absurd h1' q
          · rename_i q1
            rw [if_neg q1]
            split at h1'
            · rename_i q; exact absurd h1' q
            · rename_i q2
              rw [if_neg q2, if_neg (fun q => hb.2 q.1)]
              exact ⟨rfl, Decidable.not_not.1 q2⟩
        rw [hw.1]
        refine ⟨by rw [i1]; rfl, fun y hy => ?_⟩
        simp only [List.mem_cons] at hy
        rcases hy with rfl | hy
        · exact hw.2
        · exact i2 y hy
theorem cond_and {a b : Bool} (ha : a = true) (hb : b = true) : cond a b false = true := by rw [ha, hb]; rfl
theorem blkF_set {b : DBlock} {li : List DInline} {ks : List DBlock} (h : blkF b = true) (hl : b.fLine = [] → li = []) (hk : b.fKids = [] → ks = []) : blkF (setBlk b li ks) = true := by
  unfold blkF at h ⊢
  have f1 := cond_ff h; have f2 := cond_ff f1.1
  have e1 : cond (inL b.fKind [1, 2, 12]) true ((((lenM aInline li : Nat) : Int) : Int) == 0) = true := by
    have := f2.2
    cases q : inL b.fKind [1, 2, 12] with
    | true => rfl
    | false =>
      rw [q, cond_false] at this
      have := eq_of_beq this
      have hll := lenM_eq aInline b.fLine
      rw [hl (List.eq_nil_of_length_eq_zero (by omega))]; rfl
  have e2 : cond (inL b.fKind [6, 7, 8, 9, 10, 11, 13, 14]) true ((((lenM aBlock ks : Nat) : Int) : Int) == 0) = true := by
    cases q : inL b.fKind [6, 7, 8, 9, 10, 11, 13, 14] with
    | true => rfl
    | false =>
      have h3 := f1.2
      rw [q, cond_false] at h3
      have := eq_of_beq h3
      have hll := lenM_eq aBlock b.fKids
      rw [hk (List.eq_nil_of_length_eq_zero (by omega))]; rfl
  exact cond_and (cond_and f2.1 e1) e2
def tabT (b : DBlock) : Int := cond ((((lenM aBlock b.fKids : Nat) : Int) : Int) == 0) 8 (if (b.fKids.all (fun r => (((lenM aBlock r.fKids : Nat) : Int) : Int) == ((ByteArray.size b.fInfo : Nat) : Int))) = true then 0 else 15)
theorem foldr_15 {α : Type} (p : α → Bool) : ∀ l : List α, l.foldr (fun x r => cond (p x) (15 : Int) r) 0 = if (l.all (fun x => !p x)) = true then 0 else 15
  | [] => rfl
  | x :: l => by rw [List.foldr_cons, foldr_15 p l, List.all_cons]; cases p x <;> simp
theorem tabE_L1_eq (b : DBlock) (v3 : Nat) (k0 : Nat → Int) : tabE_L1 b v3 k0 ((List.length b.fKids - (0)) + 1) 0 = if (b.fKids.all (fun r => (((lenM aBlock r.fKids : Nat) : Int) : Int) == ((ByteArray.size b.fInfo : Nat) : Int))) = true then 0 else 15 := by
  have h := loop_fold aBlock b.fKids (fun r e => cond ((((lenM aBlock r.fKids : Nat) : Int) : Int) != ((ByteArray.size b.fInfo : Nat) : Int)) (15 : Int) e) 0 (tabE_L1 b v3 k0) (fun n i => by rw [tabE_L1])
  rw [h _ _ (by omega), foldr_15, List.drop_zero]; simp [bne]
theorem tabE_L0_set {b b' : DBlock} (hi : b'.fInfo = b.fInfo) (ht : tabT b = 0 → tabT b' = 0) : ∀ (n v3 : Nat), tabE_L0 b n v3 = 0 → tabE_L0 b' n v3 = 0
  | 0, v3, h => by rw [tabE_L0]; rfl
  | n + 1, v3, h => by
    rw [tabE_L0] at h ⊢
    rw [hi]
    cases q1 : decide ((((v3 : Nat) : Int) : Int) < ((ByteArray.size b.fInfo : Nat) : Int)) with
    | true =>
      rw [q1] at h
      rw [cond_true] at h ⊢
      cases q2 : hasB (ByteArray.extract b.fInfo v3 (v3 + 1)) ⟨#[45, 108, 99, 114]⟩ with
      | true => rw [q2] at h; simp only [Bool.not_true, cond_false] at h ⊢; exact tabE_L0_set hi ht n _ h
      | false => rw [q2] at h; simp at h
    | false =>
      rw [q1] at h
      rw [cond_false] at h ⊢
      rw [tabE_L1_eq] at h ⊢
      exact ht h
theorem tabE_set {b b' : DBlock} (hi : b'.fInfo = b.fInfo) (ht : tabT b = 0 → tabT b' = 0) (h : tabE b = 0) : tabE b' = 0 := by
  unfold tabE at h ⊢
  rw [hi]
  cases q1 : decide ((((ByteArray.size b.fInfo : Nat) : Int) : Int) > 32) with
  | true => rw [q1] at h; exact absurd (show (3 : Int) = 0 from h) (by decide)
  | false =>
    rw [q1] at h
    rw [cond_false] at h ⊢
    cases q2 : eqs b.fInfo ⟨#[]⟩ with
    | true => rw [q2] at h; exact absurd (show (5 : Int) = 0 from h) (by decide)
    | false => rw [q2] at h; rw [cond_false] at h ⊢; exact tabE_L0_set hi ht _ _ h
def V5 (v : Int) (n : Nat) : Prop := v = 0 ∨ (v = 5 ∧ 2 ≤ n)
theorem V5.mono {v : Int} {n m : Nat} (h : V5 v n) (hm : n ≤ m) : V5 v m := h.elim .inl (fun q => .inr ⟨q.1, by omega⟩)
theorem its_line (b : DBlock) (hk : b.fKind = 1 ∨ b.fKind = 2 ∨ b.fKind = 12) : itsE b = wriE b := by
  unfold itsE; rcases hk with hk | hk | hk <;> rw [hk] <;> rfl
theorem wri1 (b : DBlock) (hk : b.fKind = 1) : wriE b = cond ((((lenM aInline b.fLine : Nat) : Int) : Int) == 0) 8 (lineE b.fLine) := by
  unfold wriE; rw [hk]; rfl
theorem wri2 (b : DBlock) (hk : b.fKind = 2) : wriE b = cond (cond (decide (b.fLevel < 1)) true (decide (b.fLevel > 6))) 9 (cond (chkA b.fAttr != 0) (chkA b.fAttr) (cond (anyE b.fLine true) 5 (lineE b.fLine))) := by
  unfold wriE; rw [hk]; rfl
theorem wri12 (b : DBlock) (hk : b.fKind = 12) : wriE b = cond (anyE b.fLine true) 5 (lineE b.fLine) := by
  unfold wriE; rw [hk]; rfl
theorem its_stay {b : DBlock} {li : List DInline} {ks : List DBlock} (hk : b.fKind = 3 ∨ b.fKind = 4 ∨ b.fKind = 5 ∨ b.fKind = 6 ∨ b.fKind = 9 ∨ b.fKind = 11 ∨ b.fKind = 13 ∨ b.fKind = 14 ∨ b.fKind = 15) : itsE (setBlk b li ks) = itsE b := by
  unfold itsE
  simp only [setBlk]
  rcases hk with hk | hk | hk | hk | hk | hk | hk | hk | hk <;> rw [hk] <;> rfl
theorem its_list {b : DBlock} (hk : b.fKind = 7 ∨ b.fKind = 8) : itsE b = cond ((((lenM aBlock b.fKids : Nat) : Int) : Int) == 0) 8 (cond (cond (b.fKind == 8) (cond (decide (b.fLevel < 0)) true (decide (b.fLevel > 999999999))) false) 9 0) := by
  unfold itsE; rcases hk with hk | hk <;> rw [hk] <;> rfl
theorem its_tab {b : DBlock} (hk : b.fKind = 10) : itsE b = tabE b := by unfold itsE; rw [hk]; rfl
theorem place_in {k inn : Int} (h : placeB k inn = true) : (inn = 7 ∨ inn = 8 → k = 9) ∧ (inn = 10 → k = 11) ∧ (inn = 11 → k = 12) ∧ (inn ≠ 7 → inn ≠ 8 → inn ≠ 10 → inn ≠ 11 → k ≠ 9 ∧ k ≠ 11 ∧ k ≠ 12) := by
  unfold placeB at h
  by_cases h7 : inn = 7
  · subst h7; simp at h; exact ⟨fun _ => h, by simp, by simp, by simp⟩
  by_cases h8 : inn = 8
  · subst h8; simp at h; exact ⟨fun _ => h, by simp, by simp, by simp⟩
  by_cases h10 : inn = 10
  · subst h10; simp at h; exact ⟨by simp, fun _ => h, by simp, by simp⟩
  by_cases h11 : inn = 11
  · subst h11; simp at h; exact ⟨by simp, by simp, fun _ => h, by simp⟩
  simp only [beqF h7, beqF h8, beqF h10, beqF h11, cond_false] at h
  have a := cond_ff h; have b := cond_ff a.1
  exact ⟨fun q => q.elim (absurd · h7) (absurd · h8), fun q => absurd q h10, fun q => absurd q h11, fun _ _ _ _ => ⟨bne_iff_ne.1 b.1, bne_iff_ne.1 b.2, bne_iff_ne.1 a.2⟩⟩
theorem place_out {k inn : Int} (h7 : inn ≠ 7) (h8 : inn ≠ 8) (h10 : inn ≠ 10) (h11 : inn ≠ 11) (h : k ≠ 9 ∧ k ≠ 11 ∧ k ≠ 12) : placeB k inn = true := by
  unfold placeB
  rw [beqF h7, beqF h8, beqF h10, beqF h11, bne_iff_ne.2 h.1, bne_iff_ne.2 h.2.1, bne_iff_ne.2 h.2.2]; rfl
theorem blk_kinds {l : List DBlock} {inn depth : Int} (h : blsE l inn depth = 0) (hi : inn = 7 ∨ inn = 8 ∨ inn = 10 ∨ inn = 11) : ∀ b ∈ l, b.fKind ≠ 13 ∧ b.fKind ≠ 1 := by
  intro b hb
  rw [blsE_eq] at h
  have hp := place_in (bsq_zero h b hb).2.2.1
  rcases hi with hi | hi | hi | hi
  · have := hp.1 (.inl hi); omega
  · have := hp.1 (.inr hi); omega
  · have := hp.2.1 hi; omega
  · have := hp.2.2.1 hi; omega
set_option maxHeartbeats 4000000 in
theorem its_val (w : List ByteArray) {b : DBlock} (hf : blkF b = true) (h : itsE b = 0) (h0 : (blkP w b.fKids).2 = 0) (hp : ¬ (b.fKind = 1 ∧ lnW w b.fLine = [])) {depth : Int} (hk : blsE b.fKids b.fKind depth = 0) :
    V5 (itsE (setBlk b (lnW w b.fLine) (blkP w b.fKids).1)) (c4 (lnW w b.fLine)) := by
  have hb : 1 ≤ b.fKind ∧ b.fKind ≤ 15 := by
    unfold blkF at hf
    have f1 := cond_ff hf; have f2 := cond_ff f1.1; have f3 := cond_ff f2.1; have f4 := cond_ff f3.1; have f5 := cond_ff f4.1; have f6 := cond_ff f5.1; have f7 := cond_ff f6.1; have f8 := cond_ff f7.1
    exact ⟨of_decide_eq_true f8.1, of_decide_eq_true f8.2⟩
  have hs : Sub (lnW w b.fLine) b.fLine := Sub_lnW w _
  by_cases hk1 : b.fKind = 1
  · rw [its_line b (.inl hk1), wri1 b hk1] at h
    rw [its_line (setBlk b _ _) (.inl hk1), wri1 (setBlk b _ _) hk1]
    have hl : lineE b.fLine = 0 := by
      by_cases hz : ((((lenM aInline b.fLine : Nat) : Int) : Int) == 0) = true
      · rw [hz] at h; simp at h
      · rw [Bool.eq_false_iff.2 hz] at h; exact h
    have hn : lnW w b.fLine ≠ [] := fun q => hp ⟨hk1, q⟩
    have := List.length_pos_iff.2 hn
    have hll := lenM_eq aInline (lnW w b.fLine)
    show V5 (cond ((((lenM aInline (lnW w b.fLine) : Nat) : Int) : Int) == 0) 8 (lineE (lnW w b.fLine))) _
    rw [beqF (by omega)]
    exact lnW_val w hl
  by_cases hk2 : b.fKind = 2
  · rw [its_line b (.inr (.inl hk2)), wri2 b hk2] at h
    rw [its_line (setBlk b _ _) (.inr (.inl hk2)), wri2 (setBlk b _ _) hk2]
    show V5 (cond (cond (decide (b.fLevel < 1)) true (decide (b.fLevel > 6))) 9 (cond (chkA b.fAttr != 0) (chkA b.fAttr) (cond (anyE (lnW w b.fLine) true) 5 (lineE (lnW w b.fLine))))) _
    cases q1 : cond (decide (b.fLevel < 1)) true (decide (b.fLevel > 6)) with
    | true => rw [q1] at h; simp at h
    | false =>
      rw [q1, cond_false] at h
      rw [cond_false]
      by_cases q2 : chkA b.fAttr = 0
      · rw [q2] at h ⊢
        simp only [bne_self, cond_false] at h ⊢
        cases q3 : anyE b.fLine true with
        | true => rw [q3] at h; simp at h
        | false =>
          rw [q3, cond_false] at h
          rw [anyE_Sub hs q3, cond_false]
          exact lnW_val w h
      · rw [bne_iff_ne.2 q2] at h; exact absurd h q2
  by_cases hk12 : b.fKind = 12
  · rw [its_line b (.inr (.inr hk12)), wri12 b hk12] at h
    rw [its_line (setBlk b _ _) (.inr (.inr hk12)), wri12 (setBlk b _ _) hk12]
    show V5 (cond (anyE (lnW w b.fLine) true) 5 (lineE (lnW w b.fLine))) _
    cases q3 : anyE b.fLine true with
    | true => rw [q3] at h; simp at h
    | false =>
      rw [q3, cond_false] at h
      rw [anyE_Sub hs q3, cond_false]
      exact lnW_val w h
  by_cases hkl : b.fKind = 7 ∨ b.fKind = 8
  · left
    have hm := blk_map w b.fKids (blk_kinds hk (by omega)) h0
    rw [its_list hkl] at h
    rw [its_list (b := setBlk b _ _) hkl]
    show cond ((((lenM aBlock (blkP w b.fKids).1 : Nat) : Int) : Int) == 0) 8 (cond (cond (b.fKind == 8) (cond (decide (b.fLevel < 0)) true (decide (b.fLevel > 999999999))) false) 9 0) = 0
    rw [show lenM aBlock (blkP w b.fKids).1 = lenM aBlock b.fKids by rw [lenM_eq, lenM_eq, hm.1, List.length_map]]
    exact h
  by_cases hkt : b.fKind = 10
  · left
    have hm := blk_map w b.fKids (blk_kinds hk (by omega)) h0
    rw [its_tab hkt] at h
    rw [its_tab (b := setBlk b _ _) hkt]
    refine tabE_set (b := b) rfl (fun ht => ?_) h
    unfold tabT at ht ⊢
    show cond ((((lenM aBlock (blkP w b.fKids).1 : Nat) : Int) : Int) == 0) 8 (if ((blkP w b.fKids).1.all (fun r => (((lenM aBlock r.fKids : Nat) : Int) : Int) == ((ByteArray.size b.fInfo : Nat) : Int))) = true then 0 else 15) = 0
    rw [show lenM aBlock (blkP w b.fKids).1 = lenM aBlock b.fKids by rw [lenM_eq, lenM_eq, hm.1, List.length_map]]
    cases q1 : ((((lenM aBlock b.fKids : Nat) : Int) : Int) == 0) with
    | true => rw [q1] at ht; simp at ht
    | false =>
      rw [q1, cond_false] at ht
      rw [cond_false]
      split at ht
      · rename_i q
        rw [if_pos]
        rw [hm.1, List.all_map, List.all_eq_true]
        rw [List.all_eq_true] at q
        intro r hr
        have hrk : blsE r.fKids r.fKind (depth + 1) = 0 := by
          rw [blsE_eq] at hk; exact (bsq_zero hk r hr).2.2.2.2
        have hr11 : r.fKind = 11 := by
          rw [blsE_eq] at hk; exact (place_in (bsq_zero hk r hr).2.2.1).2.1 hkt
        have hm2 := blk_map w r.fKids (blk_kinds hrk (by omega)) (hm.2 r hr)
        have := q r hr
        show ((((lenM aBlock (blkP w r.fKids).1 : Nat) : Int) : Int) == _) = true
        rw [show lenM aBlock (blkP w r.fKids).1 = lenM aBlock r.fKids by rw [lenM_eq, lenM_eq, hm2.1, List.length_map]]
        exact this
      · simp at ht
  · left
    rw [its_stay (by omega)]; exact h
end Go.Proofs.YtdaglbjgdakmcaaGreat
namespace Go.Proofs.YtdaglbjgdakmcaaGreat
open Go Go.Eng
theorem bsq_app {rec : List DBlock → Int → Int → Int} {inn depth : Int} : ∀ (a b : List DBlock), bsq rec inn depth (a ++ b) = if bsq rec inn depth a = 0 then bsq rec inn depth b else bsq rec inn depth a
  | [], b => by simp [bsq]
  | x :: a, b => by
    rw [List.cons_append, bsq, bsq, bsq_app a b]
    by_cases h1 : depth > 15
    · simp [h1]
    · simp only [if_neg h1]
      by_cases h2 : blkF x = false ∨ placeB x.fKind inn = false
      · simp [h2]
      · simp only [if_neg h2]
        by_cases h3 : itsE x = 0
        · by_cases h4 : rec x.fKids x.fKind (depth + 1) = 0
          · simp [h3, h4]
          · simp [h3, h4]
        · simp [h3]
theorem V5_app {rec : List DBlock → Int → Int → Int} {inn depth : Int} {a b : List DBlock} (ha : V5 (bsq rec inn depth a) (c4B a)) (hb : V5 (bsq rec inn depth b) (c4B b)) : V5 (bsq rec inn depth (a ++ b)) (c4B (a ++ b)) := by
  have hc : c4B (a ++ b) = c4B a + c4B b := by rw [c4B_wl, wl_append, ← c4B_wl, ← c4B_wl]
  rw [bsq_app, hc]
  rcases ha with h | ⟨h, h'⟩
  · rw [if_pos h]; exact hb.mono (by omega)
  · rw [h, if_neg (by decide)]; exact .inr ⟨rfl, by omega⟩
def okIn (i : Int) : Prop := i ≠ 7 ∧ i ≠ 8 ∧ i ≠ 10 ∧ i ≠ 11
theorem blk_val (w : List ByteArray) : ∀ (l : List DBlock) (inn depth : Int), blsE l inn depth = 0 → ∀ inn' depth' : Int, depth' ≤ depth → (inn' = inn ∨ (inn = 13 ∧ okIn inn')) → V5 (blsE (blkP w l).1 inn' depth') (c4B (blkP w l).1) := by
  refine blk_all (P := fun l => ∀ inn depth : Int, blsE l inn depth = 0 → ∀ inn' depth' : Int, depth' ≤ depth → (inn' = inn ∨ (inn = 13 ∧ okIn inn')) → V5 (blsE (blkP w l).1 inn' depth') (c4B (blkP w l).1)) (fun l hl inn depth h inn' depth' hd hi => ?_)
  rw [blsE_eq] at h
  rw [blsE_eq, blkP_eq]
  have key : ∀ r : List DBlock, (∀ x ∈ r, x ∈ l) → V5 (bsq blsE inn' depth' (sq (blkW w (blkP w)) r).1) (c4B (sq (blkW w (blkP w)) r).1) := by
    intro r
    induction r with
    | nil => intro _; exact .inl rfl
    | cons x r ih =>
      intro hr
      have hx := hr x (by simp)
      obtain ⟨p1, p2, p3, p4, p5⟩ := bsq_zero h x hx
      have ih := ih (fun y hy => hr y (by simp [hy]))
      rw [sq]
      split
      · exact .inl rfl
      · split
        · exact .inl rfl
        · refine V5_app ?_ ih
          cases blkW_cases w (blkP w) x with
          | none e => rw [e]; exact .inl rfl
          | lift hif e =>
            rw [e, ← blsE_eq]
            have h13 : x.fKind = 13 := by
              unfold isIf at hif
              exact eq_of_beq (cond_ff hif).1
            rw [h13] at p3 p5
            refine hl x hx 13 (depth + 1) p5 inn' depth' (by omega) (.inr ⟨rfl, ?_⟩)
            rcases hi with hi | hi
            · rw [hi]
              have hp := place_in p3
              exact ⟨fun q => by have := hp.1 (.inl q); omega, fun q => by have := hp.1 (.inr q); omega, fun q => by have := hp.2.1 q; omega, fun q => by have := hp.2.2.1 q; omega⟩
            · exact hi.2
          | stay hif h0 hp e =>
            rw [e, bsq, if_neg (by omega)]
            have q1 : blkF (setBlk x (lnW w x.fLine) (blkP w x.fKids).1) = true := blkF_set p2 (fun e => by rw [e, lnW_nil]) (fun e => by rw [e, blkP_eq]; rfl)
            have q2 : placeB (setBlk x (lnW w x.fLine) (blkP w x.fKids).1).fKind inn' = true := by
              show placeB x.fKind inn' = true
              rcases hi with hi | ⟨hi, o1, o2, o3, o4⟩
              · rw [hi]; exact p3
              · rw [hi] at p3
                exact place_out o1 o2 o3 o4 ((place_in p3).2.2.2 (by decide) (by decide) (by decide) (by decide))
            rw [if_neg (by rw [q1, q2]; simp)]
            have hcb : c4B [setBlk x (lnW w x.fLine) (blkP w x.fKids).1] = c4 (lnW w x.fLine) + c4B (blkP w x.fKids).1 := by rw [c4B_cons]; show _ + c4B [] = _; rfl
            rw [hcb]
            rcases its_val w p2 p4 h0 hp p5 with v | ⟨v, v'⟩
            · rw [v, if_neg (by simp)]
              have hv : V5 (blsE (blkP w x.fKids).1 x.fKind (depth' + 1)) (c4B (blkP w x.fKids).1) := hl x hx x.fKind (depth + 1) p5 x.fKind (depth' + 1) (by omega) (.inl rfl)
              show V5 (if blsE (blkP w x.fKids).1 x.fKind (depth' + 1) ≠ 0 then blsE (blkP w x.fKids).1 x.fKind (depth' + 1) else bsq blsE inn' depth' []) _
              rcases hv with v2 | ⟨v2, v2'⟩
              · rw [v2, if_neg (by simp)]; exact .inl rfl
              · rw [v2, if_pos (by decide)]; exact .inr ⟨rfl, by omega⟩
            · rw [v, if_pos (by decide)]; exact .inr ⟨rfl, by omega⟩
  exact key l (fun x hx => hx)
def nI (x : DInline) : Nat := 1 + (dpI x.fKids).length
theorem nI_len : ∀ l : List DInline, (dpI l).length = wl nI l
  | [] => rfl
  | x :: l => by rw [dpI_cons, List.length_cons, List.length_append, wl, nI, nI_len l]; omega
theorem nI_lin (w : List ByteArray) : ∀ l : List DInline, (dpI (linP w l).1).length ≤ (dpI l).length := by
  refine inl_all (fun l hl => ?_)
  rw [nI_len, nI_len, linP_eq]
  refine sq_wl (fun x hx => ?_)
  have := hl x hx
  rcases inlW_cases w (linP w) x with e | e | e
  · rw [e]; simp [wl]
  · rw [e, ← nI_len, nI]; omega
  · rw [e]; simp only [wl, nI, setKids]; omega
theorem mga_nI : ∀ (r : List DInline) (x : DInline), wl nI (mga x r) ≤ nI x + wl nI r
  | [], x => by simp [mga, wl]
  | y :: r, x => by
    rw [mga]; split
    · have := mga_nI r (setText x (x.fText ++ y.fText))
      simp only [wl]; simp only [nI, setText] at this ⊢; omega
    · have := mga_nI r y
      simp only [wl]; omega
theorem mg_nI (l : List DInline) : wl nI (mg l) ≤ wl nI l := by
  cases l with
  | nil => simp [mg]
  | cons x r => exact mga_nI r x
theorem nI_tdy : ∀ l : List DInline, (dpI (tdyL l)).length ≤ (dpI l).length := by
  refine inl_all (fun l hl => ?_)
  rw [nI_len, nI_len, tdyL_eq]
  refine Nat.le_trans (sg_wl _ _) (Nat.le_trans (mg_nI _) (Nat.le_trans (flt_wl _) (flat_wl (fun x hx => ?_))))
  · have := hl x hx
    rw [tdk]; split
    · simp [wl]
    · simp only [wl, nI, setKids]; omega
theorem nI_lnW (w : List ByteArray) (l : List DInline) : (dpI (lnW w l)).length ≤ (dpI l).length := by
  refine Nat.le_trans ?_ (Nat.le_trans (nI_tdy _) (nI_lin w l))
  rw [nI_len, nI_len, lnW, trmL_eq]; exact Nat.le_trans (dropB_wl _) (dropS_wl _)
def nB (b : DBlock) : Nat := 1 + (dpI b.fLine).length + ((lsB b.fKids).length + (ilsB b.fKids).length)
theorem nB_len : ∀ l : List DBlock, (lsB l).length + (ilsB l).length = wl nB l
  | [] => rfl
  | b :: l => by
    rw [lsB_cons, ilsB_cons, List.length_cons, List.length_append, List.length_append, List.length_append, wl, nB, ← nB_len l]; omega
theorem nB_blk (w : List ByteArray) : ∀ l : List DBlock, (lsB (blkP w l).1).length + (ilsB (blkP w l).1).length ≤ (lsB l).length + (ilsB l).length := by
  refine blk_all (fun l hl => ?_)
  rw [nB_len, nB_len, blkP_eq]
  refine sq_wl (fun x hx => ?_)
  have := hl x hx
  have h2 := nI_lnW w x.fLine
  cases blkW_cases w (blkP w) x with
  | none h => rw [h]; simp [wl]
  | lift hi h => rw [h, ← nB_len, nB]; omega
  | stay hi h0 hp h => rw [h]; simp only [wl, nB, setBlk]; omega
theorem cntIS_L0_eq (rec : List DInline → Int) (l : List DInline) : ∀ (n : Nat) (v : Int) (i : Nat), l.length - i < n → cntIS_L0 rec l n v i = v + ((l.drop i).map (fun x => rec x.fKids)).sum
  | 0, v, i, h => by omega
  | n + 1, v, i, h => by
    have hl := lenM_eq aInline l
    rw [cntIS_L0]
    by_cases hi : i < l.length
    · rw [dT (by omega), cond_true, cntIS_L0_eq rec l n _ _ (by omega), drop_el hi, List.map_cons, List.sum_cons]; omega
    · rw [dF (by omega), cond_false, List.drop_eq_nil_of_le (by omega)]; simp
theorem sum_map_eq {α : Type} {f : α → Int} {g : α → Nat} : ∀ {l : List α}, (∀ x ∈ l, f x = g x) → (l.map f).sum = ((wl g l : Nat) : Int)
  | [], _ => rfl
  | x :: l, h => by rw [List.map_cons, List.sum_cons, h x (by simp), sum_map_eq (fun y hy => h y (by simp [hy])), wl]; omega
theorem wl_add {α : Type} (f : α → Nat) : ∀ l : List α, wl (fun x => 1 + f x) l = l.length + wl f l
  | [] => rfl
  | x :: l => by rw [wl, wl_add f l, wl, List.length_cons]; omega
theorem cntIN_eq : ∀ (n : Nat) (l : List DInline), wl wInline l < n → cntIN n l = (((dpI l).length : Nat) : Int)
  | 0, l, h => by omega
  | n + 1, l, h => by
    rw [cntIN, cntIS, cntIS_L0_eq _ _ _ _ _ (by omega), List.drop_zero, lenM_eq]
    rw [sum_map_eq (g := fun x => (dpI x.fKids).length) (fun x hx => by
      have h1 := wl_mem (w := wInline) hx
      have h2 := wInline_eq x
      exact cntIN_eq n x.fKids (by omega))]
    rw [nI_len, show nI = (fun x : DInline => 1 + (dpI x.fKids).length) from rfl, wl_add]; omega
theorem cntI_eq (l : List DInline) : cntI l = (((dpI l).length : Nat) : Int) := cntIN_eq _ l (by omega)
theorem szsIS_L0_eq (rec : List DBlock → Int) (l : List DBlock) : ∀ (n : Nat) (v : Int) (i : Nat), l.length - i < n → szsIS_L0 rec l n v i = v + ((l.drop i).map (fun x => cntI x.fLine + rec x.fKids)).sum
  | 0, v, i, h => by omega
  | n + 1, v, i, h => by
    have hl := lenM_eq aBlock l
    rw [szsIS_L0]
    by_cases hi : i < l.length
    · rw [dT (by omega), cond_true, szsIS_L0_eq rec l n _ _ (by omega), drop_el hi, List.map_cons, List.sum_cons]; omega
    · rw [dF (by omega), cond_false, List.drop_eq_nil_of_le (by omega)]; simp
theorem szsIN_eq : ∀ (n : Nat) (l : List DBlock), wl wBlock l < n → szsIN n l = (((lsB l).length + (ilsB l).length : Nat) : Int)
  | 0, l, h => by omega
  | n + 1, l, h => by
    rw [szsIN, szsIS, szsIS_L0_eq _ _ _ _ _ (by omega), List.drop_zero, lenM_eq]
    rw [sum_map_eq (g := fun x => (dpI x.fLine).length + ((lsB x.fKids).length + (ilsB x.fKids).length)) (fun x hx => by
      have h1 := wl_mem (w := wBlock) hx
      have h2 := wBlock_eq x
      rw [cntI_eq, szsIN_eq n x.fKids (by omega)]; omega)]
    rw [nB_len, show nB = (fun x : DBlock => 1 + ((dpI x.fLine).length + ((lsB x.fKids).length + (ilsB x.fKids).length))) from funext (fun x => by rw [nB]; omega), wl_add]; omega
theorem sizeI_eq (d : DDoc) : sizeI d = (((lsB d.fBlocks).length + (ilsB d.fBlocks).length : Nat) : Int) := szsIN_eq _ _ (by omega)
theorem chkD_L1_same {d a : DDoc} (hm : a.fMeta = d.fMeta) {v3 : Nat} {k0 k1 : Nat → Int} {z : Int} (hk : k0 (v3 + 1) = 0 → k1 (v3 + 1) = z) : ∀ (n w5 : Nat), v3 - w5 < n → chkD_L1 d v3 k0 n w5 = 0 → chkD_L1 a v3 k1 n w5 = z
  | 0, w5, h, _ => by omega
  | n + 1, w5, h, e => by
    rw [chkD_L1] at e ⊢
    rw [hm]
    cases q1 : decide ((((w5 : Nat) : Int) : Int) < ((v3 : Nat) : Int)) with
    | true =>
      have hlt := of_decide_eq_true q1
      rw [q1] at e
      rw [cond_true] at e ⊢
      cases q2 : eqs (el d.fMeta w5).fKey (el d.fMeta v3).fKey with
      | true => rw [q2] at e; exact absurd (show (7 : Int) = 0 from e) (by decide)
      | false =>
        rw [q2] at e
        rw [cond_false] at e ⊢
        by_cases hn : v3 - (w5 + 1) < n
        · exact chkD_L1_same hm hk n _ hn e
        · omega
    | false => rw [q1] at e; rw [cond_false] at e ⊢; exact hk e
theorem chkD_L0_same {d a : DDoc} (hm : a.fMeta = d.fMeta) : ∀ (n v3 : Nat), d.fMeta.length - v3 < n → chkD_L0 d n v3 = 0 → chkD_L0 a n v3 = blksE a.fBlocks
  | 0, v3, h, _ => by omega
  | n + 1, v3, h, e => by
    have hl := lenM_eq aPair d.fMeta
    rw [chkD_L0] at e ⊢
    rw [hm]
    by_cases hi : v3 < d.fMeta.length
    · rw [dT (by omega), cond_true] at e ⊢
      cases q1 : nameB (el d.fMeta v3).fKey with
      | false => rw [q1] at e; exact absurd (show (6 : Int) = 0 from e) (by decide)
      | true =>
        rw [q1] at e
        simp only [Bool.not_true, cond_false] at e ⊢
        cases q2 : cond (!lineB (el d.fMeta v3).fValue) true (!trimB (el d.fMeta v3).fValue) with
        | true => rw [q2] at e; exact absurd (show (17 : Int) = 0 from e) (by decide)
        | false =>
          rw [q2] at e
          rw [cond_false] at e ⊢
          exact chkD_L1_same hm (fun q => chkD_L0_same hm n _ (by omega) q) _ _ (by omega) e
    · rw [dF (by omega), cond_false]
theorem chkD_same {d a : DDoc} (hm : a.fMeta = d.fMeta) (hs : sizeI a ≤ sizeI d) (h : chkD d = 0) : chkD a = blksE a.fBlocks := by
  unfold chkD at h ⊢
  rw [hm]
  cases q : cond (decide (sizeI d > 32768)) true (decide ((((lenM aPair d.fMeta : Nat) : Int) : Int) > 64)) with
  | true => rw [q] at h; simp at h
  | false =>
    rw [q, cond_false] at h
    obtain ⟨q1, q2⟩ := cond_tt q
    have := of_decide_eq_false q1
    rw [dF (show ¬ sizeI a > 32768 by omega), cond_false, q2, cond_false]
    exact chkD_L0_same hm _ _ (by omega) h
theorem cwlM_L0_eq (d : DDoc) (flags : List ByteArray) : ∀ (n : Nat) (v : Int) (i : Nat), (ilsB d.fBlocks).length - i < n → cwlM_L0 d flags n v i = cond (cond (cond ((aplD d flags).2 != 0) true (chkD (aplD d flags).1 == 0)) true (cond (chkD (aplD d flags).1 == 5) (decide (v + ((((ilsB d.fBlocks).drop i).countP (fun x => x.fKind == 4) : Nat) : Int) > 1)) false)) true false
  | 0, v, i, h => by omega
  | n + 1, v, i, h => by
    have hl := lenM_eq aInline (ilsB d.fBlocks)
    rw [cwlM_L0]
    by_cases hi : i < (ilsB d.fBlocks).length
    · rw [dT (by omega), cond_true, cwlM_L0_eq d flags n _ _ (by omega), drop_el hi, List.countP_cons]
      congr 5
      cases q : ((el (ilsB d.fBlocks) i).fKind == 4)
      · simp
      · simp; omega
    · rw [dF (by omega), cond_false, List.drop_eq_nil_of_le (by omega)]; simp
theorem cwlM_true (d : DDoc) (flags : List ByteArray) : cwlM d flags = true := by
  unfold cwlM
  rw [condE]
  split
  · rfl
  · rename_i h0
    have hc : chkD d = 0 := by
      by_cases hc : chkD d = 0
      · exact hc
      · exfalso; apply h0; rw [bne_iff_ne.2 hc]; cases cond (!smlD d) true (decide (((lenM strAV flags : Nat) : Int) > 40)) <;> rfl
    rw [cwlM_L0_eq d flags _ _ _ (by omega), List.drop_zero]
    by_cases he : (aplD d flags).2 = 0
    · have ha : (aplD d flags).1 = DDoc.mk d.fMeta (blkP flags d.fBlocks).1 := by
        unfold aplD at he ⊢
        by_cases hq : (blkP flags d.fBlocks).2 = 0
        · rw [hq]; rfl
        · rw [bne_iff_ne.2 hq] at he; exact absurd he hq
      have hchk : chkD (aplD d flags).1 = blksE (blkP flags d.fBlocks).1 := by
        rw [ha]
        refine chkD_same (d := d) (a := DDoc.mk d.fMeta (blkP flags d.fBlocks).1) rfl ?_ hc
        have := nB_blk flags d.fBlocks
        rw [sizeI_eq, sizeI_eq]
        show (((lsB (blkP flags d.fBlocks).1).length + (ilsB (blkP flags d.fBlocks).1).length : Nat) : Int) ≤ _
        omega
      have hv := blk_val flags d.fBlocks 0 0 (chkD_zero hc) 0 0 (by omega) (.inl rfl)
      have hc4 := c4B_blk flags d.fBlocks
      rw [show blksE (blkP flags d.fBlocks).1 = blsE (blkP flags d.fBlocks).1 0 0 from rfl] at hchk
      rcases hv with v | ⟨v, v'⟩
      · rw [hchk, v, he]; rfl
      · rw [hchk, v, he]
        have : ((0 : Int) + (((ilsB d.fBlocks).countP (fun x => x.fKind == 4) : Nat) : Int) > 1) := by
          unfold c4B at v' hc4; omega
        rw [dT this]; rfl
    · rw [bne_iff_ne.2 he]; rfl
end Go.Proofs.YtdaglbjgdakmcaaGreat
namespace Go.Eng
open Go.ChangeShapes Go.WideShapes Go.ChangeAt Go.RowKit
/-- All that lies in memory stays. -/
def U0 (w : World) (b : Nat) : Nat := match w.heap[b]? with
  | some (.cells arr _ _) => arr.size
  | _ => 0
theorem wf0 (w : World) : Wf ⟨U0 w, fun _ => none, fun _ => 0⟩ w :=
  ⟨fun κ κ' b h => by simp at h, fun κ b h => by simp at h, fun b hb => by simp only [U0]; rw [Array.getElem?_eq_none hb]⟩
theorem law_calls {P : Program} {f : FuncId} {xs : List AV} (h : CallTo P f (xs.map .av) [] [] (jB true) [] []) {W : World} {vs : List Value} (hr : RepL (U0 W) W xs vs) :
    Calls P f vs.toArray W (fun e W' => e = .returned (.bool true) ∧ Below W.heap.size W W') := by
  refine (h.2 ⟨U0 W, fun _ => none, fun _ => 0⟩ W vs (wf0 W) (RepSs_av hr) (by simp) (by simp)).mono ?_
  rintro e w' ⟨v, G', rfl, s1, _, s3, _⟩
  simp only [jB, RepS, Rep] at s3
  rw [s3.1]
  exact ⟨rfl, s1.os, s1.tape, s1.output, s1.size, fun k hk => (s1.stay k hk (by simp)).1⟩
theorem cell_U0 {w : World} {b o : Nat} {v : Value} (h : w.cell? ⟨b, o, none⟩ = some v) : o < U0 w b := by
  unfold U0
  simp only [World.cell?] at h
  split at h
  · rename_i arr e fz hb
    rw [hb]
    simp only [Option.isSome_none, Bool.false_eq_true, if_false] at h
    rcases Nat.lt_or_ge o arr.size with h1 | h1
    · exact h1
    · simp [Array.getElem?_eq_none h1] at h
  · simp at h
end Go.Eng
namespace Go.Proofs.YtdaglbjgdakmcaaGreat
open Go Go.Eng Go.ChangeShapes Go.WideShapes Go.ChangeAt Go.RowKit
section
variable {H : Type} (enc : TypeId × Value → H) (P : Program) (w : World) (sp : Nat → Bool) (held : Bool)
/-- What is read of type t with so much fuel has such cells. -/
def Rd (n : Nat) (t : TypeId) {α : Type} (f : α → List AV) (wt : α → Nat) : Prop :=
  ∀ cs x, DataW.trod enc P w 0 sp held n t cs = some x → ∃ a : α, RepL (U0 w) w (f a) cs ∧ wt a ≤ Rows.uptoBulk x.1 ∧ ∀ v ∈ cs, v.oneCell' = true
variable {enc P w sp held}
theorem Rd_map {n : Nat} {t : TypeId} {α β : Type} {f : α → List AV} {wt : α → Nat} {f' : β → List AV} {wt' : β → Nat} (c : α → β) (h : Rd enc P w sp held n t f wt) (hf : ∀ a, f' (c a) = f a) (hw : ∀ a, wt' (c a) ≤ wt a) : Rd enc P w sp held n t f' wt' :=
  fun cs x hx => by
    obtain ⟨a, h1, h2, h3⟩ := h cs x hx
    exact ⟨c a, by rw [hf]; exact h1, Nat.le_trans (hw a) h2, h3⟩
theorem Rd_int {t : TypeId} (ht : P.underlying t = some (.int .i64)) (n : Nat) : Rd enc P w sp held n t (fun i : Int => [vI i]) w1 := fun cs x h => by
  obtain ⟨m, rfl, rfl, _⟩ := DataW.trod_int ht h
  exact ⟨m, by simp only [RepL, Rep]; exact ⟨_, _, rfl, ⟨rfl, rfl⟩, rfl⟩, by simp [w1, Rows.uptoBulk], by intro v hv; simp at hv; subst hv; rfl⟩
theorem Rd_bool {t : TypeId} (ht : P.underlying t = some .bool) (n : Nat) : Rd enc P w sp held n t (fun i : Bool => [vB i]) w1 := fun cs x h => by
  obtain ⟨m, rfl, rfl⟩ := DataW.trod_bool ht h
  exact ⟨m, by simp only [RepL, Rep]; exact ⟨_, _, rfl, ⟨rfl, rfl⟩, rfl⟩, by simp [w1, Rows.uptoBulk], by intro v hv; simp at hv; subst hv; rfl⟩
theorem Rd_str {t : TypeId} (ht : P.underlying t = some .string) (n : Nat) : Rd enc P w sp held n t (fun s : ByteArray => [vS s]) wStr := fun cs x h => by
  obtain ⟨s, rfl, rfl, _⟩ := DataW.trod_string ht h
  refine ⟨s, by simp only [RepL, Rep]; exact ⟨_, _, rfl, ⟨rfl, rfl⟩, rfl⟩, ?_, by intro v hv; simp at hv; subst hv; rfl⟩
  have e : s.data.toList.length = s.size := by rw [Array.length_toList]; rfl
  simp only [wStr, Rows.uptoBulk]; omega
theorem add_add (a : Addr) (i j : Nat) : (a.add i).add j = a.add (i + j) := by
  obtain ⟨b, o, s⟩ := a
  unfold Addr.add
  by_cases hi : i = 0
  · subst hi; simp
  · by_cases hj : j = 0
    · subst hj; simp [hi]
    · simp [hi, hj]; omega
theorem cells_get {a : Addr} {n : Nat} {cs : List Value} (h : w.cells? 0 a n = some cs) : cs.length = n ∧ ∀ j, j < n → w.cell? (a.add j) = cs[j]? := by
  unfold World.cells? at h
  rw [if_pos (Nat.zero_le _)] at h
  exact ⟨by simpa using mapM_some_length h, fun j hj => mapM_some_get h j j (by simp [hj])⟩
/-- How an element's cells make one value. -/
def One (sz : Nat) {α : Type} (f : α → List AV) (g : α → AV) : Prop :=
  ∀ (U : Nat → Nat) (w : World) (a : α) (us : List Value), RepL U w (f a) us → us.length = sz → (∀ v ∈ us, v.oneCell' = true) → ∃ u : Value, Rep U w (g a) u ∧ u.cells.toList = us
theorem One_agg {α : Type} {sz : Nat} (f : α → List AV) : One sz f (fun a => .agg (f a)) := fun U w a us h _ h1 => ⟨.agg us.toArray, by simp only [Rep]; exact ⟨_, rfl, by simpa using h, by simpa using h1⟩, by simp [Value.cells]⟩
theorem One_val {α : Type} (g : α → AV) (v : α → Value) (hg : ∀ a, g a = .val (v a)) (hc : ∀ a, (v a).cells = #[v a]) : One 1 (fun a => [g a]) g := fun U w a us h _ h1 => by
  simp only [RepL] at h
  obtain ⟨u, us', rfl, h2, rfl⟩ := h
  refine ⟨u, h2, ?_⟩
  rw [hg] at h2; simp only [Rep] at h2
  rw [h2.1, hc]
theorem slice_go {e : TypeId} {n sz : Nat} {α : Type} {f : α → List AV} {g : α → AV} {wt : α → Nat} (hc : P.cellsOf e = sz) (hR : Rd enc P w sp held n e f wt) (hO : One sz f g) (a : Addr) :
    ∀ (elems : List (DataW H × List MemPlace)) (i0 : Nat), (∀ i, i < elems.length → (w.cells? 0 (a.add ((i0 + i) * sz)) sz).bind (DataW.trod enc P w 0 sp held n e) = elems[i]?) →
      ∃ (l : List α) (es : List Value), RepL (U0 w) w (l.map g) es ∧ l.length = elems.length ∧ (∀ v ∈ es, v.cells.size = sz) ∧ wl wt l ≤ Rows.uptoBulkAll (elems.map (·.1)) ∧
        ∀ j v, (vcells es)[j]? = some v → w.cell? (a.add (i0 * sz + j)) = some v ∧ v.oneCell' = true
  | [], i0, _ => ⟨[], [], by simp [RepL], rfl, by simp, by simp [wl, Rows.uptoBulkAll], by simp [vcells]⟩
  | x :: elems, i0, h => by
    have h0 := h 0 (by simp)
    simp only [Nat.add_zero, List.getElem?_cons_zero, Option.bind_eq_some_iff] at h0
    obtain ⟨cs, hcs, hx⟩ := h0
    obtain ⟨hl, hget⟩ := cells_get hcs
    obtain ⟨y, r1, r2, r3⟩ := hR cs x hx
    obtain ⟨u, u1, u2⟩ := hO _ _ y cs r1 hl r3
    obtain ⟨l, es, k1, k2, k3, k4, k5⟩ := slice_go hc hR hO a elems (i0 + 1) (fun i hi => by
      have := h (i + 1) (by simpa using hi)
      rw [show i0 + 1 + i = i0 + (i + 1) by omega]; simpa using this)
    have hsz : u.cells.size = sz := by rw [← Array.length_toList, u2, hl]
    refine ⟨y :: l, u :: es, by simp only [List.map_cons, RepL]; exact ⟨_, _, rfl, u1, k1⟩, by simp [k2], ?_, by simp only [List.map_cons, wl, Rows.uptoBulkAll]; omega, fun j v hj => ?_⟩
    · intro v hv; simp only [List.mem_cons] at hv
      rcases hv with rfl | hv
      · exact hsz
      · exact k3 v hv
    · simp only [vcells, List.flatMap_cons, u2] at hj
      by_cases hjl : j < sz
      · rw [List.getElem?_append_left (by omega)] at hj
        have := hget j hjl
        rw [add_add] at this
        exact ⟨by rw [this, hj], r3 v (List.mem_of_getElem? hj)⟩
      · rw [List.getElem?_append_right (by omega), hl] at hj
        have := k5 (j - sz) v hj
        rw [show (i0 + 1) * sz + (j - sz) = i0 * sz + j by rw [Nat.add_mul]; omega] at this
        exact this
theorem Rd_slice {t e : TypeId} {n sz : Nat} {α : Type} {f : α → List AV} {g : α → AV} {wt : α → Nat} (ht : P.underlying t = some (.slice e)) (hc : P.cellsOf e = sz) (hz : 0 < sz) (hO : One sz f g) (hR : ∀ m, n = m + 1 → Rd enc P w sp held m e f wt) :
    Rd enc P w sp held n t (fun l : List α => [.sl (l.map g)]) (wl wt) := fun cs x h => by
  rcases DataW.trod_slice ht h with ⟨rfl, rfl⟩ | ⟨a, len, cap, elems, rest, m, rfl, rfl, rfl, hb, hl, hm, hlen, hel, _, _⟩
  · exact ⟨[], by simp only [List.map_nil, RepL]; exact ⟨_, _, rfl, Rep_nil _ _, rfl⟩, by simp [wl, Rows.uptoBulk], by intro v hv; simp at hv; subst hv; rfl⟩
  · obtain ⟨l, es, k1, k2, k3, k4, k5⟩ := slice_go hc (hR m rfl) hO a elems 0 (fun i hi => by rw [Nat.zero_add]; have := hel i (by omega); rw [hc] at this; exact this)
    refine ⟨l, ?_, by simp only [Rows.uptoBulk]; omega, by intro v hv; simp at hv; subst hv; rfl⟩
    simp only [RepL]
    refine ⟨_, _, rfl, ?_, rfl⟩
    simp only [Rep]
    have hll : (l.map g).length = len := by simp; omega
    have hes : es.length = len := by have := k1.length; omega
    have hfirst : vcells es ≠ [] → a.spot = none := by
      intro hne
      obtain ⟨v, r, hv⟩ := List.exists_cons_of_ne_nil hne
      have := (k5 0 v (by rw [hv]; rfl)).1
      simp only [Nat.zero_mul, Nat.zero_add, Addr.add, if_true, World.cell?] at this
      split at this
      · cases hs : a.spot with
        | none => rfl
        | some s => rw [hs] at this; simp at this
      · simp at this
    refine ⟨some a, cap, es, sz, by rw [hll], k1, k3, by simp, by rw [hll]; exact hl, ?_, ?_⟩
    · rintro hne ad ⟨⟩
      have hsz : sz ≠ 0 := by omega
      refine hfirst (fun q => ?_)
      have hz := vcells_length es k3
      rw [q] at hz
      simp only [List.length_nil] at hz
      have : es.length = 0 := by
        rcases Nat.mul_eq_zero.1 hz.symm with h | h
        · exact h
        · exact absurd h hsz
      apply hne
      have : l.length = 0 := by omega
      simp [List.eq_nil_of_length_eq_zero this]
    · by_cases hne : vcells es = []
      · exact .inl hne
      · right
        have hs := hfirst hne
        obtain ⟨b, off, s⟩ := a
        simp only at hs; subst hs
        refine ⟨b, off, rfl, ?_, fun j v hj => ?_⟩
        · have hlen : 0 < (vcells es).length := List.length_pos_iff.2 hne
          have hv := List.getElem?_eq_getElem (l := vcells es) (i := (vcells es).length - 1) (by omega)
          have := (k5 _ _ hv).1
          rw [Nat.zero_mul, Nat.zero_add, addr_add] at this
          have := cell_U0 this
          omega
        · have := k5 j v hj
          rw [Nat.zero_mul, Nat.zero_add, addr_add] at this
          exact this
/-- The fields from a place on. -/
def RdF (enc : TypeId × Value → H) (P : Program) (w : World) (sp : Nat → Bool) (held : Bool) (n : Nat) (fs : List Field) (o tot : Nat) {α : Type} (f : α → List AV) (wt : α → Nat) : Prop :=
  ∀ (cs : List Value) (xs : List (DataW H × List MemPlace)), cs.length = tot → xs.length = fs.length → (∀ (i : Nat) (fd : Field), fs[i]? = some fd → DataW.trod enc P w 0 sp held n fd.type ((cs.drop fd.offset).take (P.cellsOf fd.type)) = xs[i]?) →
    ∃ a : α, RepL (U0 w) w (f a) (cs.drop o) ∧ wt a ≤ Rows.uptoBulkAll (xs.map (·.1)) ∧ ∀ v ∈ cs.drop o, v.oneCell' = true
theorem RdF_nil {n o : Nat} : RdF enc P w sp held n [] o o (fun _ : Unit => []) (fun _ => 0) := fun cs xs h _ _ => by
  have : cs.drop o = [] := List.drop_eq_nil_of_le (by omega)
  exact ⟨(), by rw [this]; simp [RepL], Nat.zero_le _, by rw [this]; simp⟩
theorem RdF_cons {n o k tot : Nat} {fd : Field} {fs : List Field} {α β : Type} {f : α → List AV} {wt : α → Nat} {g : β → List AV} {wg : β → Nat} (ho : fd.offset = o) (hk : P.cellsOf fd.type = k) (h0 : Rd enc P w sp held n fd.type f wt) (h : RdF enc P w sp held n fs (o + k) tot g wg) :
    RdF enc P w sp held n (fd :: fs) o tot (fun a : α × β => f a.1 ++ g a.2) (fun a => wt a.1 + wg a.2) := fun cs xs hl hx hf => by
  cases xs with
  | nil => simp at hx
  | cons x xs =>
    have e0 := hf 0 fd rfl
    rw [ho, hk] at e0
    obtain ⟨a, a1, a2, a3⟩ := h0 _ x e0
    obtain ⟨b, b1, b2, b3⟩ := h cs xs hl (by simpa using hx) (fun i fd' hi => by simpa using hf (i + 1) fd' (by simpa using hi))
    have hd : cs.drop o = (cs.drop o).take k ++ cs.drop (o + k) := by rw [← List.drop_drop, List.take_append_drop]
    refine ⟨(a, b), by rw [hd]; exact a1.append b1, by simp only [List.map_cons, Rows.uptoBulkAll]; omega, fun v hv => ?_⟩
    rw [hd, List.mem_append] at hv
    rcases hv with hv | hv
    · exact a3 v hv
    · exact b3 v hv
theorem Rd_struct {t : TypeId} {fs : Array Field} {n tot : Nat} {α : Type} {f : α → List AV} {wt : α → Nat} (ht : P.underlying t = some (.struct fs)) (hc : P.cellsOf t = tot) (h : ∀ m, n = m + 1 → RdF enc P w sp held m fs.toList 0 tot f wt) : Rd enc P w sp held n t f (fun a => 1 + wt a) := fun cs x hx => by
  obtain ⟨xs, m, rfl, rfl, hl, hlen, hf⟩ := DataW.trod_struct ht hx
  obtain ⟨a, a1, a2, a3⟩ := h m rfl cs xs (by omega) (by simpa using hlen) (fun i fd hi => hf i fd (by simpa using hi))
  exact ⟨a, by simpa using a1, by simp only [Rows.uptoBulk]; omega, by simpa using a3⟩
end
end Go.Proofs.YtdaglbjgdakmcaaGreat
namespace Go.Proofs.YtdaglbjgdakmcaaGreat
open Go Go.Eng
open Go.ChangeShapes Go.WideShapes Go.ChangeAt Go.RowKit
theorem One_aPair : One 2 (fun x : DPair => [(vS ((x).fKey)), (vS ((x).fValue))]) aPair := fun U w a us h1 h2 h3 => by rw [aPair_eq]; exact One_agg (fun x : DPair => [(vS ((x).fKey)), (vS ((x).fValue))]) U w a us h1 h2 h3
theorem Rd_aPair {H : Type} {enc : TypeId × Value → H} {w : World} {sp : Nat → Bool} {held : Bool} (n : Nat) : Rd enc Tryz.prog w sp held n 43 (fun x : DPair => [(vS ((x).fKey)), (vS ((x).fValue))]) wPair := by
  have h := Rd_struct (n := n) (enc := enc) (P := Tryz.prog) (w := w) (sp := sp) (held := held) (tot := 2) Tryz.underlying43 (by kernel_rfl) (fun m hm => (RdF_cons (k := 1) rfl (by kernel_rfl) (Rd_str Tryz.underlying9 m) (RdF_cons (k := 1) rfl (by kernel_rfl) (Rd_str Tryz.underlying9 m) RdF_nil)))
  exact Rd_map (fun a => DPair.mk a.1 a.2.1) h (fun _ => rfl) (fun a => by simp only [wPair_eq, w1]; omega)
theorem Rd_aAttr {H : Type} {enc : TypeId × Value → H} {w : World} {sp : Nat → Bool} {held : Bool} (n : Nat) : Rd enc Tryz.prog w sp held n 38 (fun x : DAttr => [(vS ((x).fID)), (.sl (((x).fClasses).map strAV)), (.sl (((x).fPairs).map aPair))]) wAttr := by
  have h := Rd_struct (n := n) (enc := enc) (P := Tryz.prog) (w := w) (sp := sp) (held := held) (tot := 3) Tryz.underlying38 (by kernel_rfl) (fun m hm => (RdF_cons (k := 1) rfl (by kernel_rfl) (Rd_str Tryz.underlying9 m) (RdF_cons (k := 1) rfl (by kernel_rfl) (Rd_slice (t := 26) (e := 9) (sz := 1) (g := strAV) (wt := wStr) Tryz.underlying26 (by kernel_rfl) (by decide) (One_val strAV Value.string (fun _ => rfl) (fun _ => rfl)) (fun q hq => (Rd_str Tryz.underlying9 q))) (RdF_cons (k := 1) rfl (by kernel_rfl) (Rd_slice (t := 22) (e := 43) (sz := 2) (g := aPair) (wt := wPair) Tryz.underlying22 (by kernel_rfl) (by decide) One_aPair (fun q hq => (Rd_aPair q))) RdF_nil))))
  exact Rd_map (fun a => DAttr.mk a.1 a.2.1 a.2.2.1) h (fun _ => rfl) (fun a => by simp only [wAttr_eq, w1]; omega)
theorem One_aCited : One 4 (fun x : DCited => [(vS ((x).fKey)), (vS ((x).fPrefix)), (vS ((x).fSuffix)), (vB ((x).fBare))]) aCited := fun U w a us h1 h2 h3 => by rw [aCited_eq]; exact One_agg (fun x : DCited => [(vS ((x).fKey)), (vS ((x).fPrefix)), (vS ((x).fSuffix)), (vB ((x).fBare))]) U w a us h1 h2 h3
theorem Rd_aCited {H : Type} {enc : TypeId × Value → H} {w : World} {sp : Nat → Bool} {held : Bool} (n : Nat) : Rd enc Tryz.prog w sp held n 96 (fun x : DCited => [(vS ((x).fKey)), (vS ((x).fPrefix)), (vS ((x).fSuffix)), (vB ((x).fBare))]) wCited := by
  have h := Rd_struct (n := n) (enc := enc) (P := Tryz.prog) (w := w) (sp := sp) (held := held) (tot := 4) Tryz.underlying96 (by kernel_rfl) (fun m hm => (RdF_cons (k := 1) rfl (by kernel_rfl) (Rd_str Tryz.underlying9 m) (RdF_cons (k := 1) rfl (by kernel_rfl) (Rd_str Tryz.underlying9 m) (RdF_cons (k := 1) rfl (by kernel_rfl) (Rd_str Tryz.underlying9 m) (RdF_cons (k := 1) rfl (by kernel_rfl) (Rd_bool Tryz.underlying4 m) RdF_nil)))))
  exact Rd_map (fun a => DCited.mk a.1 a.2.1 a.2.2.1 a.2.2.2.1) h (fun _ => rfl) (fun a => by simp only [wCited_eq, w1]; omega)
theorem One_aInline : One 10 (fun x : DInline => [(vI ((x).fKind)), (vS ((x).fText)), (vS ((x).fDest)), (vS ((x).fTitle)), (vS (((x).fAttr).fID)), (.sl ((((x).fAttr).fClasses).map strAV)), (.sl ((((x).fAttr).fPairs).map aPair)), (.sl (((x).fArgs).map strAV)), (.sl (((x).fCites).map aCited)), (.sl (((x).fKids).map aInline))]) aInline := fun U w a us h1 h2 h3 => by rw [aInline_eq]; exact One_agg (fun x : DInline => [(vI ((x).fKind)), (vS ((x).fText)), (vS ((x).fDest)), (vS ((x).fTitle)), (vS (((x).fAttr).fID)), (.sl ((((x).fAttr).fClasses).map strAV)), (.sl ((((x).fAttr).fPairs).map aPair)), (.sl (((x).fArgs).map strAV)), (.sl (((x).fCites).map aCited)), (.sl (((x).fKids).map aInline))]) U w a us h1 h2 h3
theorem Rd_aInline {H : Type} {enc : TypeId × Value → H} {w : World} {sp : Nat → Bool} {held : Bool} : ∀ n : Nat, Rd enc Tryz.prog w sp held n 41 (fun x : DInline => [(vI ((x).fKind)), (vS ((x).fText)), (vS ((x).fDest)), (vS ((x).fTitle)), (vS (((x).fAttr).fID)), (.sl ((((x).fAttr).fClasses).map strAV)), (.sl ((((x).fAttr).fPairs).map aPair)), (.sl (((x).fArgs).map strAV)), (.sl (((x).fCites).map aCited)), (.sl (((x).fKids).map aInline))]) wInline := fun n => Nat.strongRecOn n (fun n ih => by
  have h := Rd_struct (n := n) (enc := enc) (P := Tryz.prog) (w := w) (sp := sp) (held := held) (tot := 10) Tryz.underlying41 (by kernel_rfl) (fun m hm => (RdF_cons (k := 1) rfl (by kernel_rfl) (Rd_int Tryz.underlying3 m) (RdF_cons (k := 1) rfl (by kernel_rfl) (Rd_str Tryz.underlying9 m) (RdF_cons (k := 1) rfl (by kernel_rfl) (Rd_str Tryz.underlying9 m) (RdF_cons (k := 1) rfl (by kernel_rfl) (Rd_str Tryz.underlying9 m) (RdF_cons (k := 3) rfl (by kernel_rfl) (Rd_aAttr m) (RdF_cons (k := 1) rfl (by kernel_rfl) (Rd_slice (t := 26) (e := 9) (sz := 1) (g := strAV) (wt := wStr) Tryz.underlying26 (by kernel_rfl) (by decide) (One_val strAV Value.string (fun _ => rfl) (fun _ => rfl)) (fun q hq => (Rd_str Tryz.underlying9 q))) (RdF_cons (k := 1) rfl (by kernel_rfl) (Rd_slice (t := 39) (e := 96) (sz := 4) (g := aCited) (wt := wCited) Tryz.underlying39 (by kernel_rfl) (by decide) One_aCited (fun q hq => (Rd_aCited q))) (RdF_cons (k := 1) rfl (by kernel_rfl) (Rd_slice (t := 35) (e := 41) (sz := 10) (g := aInline) (wt := wInline) Tryz.underlying35 (by kernel_rfl) (by decide) One_aInline (fun q hq => (ih q (by omega)))) RdF_nil)))))))))
  exact Rd_map (fun a => DInline.mk a.1 a.2.1 a.2.2.1 a.2.2.2.1 a.2.2.2.2.1 a.2.2.2.2.2.1 a.2.2.2.2.2.2.1 a.2.2.2.2.2.2.2.1) h (fun _ => rfl) (fun a => by simp only [wInline_eq, w1]; omega))
theorem One_aBlock : One 11 (fun x : DBlock => [(vI ((x).fKind)), (vI ((x).fLevel)), (vS ((x).fInfo)), (vS ((x).fText)), (vS ((x).fDest)), (vS ((x).fTitle)), (vS (((x).fAttr).fID)), (.sl ((((x).fAttr).fClasses).map strAV)), (.sl ((((x).fAttr).fPairs).map aPair)), (.sl (((x).fLine).map aInline)), (.sl (((x).fKids).map aBlock))]) aBlock := fun U w a us h1 h2 h3 => by rw [aBlock_eq]; exact One_agg (fun x : DBlock => [(vI ((x).fKind)), (vI ((x).fLevel)), (vS ((x).fInfo)), (vS ((x).fText)), (vS ((x).fDest)), (vS ((x).fTitle)), (vS (((x).fAttr).fID)), (.sl ((((x).fAttr).fClasses).map strAV)), (.sl ((((x).fAttr).fPairs).map aPair)), (.sl (((x).fLine).map aInline)), (.sl (((x).fKids).map aBlock))]) U w a us h1 h2 h3
theorem Rd_aBlock {H : Type} {enc : TypeId × Value → H} {w : World} {sp : Nat → Bool} {held : Bool} : ∀ n : Nat, Rd enc Tryz.prog w sp held n 65 (fun x : DBlock => [(vI ((x).fKind)), (vI ((x).fLevel)), (vS ((x).fInfo)), (vS ((x).fText)), (vS ((x).fDest)), (vS ((x).fTitle)), (vS (((x).fAttr).fID)), (.sl ((((x).fAttr).fClasses).map strAV)), (.sl ((((x).fAttr).fPairs).map aPair)), (.sl (((x).fLine).map aInline)), (.sl (((x).fKids).map aBlock))]) wBlock := fun n => Nat.strongRecOn n (fun n ih => by
  have h := Rd_struct (n := n) (enc := enc) (P := Tryz.prog) (w := w) (sp := sp) (held := held) (tot := 11) Tryz.underlying65 (by kernel_rfl) (fun m hm => (RdF_cons (k := 1) rfl (by kernel_rfl) (Rd_int Tryz.underlying3 m) (RdF_cons (k := 1) rfl (by kernel_rfl) (Rd_int Tryz.underlying3 m) (RdF_cons (k := 1) rfl (by kernel_rfl) (Rd_str Tryz.underlying9 m) (RdF_cons (k := 1) rfl (by kernel_rfl) (Rd_str Tryz.underlying9 m) (RdF_cons (k := 1) rfl (by kernel_rfl) (Rd_str Tryz.underlying9 m) (RdF_cons (k := 1) rfl (by kernel_rfl) (Rd_str Tryz.underlying9 m) (RdF_cons (k := 3) rfl (by kernel_rfl) (Rd_aAttr m) (RdF_cons (k := 1) rfl (by kernel_rfl) (Rd_slice (t := 35) (e := 41) (sz := 10) (g := aInline) (wt := wInline) Tryz.underlying35 (by kernel_rfl) (by decide) One_aInline (fun q hq => (Rd_aInline q))) (RdF_cons (k := 1) rfl (by kernel_rfl) (Rd_slice (t := 23) (e := 65) (sz := 11) (g := aBlock) (wt := wBlock) Tryz.underlying23 (by kernel_rfl) (by decide) One_aBlock (fun q hq => (ih q (by omega)))) RdF_nil))))))))))
  exact Rd_map (fun a => DBlock.mk a.1 a.2.1 a.2.2.1 a.2.2.2.1 a.2.2.2.2.1 a.2.2.2.2.2.1 a.2.2.2.2.2.2.1 a.2.2.2.2.2.2.2.1 a.2.2.2.2.2.2.2.2.1) h (fun _ => rfl) (fun a => by simp only [wBlock_eq, w1]; omega))
theorem Rd_aDoc {H : Type} {enc : TypeId × Value → H} {w : World} {sp : Nat → Bool} {held : Bool} (n : Nat) : Rd enc Tryz.prog w sp held n 25 (fun x : DDoc => [(.sl (((x).fMeta).map aPair)), (.sl (((x).fBlocks).map aBlock))]) wDoc := by
  have h := Rd_struct (n := n) (enc := enc) (P := Tryz.prog) (w := w) (sp := sp) (held := held) (tot := 2) Tryz.underlying25 (by kernel_rfl) (fun m hm => (RdF_cons (k := 1) rfl (by kernel_rfl) (Rd_slice (t := 22) (e := 43) (sz := 2) (g := aPair) (wt := wPair) Tryz.underlying22 (by kernel_rfl) (by decide) One_aPair (fun q hq => (Rd_aPair q))) (RdF_cons (k := 1) rfl (by kernel_rfl) (Rd_slice (t := 23) (e := 65) (sz := 11) (g := aBlock) (wt := wBlock) Tryz.underlying23 (by kernel_rfl) (by decide) One_aBlock (fun q hq => (Rd_aBlock q))) RdF_nil)))
  exact Rd_map (fun a => DDoc.mk a.1 a.2.1) h (fun _ => rfl) (fun a => by simp only [wDoc_eq, w1]; omega)
theorem Rd_strs {H : Type} {enc : TypeId × Value → H} {w : World} {sp : Nat → Bool} {held : Bool} (n : Nat) : Rd enc Tryz.prog w sp held n 26 (fun l : List ByteArray => [.sl (l.map strAV)]) (wl wStr) := (Rd_slice (t := 26) (e := 9) (sz := 1) (g := strAV) (wt := wStr) Tryz.underlying26 (by kernel_rfl) (by decide) (One_val strAV Value.string (fun _ => rfl) (fun _ => rfl)) (fun q hq => (Rd_str Tryz.underlying9 q)))
end Go.Proofs.YtdaglbjgdakmcaaGreat
namespace Go.Proofs.YtdaglbjgdakmcaaGreat
open Go Go.Eng Go.ChangeShapes Go.WideShapes Go.ChangeAt Go.RowKit Go.ChangeMaps
theorem Tryz.own : ownKnob Tryz.prog.godebug = none := by kernel_rfl
theorem Tryz.laidOut : laidOutB Tryz.prog = true := by kernel_rfl
theorem bulk2 {H : Type} {d0 d1 : DataW H} (hk : Rows.uptoSmall H [d0, d1] = true) : Rows.uptoBulk d0 + Rows.uptoBulk d1 ≤ 1048576 := by
  have h : Rows.uptoBulkAll [d0, d1] ≤ 1048576 := of_decide_eq_true hk
  simp only [Rows.uptoBulkAll] at h; omega
set_option maxRecDepth 100000 in
theorem condWell_lifted (os : Os) (started : os.Started) (H : Type) (enc : TypeId × Value → H) (F : Stop.Interp) :
    ReturnsInHanded {} Tryz.checked os 5 .any ((Rows.OpenSpec.upto Rows.condWellSpec).pre6 enc Tryz.prog Tryz.f5 Rows.condWellUptoRow.domain false) (((Rows.OpenSpec.upto Rows.condWellSpec).at F).post enc Tryz.prog Tryz.f5 false true false false) := by
  refine returnsInHanded_of_cond (C := Tryz.checked) (s := Rows.OpenSpec.upto Rows.condWellSpec) (k := Rows.uptoSmall) rfl Tryz.own started (by kernel_rfl) Tryz.func5
    (OpenSpec.witness (enc := enc) (C := Tryz.checked) (s := Rows.OpenSpec.upto Rows.condWellSpec) (k := Rows.uptoSmall) rfl false ⟨#[], #[.agg #[.slice none 0 0, .slice none 0 0], .slice none 0 0], []⟩ 8 (by kernel_rfl) (by kernel_rfl) (by kernel_rfl)
      (x := ([.agg [.nil, .nil], .nil], [], [])) (by kernel_rfl) rfl (by kernel_rfl)) ?_
  intro W base args ds gs before hval0 hW _ hk _
  have hval : ∀ (j : Nat) t v, Tryz.f5.params[j]? = some t → args[j]? = some v → Value.okWide Tryz.prog W .any base t v := hval0
  have hW' := hW
  obtain ⟨p, q, hA0, hV, rfl, hfz, hnd⟩ := hW'
  have hA : DataW.TrodAll enc Tryz.prog W 0 (fun _ => true) true Tryz.f5.params.toList args.toList ds p := hA0
  rw [Tryz.params5] at hA hval
  obtain ⟨v0, v1, d0, d1, p0, p1, rfl, rfl, rfl, h0, h1⟩ := trodAll_two hA
  obtain ⟨rfl, rfl⟩ := trodVars_none hV
  simp only [List.append_nil] at hW hk
  have hlt : ∀ x ∈ p0 ++ p1, x.block < W.heap.size := fun x hx => by simpa using hW.lt x hx
  obtain ⟨c0, rfl, hc0⟩ := okWide_struct Tryz.underlying25 (hval 0 25 v0 rfl rfl)
  obtain ⟨a1, len1, cap1, rfl⟩ := okWide_slice Tryz.underlying26 (hval 1 26 v1 rfl rfl)
  obtain ⟨n0, f0⟩ := h0
  obtain ⟨n1, f1⟩ := h1
  obtain ⟨d, r0, w0, b0⟩ := Rd_aDoc n0 _ _ f0
  obtain ⟨l, r1, w1, b1⟩ := Rd_strs n1 _ _ f1
  have hb := bulk2 hk
  simp only [] at w0 w1
  have hll := wl_len (w := wStr) wStr_pos l
  have hr : RepL (U0 W) W [cDoc d, .sl (l.map strAV)] [.agg c0, .slice a1 len1 cap1] := by
    simp only [RepL] at r1 ⊢
    obtain ⟨u, u', e1, r1, rfl⟩ := r1
    simp only [Value.cells, List.cons.injEq, and_true] at e1
    subst e1
    exact ⟨_, _, rfl, by simp only [cDoc, Rep]; exact ⟨c0, rfl, r0, b0⟩, _, _, rfl, r1, rfl⟩
  have hcall := cwlM_to d l (by omega) (by omega)
  rw [cwlM_true] at hcall
  refine (law_calls hcall hr).mono fun e W' ⟨he, hb'⟩ => ?_
  subst he
  refine ⟨_, rfl, _, _, _, [], p0 ++ p1, [], hW, ?_, ?_, rfl, hb'.frame _, fun h => by cases h⟩
  · exact trodAll_mk1 (shut_bool Tryz.underlying4 true)
  · exact trodAll_mk2 (Below.trod Tryz.laidOut (by kernel_rfl) (of_decide_eq_true (by kernel_rfl)) ⟨n0, f0⟩ hb' (fun x hx => hlt x (by simp [hx]))) (Below.trod Tryz.laidOut (by kernel_rfl) (of_decide_eq_true (by kernel_rfl)) ⟨n1, f1⟩ hb' (fun x hx => hlt x (by simp [hx])))
theorem condWell_holds : Rows.CondWellUptoSaid :=
  OpenClaim.holds_of_cond 5 Tryz.f5 rfl rfl rfl rfl rfl rfl rfl ⟨rfl, rfl, rfl, rfl, rfl⟩ rfl rfl rfl rfl rfl (by kernel_rfl) Tryz.func5 (by kernel_rfl)
    (of_decide_eq_true (by kernel_rfl)) (by unfold Func.isWrapper; first | (rw [if_pos (by decide +kernel)]; kernel_rfl) | (rw [if_neg (by decide +kernel)]; exact ⟨rfl, rfl⟩))
    (fun os started H enc _ F => condWell_lifted os started H enc F)
#print axioms condWell_holds
end Go.Proofs.YtdaglbjgdakmcaaGreat
