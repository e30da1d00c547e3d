/- Texts joined by a program (merge.py). -/
import Derived.Test.YtdaglbjgdakmcaaGreatKwc
import Derived.KernelRfl
set_option linter.unusedSimpArgs false
set_option linter.unusedVariables false
namespace Go.Proofs.YtdaglbjgdakmcaaGreat
open Go Go.Eng
def vluQ (s : ByteArray) (r : ByteArray × Int × Bool) : Prop := 0 ≤ r.2.1 ∧ r.2.1 ≤ s.size + 1 ∧ r.1.size ≤ s.size
theorem vluQ_err (s : ByteArray) : vluQ s (⟨#[]⟩, 0, false) := ⟨Int.le_refl 0, (show (0 : Int) ≤ s.size + 1 by omega), Nat.zero_le _⟩
theorem vluR_L0_bd (s : ByteArray) (i : Int) : ∀ (n : Nat) (v : Int) (o : ByteArray), 0 ≤ v → v ≤ s.size → (o.size : Int) ≤ v → s.size - v.toNat < n → vluQ s (vluR_L0 s i n v o)
  | 0, v, o, h0, h1, h2, h => by omega
  | n + 1, v, o, h0, h1, h2, h => by
    have e1 : ∀ x : Int, 0 ≤ x → x < s.size → (s.extract x.toNat (x + 1).toNat).size = 1 := fun x q r => by rw [size_ext]; omega
    rw [vluR_L0]
    refine condP _ (fun k1 => ?_) (fun k1 => condP _ (fun _ => vluQ_err s) (fun k2 => ?_))
    · have k2 := of_decide_eq_true (cond_ff k1).1
      refine condP _ (fun _ => condP _ (fun _ => vluQ_err s) (fun k3 => ?_)) (fun _ => ?_)
      · have k4 := of_decide_eq_false (cond_tt k3).1
        exact vluR_L0_bd s i n _ _ (by omega) (by omega) (by rw [ByteArray.size_append, e1 _ (by omega) (by omega)]; omega) (by omega)
      · exact vluR_L0_bd s i n _ _ (by omega) (by omega) (by rw [ByteArray.size_append, e1 _ (by omega) (by omega)]; omega) (by omega)
    · have k4 := of_decide_eq_false (cond_tt k2).1
      exact ⟨(show (0 : Int) ≤ v + 1 by omega), (show v + 1 ≤ s.size + 1 by omega), (show o.size ≤ s.size by omega)⟩
theorem vluR_bd (s : ByteArray) (i : Int) (h0 : 0 ≤ i) (h1 : i ≤ s.size + 1) : 0 ≤ (vluR s i).2.1 ∧ (vluR s i).2.1 ≤ s.size + 1 ∧ (vluR s i).1.size ≤ s.size := by
  have hw := wordI_bd s i h0
  have e1 : (s.extract i.toNat (wordI s i).toNat).size ≤ s.size := by rw [size_ext]; omega
  show vluQ s (vluR s i)
  unfold vluR
  refine condP _ (fun _ => condP _ (fun _ => vluQ_err s) (fun k => ?_)) (fun k => ?_)
  · exact ⟨(show (0 : Int) ≤ wordI s i by omega), (show wordI s i ≤ s.size + 1 by omega), e1⟩
  · have k2 := of_decide_eq_false (cond_tt k).1
    exact vluR_L0_bd s i _ (i + 1) _ (by omega) (by omega) (show ((0 : Nat) : Int) ≤ i + 1 by omega) (by omega)
def itemA (a : DAttr) (s : ByteArray) (i : Int) : (DAttr × Int × Int) := cond ((!nameB (ByteArray.extract (s) (Int.toNat (cond (cond (((((byt (s) (Int.toNat (i)) : Nat) : Int) : Int) == 35)) (true) (((((byt (s) (Int.toNat (i)) : Nat) : Int) : Int) == 46))) (i + 1) (i))) (Int.toNat (wordI s (cond (cond (((((byt (s) (Int.toNat (i)) : Nat) : Int) : Int) == 35)) (true) (((((byt (s) (Int.toNat (i)) : Nat) : Int) : Int) == 46))) (i + 1) (i))))))) ((a, 0, 5)) (cond (((((byt (s) (Int.toNat (i)) : Nat) : Int) : Int) == 35)) (cond ((!eqs (a.fID) (⟨#[]⟩))) ((a, 0, 7)) ((DAttr.mk (ByteArray.extract (s) (Int.toNat (cond (cond (((((byt (s) (Int.toNat (i)) : Nat) : Int) : Int) == 35)) (true) (((((byt (s) (Int.toNat (i)) : Nat) : Int) : Int) == 46))) (i + 1) (i))) (Int.toNat (wordI s (cond (cond (((((byt (s) (Int.toNat (i)) : Nat) : Int) : Int) == 35)) (true) (((((byt (s) (Int.toNat (i)) : Nat) : Int) : Int) == 46))) (i + 1) (i))))) a.fClasses a.fPairs, wordI s (cond (cond (((((byt (s) (Int.toNat (i)) : Nat) : Int) : Int) == 35)) (true) (((((byt (s) (Int.toNat (i)) : Nat) : Int) : Int) == 46))) (i + 1) (i)), 0))) (cond (((((byt (s) (Int.toNat (i)) : Nat) : Int) : Int) == 46)) (((clsA a (ByteArray.extract (s) (Int.toNat (cond (cond (((((byt (s) (Int.toNat (i)) : Nat) : Int) : Int) == 35)) (true) (((((byt (s) (Int.toNat (i)) : Nat) : Int) : Int) == 46))) (i + 1) (i))) (Int.toNat (wordI s (cond (cond (((((byt (s) (Int.toNat (i)) : Nat) : Int) : Int) == 35)) (true) (((((byt (s) (Int.toNat (i)) : Nat) : Int) : Int) == 46))) (i + 1) (i)))))).1, wordI s (cond (cond (((((byt (s) (Int.toNat (i)) : Nat) : Int) : Int) == 35)) (true) (((((byt (s) (Int.toNat (i)) : Nat) : Int) : Int) == 46))) (i + 1) (i)), (clsA a (ByteArray.extract (s) (Int.toNat (cond (cond (((((byt (s) (Int.toNat (i)) : Nat) : Int) : Int) == 35)) (true) (((((byt (s) (Int.toNat (i)) : Nat) : Int) : Int) == 46))) (i + 1) (i))) (Int.toNat (wordI s (cond (cond (((((byt (s) (Int.toNat (i)) : Nat) : Int) : Int) == 35)) (true) (((((byt (s) (Int.toNat (i)) : Nat) : Int) : Int) == 46))) (i + 1) (i)))))).2)) (cond (cond (decide ((wordI s (cond (cond (((((byt (s) (Int.toNat (i)) : Nat) : Int) : Int) == 35)) (true) (((((byt (s) (Int.toNat (i)) : Nat) : Int) : Int) == 46))) (i + 1) (i)) : Int) ≥ ((ByteArray.size (s) : Nat) : Int))) (true) (((((byt (s) (Int.toNat (wordI s (cond (cond (((((byt (s) (Int.toNat (i)) : Nat) : Int) : Int) == 35)) (true) (((((byt (s) (Int.toNat (i)) : Nat) : Int) : Int) == 46))) (i + 1) (i)))) : Nat) : Int) : Int) != 61))) ((a, 0, 5)) (cond ((!(vluR s ((wordI s (cond (cond (((((byt (s) (Int.toNat (i)) : Nat) : Int) : Int) == 35)) (true) (((((byt (s) (Int.toNat (i)) : Nat) : Int) : Int) == 46))) (i + 1) (i))) + 1)).2.2)) ((a, 0, 5)) (cond (hasK a.fPairs (ByteArray.extract (s) (Int.toNat (cond (cond (((((byt (s) (Int.toNat (i)) : Nat) : Int) : Int) == 35)) (true) (((((byt (s) (Int.toNat (i)) : Nat) : Int) : Int) == 46))) (i + 1) (i))) (Int.toNat (wordI s (cond (cond (((((byt (s) (Int.toNat (i)) : Nat) : Int) : Int) == 35)) (true) (((((byt (s) (Int.toNat (i)) : Nat) : Int) : Int) == 46))) (i + 1) (i)))))) ((a, 0, 7)) (cond (decide ((((List.length a.fPairs : Nat) : Int) : Int) ≥ 32)) ((a, 0, 3)) ((DAttr.mk a.fID a.fClasses (a.fPairs ++ ([DPair.mk (ByteArray.extract (s) (Int.toNat (cond (cond (((((byt (s) (Int.toNat (i)) : Nat) : Int) : Int) == 35)) (true) (((((byt (s) (Int.toNat (i)) : Nat) : Int) : Int) == 46))) (i + 1) (i))) (Int.toNat (wordI s (cond (cond (((((byt (s) (Int.toNat (i)) : Nat) : Int) : Int) == 35)) (true) (((((byt (s) (Int.toNat (i)) : Nat) : Int) : Int) == 46))) (i + 1) (i))))) ((vluR s ((wordI s (cond (cond (((((byt (s) (Int.toNat (i)) : Nat) : Int) : Int) == 35)) (true) (((((byt (s) (Int.toNat (i)) : Nat) : Int) : Int) == 46))) (i + 1) (i))) + 1)).1)])), (vluR s ((wordI s (cond (cond (((((byt (s) (Int.toNat (i)) : Nat) : Int) : Int) == 35)) (true) (((((byt (s) (Int.toNat (i)) : Nat) : Int) : Int) == 46))) (i + 1) (i))) + 1)).2.1, 0))))))))
set_option maxRecDepth 100000 in
set_option maxHeartbeats 4000000 in
theorem itemA_to (a : DAttr) (s : ByteArray) (i : Int) (g1 : Nat) (g2 : Nat) (hs : s.size ≤ 1073741824) (h0 : 0 ≤ i) (h1 : i < s.size) (ha : a.fClasses.length ≤ 32) (hp : a.fPairs.length ≤ 32) : CallTo Tryz.prog 121 [(.ag [(.av (vS (a.fID))), (.own (1001, 10) (g1) 1 (a.fClasses.map strAV)), (.own (1002, 44) (g2) 2 (a.fPairs.map aPair))]), (jS (s)), (jI (i))] [] [((1001, 10), g1), ((1002, 44), g2)] (.tp [(.a [(.av (vS (((itemA a s i).1).fID))), (.own (1001, 10) (g1 + 1) 1 ((((itemA a s i).1).fClasses).map strAV)), (.own (1002, 44) (g2 + 1) 2 ((((itemA a s i).1).fPairs).map aPair))]), (.c (.av (vI ((itemA a s i).2.1)))), (.c (.av (vI ((itemA a s i).2.2))))]) [] [((1001, 10), g1 + 1), ((1002, 44), g2 + 1)] := by
  refine CallTo_of_body (n := 111) Tryz.func121 rfl (by kernel_rfl) Tryz.ntmps121 (by simp) (by simp) (by simp) (by simp [OkSV, OkCV, OkXV, SV.keys, ABox.svs, PV.keys, List.lookup] <;> rfl) (by simp) (by simp [OkSV, OkCV, OkXV, SV.keys, ABox.svs, PV.keys, List.lookup] <;> rfl) (by simp) rfl rfl ?_
  refine W_eq (sx 111 [(0, (.ag [(.av (vS (a.fID))), (.own (1001, 10) (g1) 1 (a.fClasses.map strAV)), (.own (1002, 44) (g2) 2 (a.fPairs.map aPair))])), (1, (jS (s))), (2, (jI (i)))] [] [((1001, 10), g1), ((1002, 44), g2)]) (by kernel_rfl) ?_
  refine W_gend ?_
  refine W_seq ?_
  refine W_runX [] .normal 111 [(1, (jS (s))), (2, (jI (i))), (3, (.ptr 3 0)), (6, (.ptr 6 0))] [(6, (.cells 38 [(jS (⟨#[]⟩)), .nil, .nil])), (3, (.cells 38 [(jS (a.fID)), (.own (1001, 10) (g1) 1 (a.fClasses.map strAV)), (.own (1002, 44) (g2) 2 (a.fPairs.map aPair))]))] [((1001, 10), g1), ((1002, 44), g2)] (akn 4 an) (by kernel_rfl) ?_
  show W _ _ _ _
  refine W_seq ?_
  refine W_runX [] .normal 111 [(1, (jS (s))), (2, (jI (i))), (3, (.ptr 3 0)), (6, (.ptr 6 0)), (9, (jI (i)))] [(6, (.cells 38 [(jS (⟨#[]⟩)), .nil, .nil])), (3, (.cells 38 [(jS (a.fID)), (.own (1001, 10) (g1) 1 (a.fClasses.map strAV)), (.own (1002, 44) (g2) 2 (a.fPairs.map aPair))]))] [((1001, 10), g1), ((1002, 44), g2)] (akn 2 an) (by kernel_rfl) ?_
  show W _ _ _ _
  refine W_mid (S' := (sx 111 [(1, (jS (s))), (2, (jI (i))), (3, (.ptr 3 0)), (6, (.ptr 6 0)), (9, (jI (cond (cond (((((byt (s) (Int.toNat (i)) : Nat) : Int) : Int) == 35)) (true) (((((byt (s) (Int.toNat (i)) : Nat) : Int) : Int) == 46))) (i + 1) (i))))] [(6, (.cells 38 [(jS (⟨#[]⟩)), .nil, .nil])), (3, (.cells 38 [(jS (a.fID)), (.own (1001, 10) (g1) 1 (a.fClasses.map strAV)), (.own (1002, 44) (g2) 2 (a.fPairs.map aPair))]))] [((1001, 10), g1), ((1002, 44), g2)])) ?_ ?_
  · refine W_mid (S' := (sx 111 [(1, (jS (s))), (2, (jI (i))), (3, (.ptr 3 0)), (6, (.ptr 6 0)), (9, (jI (i))), (27, (jB (cond (((((byt (s) (Int.toNat (i)) : Nat) : Int) : Int) == 35)) (true) (((((byt (s) (Int.toNat (i)) : Nat) : Int) : Int) == 46)))))] [(6, (.cells 38 [(jS (⟨#[]⟩)), .nil, .nil])), (3, (.cells 38 [(jS (a.fID)), (.own (1001, 10) (g1) 1 (a.fClasses.map strAV)), (.own (1002, 44) (g2) 2 (a.fPairs.map aPair))]))] [((1001, 10), g1), ((1002, 44), g2)])) ?_ ?_
    · rcases Bool.eq_false_or_eq_true (((((byt (s) (Int.toNat (i)) : Nat) : Int) : Int) == 35)) with hb1 | hb1
      · have hb1p := eq_of_beq hb1
        refine W_runX (rp 5 oT []) .normal 111 [(1, (jS (s))), (2, (jI (i))), (3, (.ptr 3 0)), (6, (.ptr 6 0)), (9, (jI (i))), (27, (jB (true)))] [(6, (.cells 38 [(jS (⟨#[]⟩)), .nil, .nil])), (3, (.cells 38 [(jS (a.fID)), (.own (1001, 10) (g1) 1 (a.fClasses.map strAV)), (.own (1002, 44) (g2) 2 (a.fPairs.map aPair))]))] [((1001, 10), g1), ((1002, 44), g2)] (akn 2 (ac (show 0 ≤ (i : Int) ∧ (i : Int) < ((ByteArray.size (s) : Nat) : Int) from (by first | omega | (simp only [lenM_eq, true_and]; omega))) (akn 2 (acn 5 hb1 an)))) (by kernel_rfl) ?_
        exact ⟨rfl, (weak_sx (show WkX _ _ _ from ⟨rfl, rfl, rfl, rfl, rfl, (show ((jB (true)) : SV) = (jB (cond (((((byt (s) (Int.toNat (i)) : Nat) : Int) : Int) == 35)) (true) (((((byt (s) (Int.toNat (i)) : Nat) : Int) : Int) == 46)))) from by rw [hb1, cond_true]), trivial⟩) (show WkBx _ _ from ⟨⟨rfl, ⟨rfl, rfl, rfl, trivial⟩⟩, ⟨rfl, ⟨rfl, ⟨rfl, rfl, rfl, rfl⟩, ⟨rfl, rfl, rfl, rfl⟩, trivial⟩⟩, trivial⟩) (show WkG _ _ _ from ⟨rfl, rfl, rfl, rfl, trivial⟩))⟩
      · have hb1p := ne_of_beq_false hb1
        refine W_runX (rp 5 oF []) .normal 111 [(1, (jS (s))), (2, (jI (i))), (3, (.ptr 3 0)), (6, (.ptr 6 0)), (9, (jI (i))), (27, (jB (((((byt (s) (Int.toNat (i)) : Nat) : Int) : Int) == 46))))] [(6, (.cells 38 [(jS (⟨#[]⟩)), .nil, .nil])), (3, (.cells 38 [(jS (a.fID)), (.own (1001, 10) (g1) 1 (a.fClasses.map strAV)), (.own (1002, 44) (g2) 2 (a.fPairs.map aPair))]))] [((1001, 10), g1), ((1002, 44), g2)] (akn 2 (ac (show 0 ≤ (i : Int) ∧ (i : Int) < ((ByteArray.size (s) : Nat) : Int) from (by first | omega | (simp only [lenM_eq, true_and]; omega))) (akn 2 (apn 2 hb1 (ac hb1 (ac (show 0 ≤ (i : Int) ∧ (i : Int) < ((ByteArray.size (s) : Nat) : Int) from (by first | omega | (simp only [lenM_eq, true_and]; omega))) (ac hb1 (ak (ac hb1 an))))))))) (by kernel_rfl) ?_
        exact ⟨rfl, (weak_sx (show WkX _ _ _ from ⟨rfl, rfl, rfl, rfl, rfl, (show ((jB (((((byt (s) (Int.toNat (i)) : Nat) : Int) : Int) == 46))) : SV) = (jB (cond (((((byt (s) (Int.toNat (i)) : Nat) : Int) : Int) == 35)) (true) (((((byt (s) (Int.toNat (i)) : Nat) : Int) : Int) == 46)))) from by rw [hb1, cond_false]), trivial⟩) (show WkBx _ _ from ⟨⟨rfl, ⟨rfl, rfl, rfl, trivial⟩⟩, ⟨rfl, ⟨rfl, ⟨rfl, rfl, rfl, rfl⟩, ⟨rfl, rfl, rfl, rfl⟩, trivial⟩⟩, trivial⟩) (show WkG _ _ _ from ⟨rfl, rfl, rfl, rfl, trivial⟩))⟩
    rcases Bool.eq_false_or_eq_true (cond (((((byt (s) (Int.toNat (i)) : Nat) : Int) : Int) == 35)) (true) (((((byt (s) (Int.toNat (i)) : Nat) : Int) : Int) == 46))) with hb2 | hb2
    · refine W_condT (b := cond (((((byt (s) (Int.toNat (i)) : Nat) : Int) : Int) == 35)) (true) (((((byt (s) (Int.toNat (i)) : Nat) : Int) : Int) == 46))) (by kernel_rfl) hb2 ?_
      refine W_runX [.n (i + 1)] .normal 111 [(1, (jS (s))), (2, (jI (i))), (3, (.ptr 3 0)), (6, (.ptr 6 0)), (9, (jI (i + 1)))] [(6, (.cells 38 [(jS (⟨#[]⟩)), .nil, .nil])), (3, (.cells 38 [(jS (a.fID)), (.own (1001, 10) (g1) 1 (a.fClasses.map strAV)), (.own (1002, 44) (g2) 2 (a.fPairs.map aPair))]))] [((1001, 10), g1), ((1002, 44), g2)] (ak (ac (wrE ((i) + 1) (i + 1) (by first | omega | (simp only [lenM_eq, true_and]; omega))) (ak an))) (by kernel_rfl) ?_
      exact ⟨rfl, (weak_sx (show WkX _ _ _ from ⟨rfl, rfl, rfl, rfl, (show ((jI (i + 1)) : SV) = (jI (cond (cond (((((byt (s) (Int.toNat (i)) : Nat) : Int) : Int) == 35)) (true) (((((byt (s) (Int.toNat (i)) : Nat) : Int) : Int) == 46))) (i + 1) (i))) from by rw [hb2, cond_true]), trivial⟩) (show WkBx _ _ from ⟨⟨rfl, ⟨rfl, rfl, rfl, trivial⟩⟩, ⟨rfl, ⟨rfl, ⟨rfl, rfl, rfl, rfl⟩, ⟨rfl, rfl, rfl, rfl⟩, trivial⟩⟩, trivial⟩) (show WkG _ _ _ from ⟨rfl, rfl, rfl, rfl, trivial⟩))⟩
    · refine W_condF (b := cond (((((byt (s) (Int.toNat (i)) : Nat) : Int) : Int) == 35)) (true) (((((byt (s) (Int.toNat (i)) : Nat) : Int) : Int) == 46))) (by kernel_rfl) hb2 ?_
      obtain ⟨hb2a, hb2o⟩ := cond_tt hb2
      have hb2ap := ne_of_beq_false hb2a
      have hb2op := ne_of_beq_false hb2o
      refine W_runX [] .normal 111 [(1, (jS (s))), (2, (jI (i))), (3, (.ptr 3 0)), (6, (.ptr 6 0)), (9, (jI (i)))] [(6, (.cells 38 [(jS (⟨#[]⟩)), .nil, .nil])), (3, (.cells 38 [(jS (a.fID)), (.own (1001, 10) (g1) 1 (a.fClasses.map strAV)), (.own (1002, 44) (g2) 2 (a.fPairs.map aPair))]))] [((1001, 10), g1), ((1002, 44), g2)] an (by kernel_rfl) ?_
      exact ⟨rfl, (weak_sx (show WkX _ _ _ from ⟨rfl, rfl, rfl, rfl, (show ((jI (i)) : SV) = (jI (cond (cond (((((byt (s) (Int.toNat (i)) : Nat) : Int) : Int) == 35)) (true) (((((byt (s) (Int.toNat (i)) : Nat) : Int) : Int) == 46))) (i + 1) (i))) from by rw [hb2, cond_false]), trivial⟩) (show WkBx _ _ from ⟨⟨rfl, ⟨rfl, rfl, rfl, trivial⟩⟩, ⟨rfl, ⟨rfl, ⟨rfl, rfl, rfl, rfl⟩, ⟨rfl, rfl, rfl, rfl⟩, trivial⟩⟩, trivial⟩) (show WkG _ _ _ from ⟨rfl, rfl, rfl, rfl, trivial⟩))⟩
  have := cond_or (cond (((((byt (s) (Int.toNat (i)) : Nat) : Int) : Int) == 35)) (true) (((((byt (s) (Int.toNat (i)) : Nat) : Int) : Int) == 46))) (i + 1) (i)
  refine W_seq ?_
  have := wordI_bd s (cond (cond (((((byt (s) (Int.toNat (i)) : Nat) : Int) : Int) == 35)) (true) (((((byt (s) (Int.toNat (i)) : Nat) : Int) : Int) == 46))) (i + 1) (i)) (by omega)
  refine W_runX [.c (jI (wordI s (cond (cond (((((byt (s) (Int.toNat (i)) : Nat) : Int) : Int) == 35)) (true) (((((byt (s) (Int.toNat (i)) : Nat) : Int) : Int) == 46))) (i + 1) (i)))) [] [] []] .normal 111 [(1, (jS (s))), (2, (jI (i))), (3, (.ptr 3 0)), (6, (.ptr 6 0)), (9, (jI (cond (cond (((((byt (s) (Int.toNat (i)) : Nat) : Int) : Int) == 35)) (true) (((((byt (s) (Int.toNat (i)) : Nat) : Int) : Int) == 46))) (i + 1) (i)))), (10, (jI (wordI s (cond (cond (((((byt (s) (Int.toNat (i)) : Nat) : Int) : Int) == 35)) (true) (((((byt (s) (Int.toNat (i)) : Nat) : Int) : Int) == 46))) (i + 1) (i)))))] [(6, (.cells 38 [(jS (⟨#[]⟩)), .nil, .nil])), (3, (.cells 38 [(jS (a.fID)), (.own (1001, 10) (g1) 1 (a.fClasses.map strAV)), (.own (1002, 44) (g2) 2 (a.fPairs.map aPair))]))] [((1001, 10), g1), ((1002, 44), g2)] (akn 2 (ac (wordI_to s (cond (cond (((((byt (s) (Int.toNat (i)) : Nat) : Int) : Int) == 35)) (true) (((((byt (s) (Int.toNat (i)) : Nat) : Int) : Int) == 46))) (i + 1) (i)) (by first | assumption | omega | decide | (simp; done) | (simp; omega)) (by first | assumption | omega | decide | (simp; done) | (simp; omega)) (by first | assumption | omega | decide | (simp; done) | (simp; omega))) (akn 2 an))) (by kernel_rfl) ?_
  show W _ _ _ _
  refine W_seq ?_
  refine W_seq ?_
  have := size_ext (s) (Int.toNat (cond (cond (((((byt (s) (Int.toNat (i)) : Nat) : Int) : Int) == 35)) (true) (((((byt (s) (Int.toNat (i)) : Nat) : Int) : Int) == 46))) (i + 1) (i))) (Int.toNat (wordI s (cond (cond (((((byt (s) (Int.toNat (i)) : Nat) : Int) : Int) == 35)) (true) (((((byt (s) (Int.toNat (i)) : Nat) : Int) : Int) == 46))) (i + 1) (i))))
  refine W_runX [.c (jB (nameB (ByteArray.extract (s) (Int.toNat (cond (cond (((((byt (s) (Int.toNat (i)) : Nat) : Int) : Int) == 35)) (true) (((((byt (s) (Int.toNat (i)) : Nat) : Int) : Int) == 46))) (i + 1) (i))) (Int.toNat (wordI s (cond (cond (((((byt (s) (Int.toNat (i)) : Nat) : Int) : Int) == 35)) (true) (((((byt (s) (Int.toNat (i)) : Nat) : Int) : Int) == 46))) (i + 1) (i))))))) [] [] []] .normal 111 [(1, (jS (s))), (2, (jI (i))), (3, (.ptr 3 0)), (6, (.ptr 6 0)), (9, (jI (cond (cond (((((byt (s) (Int.toNat (i)) : Nat) : Int) : Int) == 35)) (true) (((((byt (s) (Int.toNat (i)) : Nat) : Int) : Int) == 46))) (i + 1) (i)))), (10, (jI (wordI s (cond (cond (((((byt (s) (Int.toNat (i)) : Nat) : Int) : Int) == 35)) (true) (((((byt (s) (Int.toNat (i)) : Nat) : Int) : Int) == 46))) (i + 1) (i))))), (38, (jB ((!nameB (ByteArray.extract (s) (Int.toNat (cond (cond (((((byt (s) (Int.toNat (i)) : Nat) : Int) : Int) == 35)) (true) (((((byt (s) (Int.toNat (i)) : Nat) : Int) : Int) == 46))) (i + 1) (i))) (Int.toNat (wordI s (cond (cond (((((byt (s) (Int.toNat (i)) : Nat) : Int) : Int) == 35)) (true) (((((byt (s) (Int.toNat (i)) : Nat) : Int) : Int) == 46))) (i + 1) (i)))))))))] [(6, (.cells 38 [(jS (⟨#[]⟩)), .nil, .nil])), (3, (.cells 38 [(jS (a.fID)), (.own (1001, 10) (g1) 1 (a.fClasses.map strAV)), (.own (1002, 44) (g2) 2 (a.fPairs.map aPair))]))] [((1001, 10), g1), ((1002, 44), g2)] (akn 3 (ac (show 0 ≤ (cond (cond (((((byt (s) (Int.toNat (i)) : Nat) : Int) : Int) == 35)) (true) (((((byt (s) (Int.toNat (i)) : Nat) : Int) : Int) == 46))) (i + 1) (i) : Int) ∧ (cond (cond (((((byt (s) (Int.toNat (i)) : Nat) : Int) : Int) == 35)) (true) (((((byt (s) (Int.toNat (i)) : Nat) : Int) : Int) == 46))) (i + 1) (i) : Int) ≤ wordI s (cond (cond (((((byt (s) (Int.toNat (i)) : Nat) : Int) : Int) == 35)) (true) (((((byt (s) (Int.toNat (i)) : Nat) : Int) : Int) == 46))) (i + 1) (i)) ∧ wordI s (cond (cond (((((byt (s) (Int.toNat (i)) : Nat) : Int) : Int) == 35)) (true) (((((byt (s) (Int.toNat (i)) : Nat) : Int) : Int) == 46))) (i + 1) (i)) ≤ ((ByteArray.size (s) : Nat) : Int) from (by first | omega | (simp only [lenM_eq, true_and]; omega))) (ac (rName_to (ByteArray.extract (s) (Int.toNat (cond (cond (((((byt (s) (Int.toNat (i)) : Nat) : Int) : Int) == 35)) (true) (((((byt (s) (Int.toNat (i)) : Nat) : Int) : Int) == 46))) (i + 1) (i))) (Int.toNat (wordI s (cond (cond (((((byt (s) (Int.toNat (i)) : Nat) : Int) : Int) == 35)) (true) (((((byt (s) (Int.toNat (i)) : Nat) : Int) : Int) == 46))) (i + 1) (i))))) (by unfold maxLen; omega)) (akn 2 an)))) (by kernel_rfl) ?_
  show W _ _ _ _
  rcases Bool.eq_false_or_eq_true ((!nameB (ByteArray.extract (s) (Int.toNat (cond (cond (((((byt (s) (Int.toNat (i)) : Nat) : Int) : Int) == 35)) (true) (((((byt (s) (Int.toNat (i)) : Nat) : Int) : Int) == 46))) (i + 1) (i))) (Int.toNat (wordI s (cond (cond (((((byt (s) (Int.toNat (i)) : Nat) : Int) : Int) == 35)) (true) (((((byt (s) (Int.toNat (i)) : Nat) : Int) : Int) == 46))) (i + 1) (i))))))) with hb3 | hb3
  · refine W_condT (b := (!nameB (ByteArray.extract (s) (Int.toNat (cond (cond (((((byt (s) (Int.toNat (i)) : Nat) : Int) : Int) == 35)) (true) (((((byt (s) (Int.toNat (i)) : Nat) : Int) : Int) == 46))) (i + 1) (i))) (Int.toNat (wordI s (cond (cond (((((byt (s) (Int.toNat (i)) : Nat) : Int) : Int) == 35)) (true) (((((byt (s) (Int.toNat (i)) : Nat) : Int) : Int) == 46))) (i + 1) (i))))))) (by kernel_rfl) hb3 ?_
    have hb3n := nott hb3
    refine W_runX [] .ret 111 [(6, (.ptr 6 0)), (7, (jI (0))), (8, (jI (5)))] [(6, (.cells 38 [(jS (a.fID)), (.own (1001, 10) (g1) 1 (a.fClasses.map strAV)), (.own (1002, 44) (g2) 2 (a.fPairs.map aPair))]))] [((1001, 10), g1), ((1002, 44), g2)] (akn 4 an) (by kernel_rfl) ?_
    refine skipS ?_ (by simp)
    refine ⟨_, (Ghost.trans ((Ghost.trans (Ghost.refl _) (ghost_bump (1001, 10)))) (ghost_bump (1002, 44))), ?_⟩
    exact endsK (r := (.tp [(.a [(.av (vS (a.fID))), (.own (1001, 10) (g1 + 1) 1 (a.fClasses.map strAV)), (.own (1002, 44) (g2 + 1) 2 (a.fPairs.map aPair))]), (.c (.av (vI (0)))), (.c (.av (vI (5))))])) (by simp) (by kernel_rfl) (by rw [show itemA a s i = (a, 0, 5) from by rw [itemA]; exact (cT hb3)]; first | done | first | rfl | (simp [strAV, vU, aPair_eq, aAttr_eq, aCited_eq, aInline_eq, aBlock_eq, aDoc_eq, aPoint_eq, aRange_eq, cPair, cAttr, cCited, cInline, cBlock, cDoc, cPoint, cRange]; done)) (by simp) (by intro p hp; simp only [List.mem_cons, List.not_mem_nil, or_false] at hp; rcases hp with rfl | rfl <;> rfl)
  · refine W_condF (b := (!nameB (ByteArray.extract (s) (Int.toNat (cond (cond (((((byt (s) (Int.toNat (i)) : Nat) : Int) : Int) == 35)) (true) (((((byt (s) (Int.toNat (i)) : Nat) : Int) : Int) == 46))) (i + 1) (i))) (Int.toNat (wordI s (cond (cond (((((byt (s) (Int.toNat (i)) : Nat) : Int) : Int) == 35)) (true) (((((byt (s) (Int.toNat (i)) : Nat) : Int) : Int) == 46))) (i + 1) (i))))))) (by kernel_rfl) hb3 ?_
    have hb3n := notf hb3
    refine W_runX [] .normal 111 [(1, (jS (s))), (2, (jI (i))), (3, (.ptr 3 0)), (6, (.ptr 6 0)), (9, (jI (cond (cond (((((byt (s) (Int.toNat (i)) : Nat) : Int) : Int) == 35)) (true) (((((byt (s) (Int.toNat (i)) : Nat) : Int) : Int) == 46))) (i + 1) (i)))), (10, (jI (wordI s (cond (cond (((((byt (s) (Int.toNat (i)) : Nat) : Int) : Int) == 35)) (true) (((((byt (s) (Int.toNat (i)) : Nat) : Int) : Int) == 46))) (i + 1) (i)))))] [(6, (.cells 38 [(jS (⟨#[]⟩)), .nil, .nil])), (3, (.cells 38 [(jS (a.fID)), (.own (1001, 10) (g1) 1 (a.fClasses.map strAV)), (.own (1002, 44) (g2) 2 (a.fPairs.map aPair))]))] [((1001, 10), g1), ((1002, 44), g2)] an (by kernel_rfl) ?_
    show W _ _ _ _
    refine W_seq ?_
    have := size_ext (s) (Int.toNat (cond (cond (((((byt (s) (Int.toNat (i)) : Nat) : Int) : Int) == 35)) (true) (((((byt (s) (Int.toNat (i)) : Nat) : Int) : Int) == 46))) (i + 1) (i))) (Int.toNat (wordI s (cond (cond (((((byt (s) (Int.toNat (i)) : Nat) : Int) : Int) == 35)) (true) (((((byt (s) (Int.toNat (i)) : Nat) : Int) : Int) == 46))) (i + 1) (i))))
    refine W_runX [] .normal 111 [(1, (jS (s))), (2, (jI (i))), (3, (.ptr 3 0)), (6, (.ptr 6 0)), (10, (jI (wordI s (cond (cond (((((byt (s) (Int.toNat (i)) : Nat) : Int) : Int) == 35)) (true) (((((byt (s) (Int.toNat (i)) : Nat) : Int) : Int) == 46))) (i + 1) (i))))), (11, (jS (ByteArray.extract (s) (Int.toNat (cond (cond (((((byt (s) (Int.toNat (i)) : Nat) : Int) : Int) == 35)) (true) (((((byt (s) (Int.toNat (i)) : Nat) : Int) : Int) == 46))) (i + 1) (i))) (Int.toNat (wordI s (cond (cond (((((byt (s) (Int.toNat (i)) : Nat) : Int) : Int) == 35)) (true) (((((byt (s) (Int.toNat (i)) : Nat) : Int) : Int) == 46))) (i + 1) (i)))))))] [(6, (.cells 38 [(jS (⟨#[]⟩)), .nil, .nil])), (3, (.cells 38 [(jS (a.fID)), (.own (1001, 10) (g1) 1 (a.fClasses.map strAV)), (.own (1002, 44) (g2) 2 (a.fPairs.map aPair))]))] [((1001, 10), g1), ((1002, 44), g2)] (akn 3 (ac (show 0 ≤ (cond (cond (((((byt (s) (Int.toNat (i)) : Nat) : Int) : Int) == 35)) (true) (((((byt (s) (Int.toNat (i)) : Nat) : Int) : Int) == 46))) (i + 1) (i) : Int) ∧ (cond (cond (((((byt (s) (Int.toNat (i)) : Nat) : Int) : Int) == 35)) (true) (((((byt (s) (Int.toNat (i)) : Nat) : Int) : Int) == 46))) (i + 1) (i) : Int) ≤ wordI s (cond (cond (((((byt (s) (Int.toNat (i)) : Nat) : Int) : Int) == 35)) (true) (((((byt (s) (Int.toNat (i)) : Nat) : Int) : Int) == 46))) (i + 1) (i)) ∧ wordI s (cond (cond (((((byt (s) (Int.toNat (i)) : Nat) : Int) : Int) == 35)) (true) (((((byt (s) (Int.toNat (i)) : Nat) : Int) : Int) == 46))) (i + 1) (i)) ≤ ((ByteArray.size (s) : Nat) : Int) from (by first | omega | (simp only [lenM_eq, true_and]; omega))) (ak an))) (by kernel_rfl) ?_
    show W _ _ _ _
    refine W_seq ?_
    refine W_seq ?_
    refine W_runX [] .normal 111 [(1, (jS (s))), (2, (jI (i))), (3, (.ptr 3 0)), (6, (.ptr 6 0)), (10, (jI (wordI s (cond (cond (((((byt (s) (Int.toNat (i)) : Nat) : Int) : Int) == 35)) (true) (((((byt (s) (Int.toNat (i)) : Nat) : Int) : Int) == 46))) (i + 1) (i))))), (11, (jS (ByteArray.extract (s) (Int.toNat (cond (cond (((((byt (s) (Int.toNat (i)) : Nat) : Int) : Int) == 35)) (true) (((((byt (s) (Int.toNat (i)) : Nat) : Int) : Int) == 46))) (i + 1) (i))) (Int.toNat (wordI s (cond (cond (((((byt (s) (Int.toNat (i)) : Nat) : Int) : Int) == 35)) (true) (((((byt (s) (Int.toNat (i)) : Nat) : Int) : Int) == 46))) (i + 1) (i))))))), (47, (jB (((((byt (s) (Int.toNat (i)) : Nat) : Int) : Int) == 35))))] [(6, (.cells 38 [(jS (⟨#[]⟩)), .nil, .nil])), (3, (.cells 38 [(jS (a.fID)), (.own (1001, 10) (g1) 1 (a.fClasses.map strAV)), (.own (1002, 44) (g2) 2 (a.fPairs.map aPair))]))] [((1001, 10), g1), ((1002, 44), g2)] (akn 2 (ac (show 0 ≤ (i : Int) ∧ (i : Int) < ((ByteArray.size (s) : Nat) : Int) from (by first | omega | (simp only [lenM_eq, true_and]; omega))) (ak an))) (by kernel_rfl) ?_
    show W _ _ _ _
    rcases Bool.eq_false_or_eq_true (((((byt (s) (Int.toNat (i)) : Nat) : Int) : Int) == 35)) with hb4 | hb4
    · refine W_condT (b := ((((byt (s) (Int.toNat (i)) : Nat) : Int) : Int) == 35)) (by kernel_rfl) hb4 ?_
      have hb4p := eq_of_beq hb4
      refine W_seq ?_
      refine W_seq ?_
      refine W_runX [] .normal 111 [(3, (.ptr 3 0)), (6, (.ptr 6 0)), (10, (jI (wordI s (cond (cond (((((byt (s) (Int.toNat (i)) : Nat) : Int) : Int) == 35)) (true) (((((byt (s) (Int.toNat (i)) : Nat) : Int) : Int) == 46))) (i + 1) (i))))), (11, (jS (ByteArray.extract (s) (Int.toNat (cond (cond (((((byt (s) (Int.toNat (i)) : Nat) : Int) : Int) == 35)) (true) (((((byt (s) (Int.toNat (i)) : Nat) : Int) : Int) == 46))) (i + 1) (i))) (Int.toNat (wordI s (cond (cond (((((byt (s) (Int.toNat (i)) : Nat) : Int) : Int) == 35)) (true) (((((byt (s) (Int.toNat (i)) : Nat) : Int) : Int) == 46))) (i + 1) (i))))))), (50, (jB ((!eqs (a.fID) (⟨#[]⟩)))))] [(6, (.cells 38 [(jS (⟨#[]⟩)), .nil, .nil])), (3, (.cells 38 [(jS (a.fID)), (.own (1001, 10) (g1) 1 (a.fClasses.map strAV)), (.own (1002, 44) (g2) 2 (a.fPairs.map aPair))]))] [((1001, 10), g1), ((1002, 44), g2)] (akn 3 an) (by kernel_rfl) ?_
      show W _ _ _ _
      rcases Bool.eq_false_or_eq_true ((!eqs (a.fID) (⟨#[]⟩))) with hb5 | hb5
      · refine W_condT (b := (!eqs (a.fID) (⟨#[]⟩))) (by kernel_rfl) hb5 ?_
        have hb5n := nott hb5
        have hb5z := size_neqs_t hb5
        refine W_runX [] .ret 111 [(6, (.ptr 6 0)), (7, (jI (0))), (8, (jI (7)))] [(6, (.cells 38 [(jS (a.fID)), (.own (1001, 10) (g1) 1 (a.fClasses.map strAV)), (.own (1002, 44) (g2) 2 (a.fPairs.map aPair))]))] [((1001, 10), g1), ((1002, 44), g2)] (akn 4 an) (by kernel_rfl) ?_
        refine skipS ?_ (by simp)
        refine skipS ?_ (by simp)
        refine ⟨_, (Ghost.trans ((Ghost.trans (Ghost.refl _) (ghost_bump (1001, 10)))) (ghost_bump (1002, 44))), ?_⟩
        exact endsK (r := (.tp [(.a [(.av (vS (a.fID))), (.own (1001, 10) (g1 + 1) 1 (a.fClasses.map strAV)), (.own (1002, 44) (g2 + 1) 2 (a.fPairs.map aPair))]), (.c (.av (vI (0)))), (.c (.av (vI (7))))])) (by simp) (by kernel_rfl) (by rw [show itemA a s i = (a, 0, 7) from by rw [itemA]; exact (cF hb3).trans ((cT hb4).trans (cT hb5))]; first | done | first | rfl | (simp [strAV, vU, aPair_eq, aAttr_eq, aCited_eq, aInline_eq, aBlock_eq, aDoc_eq, aPoint_eq, aRange_eq, cPair, cAttr, cCited, cInline, cBlock, cDoc, cPoint, cRange]; done)) (by simp) (by intro p hp; simp only [List.mem_cons, List.not_mem_nil, or_false] at hp; rcases hp with rfl | rfl <;> rfl)
      · refine W_condF (b := (!eqs (a.fID) (⟨#[]⟩))) (by kernel_rfl) hb5 ?_
        have hb5n := notf hb5
        have hb5z := size_neqs_f hb5
        refine W_runX [] .normal 111 [(3, (.ptr 3 0)), (6, (.ptr 6 0)), (10, (jI (wordI s (cond (cond (((((byt (s) (Int.toNat (i)) : Nat) : Int) : Int) == 35)) (true) (((((byt (s) (Int.toNat (i)) : Nat) : Int) : Int) == 46))) (i + 1) (i))))), (11, (jS (ByteArray.extract (s) (Int.toNat (cond (cond (((((byt (s) (Int.toNat (i)) : Nat) : Int) : Int) == 35)) (true) (((((byt (s) (Int.toNat (i)) : Nat) : Int) : Int) == 46))) (i + 1) (i))) (Int.toNat (wordI s (cond (cond (((((byt (s) (Int.toNat (i)) : Nat) : Int) : Int) == 35)) (true) (((((byt (s) (Int.toNat (i)) : Nat) : Int) : Int) == 46))) (i + 1) (i)))))))] [(6, (.cells 38 [(jS (⟨#[]⟩)), .nil, .nil])), (3, (.cells 38 [(jS (a.fID)), (.own (1001, 10) (g1) 1 (a.fClasses.map strAV)), (.own (1002, 44) (g2) 2 (a.fPairs.map aPair))]))] [((1001, 10), g1), ((1002, 44), g2)] an (by kernel_rfl) ?_
        show W _ _ _ _
        refine W_runX [] .ret 111 [(6, (.ptr 6 0)), (7, (jI (wordI s (cond (cond (((((byt (s) (Int.toNat (i)) : Nat) : Int) : Int) == 35)) (true) (((((byt (s) (Int.toNat (i)) : Nat) : Int) : Int) == 46))) (i + 1) (i))))), (8, (jI (0)))] [(6, (.cells 38 [(jS (ByteArray.extract (s) (Int.toNat (cond (cond (((((byt (s) (Int.toNat (i)) : Nat) : Int) : Int) == 35)) (true) (((((byt (s) (Int.toNat (i)) : Nat) : Int) : Int) == 46))) (i + 1) (i))) (Int.toNat (wordI s (cond (cond (((((byt (s) (Int.toNat (i)) : Nat) : Int) : Int) == 35)) (true) (((((byt (s) (Int.toNat (i)) : Nat) : Int) : Int) == 46))) (i + 1) (i)))))), (.own (1001, 10) (g1) 1 (a.fClasses.map strAV)), (.own (1002, 44) (g2) 2 (a.fPairs.map aPair))]))] [((1001, 10), g1), ((1002, 44), g2)] (akn 8 an) (by kernel_rfl) ?_
        refine skipS ?_ (by simp)
        refine ⟨_, (Ghost.trans ((Ghost.trans (Ghost.refl _) (ghost_bump (1001, 10)))) (ghost_bump (1002, 44))), ?_⟩
        exact endsK (r := (.tp [(.a [(.av (vS (ByteArray.extract (s) (Int.toNat (cond (cond (((((byt (s) (Int.toNat (i)) : Nat) : Int) : Int) == 35)) (true) (((((byt (s) (Int.toNat (i)) : Nat) : Int) : Int) == 46))) (i + 1) (i))) (Int.toNat (wordI s (cond (cond (((((byt (s) (Int.toNat (i)) : Nat) : Int) : Int) == 35)) (true) (((((byt (s) (Int.toNat (i)) : Nat) : Int) : Int) == 46))) (i + 1) (i))))))), (.own (1001, 10) (g1 + 1) 1 (a.fClasses.map strAV)), (.own (1002, 44) (g2 + 1) 2 (a.fPairs.map aPair))]), (.c (.av (vI (wordI s (cond (cond (((((byt (s) (Int.toNat (i)) : Nat) : Int) : Int) == 35)) (true) (((((byt (s) (Int.toNat (i)) : Nat) : Int) : Int) == 46))) (i + 1) (i)))))), (.c (.av (vI (0))))])) (by simp) (by kernel_rfl) (by rw [show itemA a s i = (DAttr.mk (ByteArray.extract (s) (Int.toNat (cond (cond (((((byt (s) (Int.toNat (i)) : Nat) : Int) : Int) == 35)) (true) (((((byt (s) (Int.toNat (i)) : Nat) : Int) : Int) == 46))) (i + 1) (i))) (Int.toNat (wordI s (cond (cond (((((byt (s) (Int.toNat (i)) : Nat) : Int) : Int) == 35)) (true) (((((byt (s) (Int.toNat (i)) : Nat) : Int) : Int) == 46))) (i + 1) (i))))) a.fClasses a.fPairs, wordI s (cond (cond (((((byt (s) (Int.toNat (i)) : Nat) : Int) : Int) == 35)) (true) (((((byt (s) (Int.toNat (i)) : Nat) : Int) : Int) == 46))) (i + 1) (i)), 0) from by rw [itemA]; exact (cF hb3).trans ((cT hb4).trans (cF hb5))]; first | done | first | rfl | (simp [strAV, vU, aPair_eq, aAttr_eq, aCited_eq, aInline_eq, aBlock_eq, aDoc_eq, aPoint_eq, aRange_eq, cPair, cAttr, cCited, cInline, cBlock, cDoc, cPoint, cRange]; done)) (by simp) (by intro p hp; simp only [List.mem_cons, List.not_mem_nil, or_false] at hp; rcases hp with rfl | rfl <;> rfl)
    · refine W_condF (b := ((((byt (s) (Int.toNat (i)) : Nat) : Int) : Int) == 35)) (by kernel_rfl) hb4 ?_
      have hb4p := ne_of_beq_false hb4
      refine W_runX [] .normal 111 [(1, (jS (s))), (2, (jI (i))), (3, (.ptr 3 0)), (6, (.ptr 6 0)), (10, (jI (wordI s (cond (cond (((((byt (s) (Int.toNat (i)) : Nat) : Int) : Int) == 35)) (true) (((((byt (s) (Int.toNat (i)) : Nat) : Int) : Int) == 46))) (i + 1) (i))))), (11, (jS (ByteArray.extract (s) (Int.toNat (cond (cond (((((byt (s) (Int.toNat (i)) : Nat) : Int) : Int) == 35)) (true) (((((byt (s) (Int.toNat (i)) : Nat) : Int) : Int) == 46))) (i + 1) (i))) (Int.toNat (wordI s (cond (cond (((((byt (s) (Int.toNat (i)) : Nat) : Int) : Int) == 35)) (true) (((((byt (s) (Int.toNat (i)) : Nat) : Int) : Int) == 46))) (i + 1) (i)))))))] [(6, (.cells 38 [(jS (⟨#[]⟩)), .nil, .nil])), (3, (.cells 38 [(jS (a.fID)), (.own (1001, 10) (g1) 1 (a.fClasses.map strAV)), (.own (1002, 44) (g2) 2 (a.fPairs.map aPair))]))] [((1001, 10), g1), ((1002, 44), g2)] an (by kernel_rfl) ?_
      show W _ _ _ _
      refine W_seq ?_
      refine W_seq ?_
      refine W_runX [] .normal 111 [(1, (jS (s))), (3, (.ptr 3 0)), (6, (.ptr 6 0)), (10, (jI (wordI s (cond (cond (((((byt (s) (Int.toNat (i)) : Nat) : Int) : Int) == 35)) (true) (((((byt (s) (Int.toNat (i)) : Nat) : Int) : Int) == 46))) (i + 1) (i))))), (11, (jS (ByteArray.extract (s) (Int.toNat (cond (cond (((((byt (s) (Int.toNat (i)) : Nat) : Int) : Int) == 35)) (true) (((((byt (s) (Int.toNat (i)) : Nat) : Int) : Int) == 46))) (i + 1) (i))) (Int.toNat (wordI s (cond (cond (((((byt (s) (Int.toNat (i)) : Nat) : Int) : Int) == 35)) (true) (((((byt (s) (Int.toNat (i)) : Nat) : Int) : Int) == 46))) (i + 1) (i))))))), (59, (jB (((((byt (s) (Int.toNat (i)) : Nat) : Int) : Int) == 46))))] [(6, (.cells 38 [(jS (⟨#[]⟩)), .nil, .nil])), (3, (.cells 38 [(jS (a.fID)), (.own (1001, 10) (g1) 1 (a.fClasses.map strAV)), (.own (1002, 44) (g2) 2 (a.fPairs.map aPair))]))] [((1001, 10), g1), ((1002, 44), g2)] (akn 2 (ac (show 0 ≤ (i : Int) ∧ (i : Int) < ((ByteArray.size (s) : Nat) : Int) from (by first | omega | (simp only [lenM_eq, true_and]; omega))) (ak an))) (by kernel_rfl) ?_
      show W _ _ _ _
      rcases Bool.eq_false_or_eq_true (((((byt (s) (Int.toNat (i)) : Nat) : Int) : Int) == 46)) with hb6 | hb6
      · refine W_condT (b := ((((byt (s) (Int.toNat (i)) : Nat) : Int) : Int) == 46)) (by kernel_rfl) hb6 ?_
        have hb6p := eq_of_beq hb6
        have := clsA_bd a (ByteArray.extract (s) (Int.toNat (cond (cond (((((byt (s) (Int.toNat (i)) : Nat) : Int) : Int) == 35)) (true) (((((byt (s) (Int.toNat (i)) : Nat) : Int) : Int) == 46))) (i + 1) (i))) (Int.toNat (wordI s (cond (cond (((((byt (s) (Int.toNat (i)) : Nat) : Int) : Int) == 35)) (true) (((((byt (s) (Int.toNat (i)) : Nat) : Int) : Int) == 46))) (i + 1) (i))))) (by omega)
        refine W_runX [.c (.tp [(.a [(.av (vS (((clsA a (ByteArray.extract (s) (Int.toNat (cond (cond (((((byt (s) (Int.toNat (i)) : Nat) : Int) : Int) == 35)) (true) (((((byt (s) (Int.toNat (i)) : Nat) : Int) : Int) == 46))) (i + 1) (i))) (Int.toNat (wordI s (cond (cond (((((byt (s) (Int.toNat (i)) : Nat) : Int) : Int) == 35)) (true) (((((byt (s) (Int.toNat (i)) : Nat) : Int) : Int) == 46))) (i + 1) (i)))))).1).fID))), (.own (1001, 10) (g1 + 1) 1 ((((clsA a (ByteArray.extract (s) (Int.toNat (cond (cond (((((byt (s) (Int.toNat (i)) : Nat) : Int) : Int) == 35)) (true) (((((byt (s) (Int.toNat (i)) : Nat) : Int) : Int) == 46))) (i + 1) (i))) (Int.toNat (wordI s (cond (cond (((((byt (s) (Int.toNat (i)) : Nat) : Int) : Int) == 35)) (true) (((((byt (s) (Int.toNat (i)) : Nat) : Int) : Int) == 46))) (i + 1) (i)))))).1).fClasses).map strAV)), (.own (1002, 44) (g2 + 1) 2 ((((clsA a (ByteArray.extract (s) (Int.toNat (cond (cond (((((byt (s) (Int.toNat (i)) : Nat) : Int) : Int) == 35)) (true) (((((byt (s) (Int.toNat (i)) : Nat) : Int) : Int) == 46))) (i + 1) (i))) (Int.toNat (wordI s (cond (cond (((((byt (s) (Int.toNat (i)) : Nat) : Int) : Int) == 35)) (true) (((((byt (s) (Int.toNat (i)) : Nat) : Int) : Int) == 46))) (i + 1) (i)))))).1).fPairs).map aPair))]), (.c (.av (vI ((clsA a (ByteArray.extract (s) (Int.toNat (cond (cond (((((byt (s) (Int.toNat (i)) : Nat) : Int) : Int) == 35)) (true) (((((byt (s) (Int.toNat (i)) : Nat) : Int) : Int) == 46))) (i + 1) (i))) (Int.toNat (wordI s (cond (cond (((((byt (s) (Int.toNat (i)) : Nat) : Int) : Int) == 35)) (true) (((((byt (s) (Int.toNat (i)) : Nat) : Int) : Int) == 46))) (i + 1) (i)))))).2))))]) [] [((1001, 10), g1), ((1002, 44), g2)] [((1001, 10), g1 + 1), ((1002, 44), g2 + 1)]] .ret 111 [(6, (.ptr 6 0)), (7, (jI (wordI s (cond (cond (((((byt (s) (Int.toNat (i)) : Nat) : Int) : Int) == 35)) (true) (((((byt (s) (Int.toNat (i)) : Nat) : Int) : Int) == 46))) (i + 1) (i))))), (8, (jI ((clsA a (ByteArray.extract (s) (Int.toNat (cond (cond (((((byt (s) (Int.toNat (i)) : Nat) : Int) : Int) == 35)) (true) (((((byt (s) (Int.toNat (i)) : Nat) : Int) : Int) == 46))) (i + 1) (i))) (Int.toNat (wordI s (cond (cond (((((byt (s) (Int.toNat (i)) : Nat) : Int) : Int) == 35)) (true) (((((byt (s) (Int.toNat (i)) : Nat) : Int) : Int) == 46))) (i + 1) (i)))))).2)))] [(6, (.cells 38 [(jS (((clsA a (ByteArray.extract (s) (Int.toNat (cond (cond (((((byt (s) (Int.toNat (i)) : Nat) : Int) : Int) == 35)) (true) (((((byt (s) (Int.toNat (i)) : Nat) : Int) : Int) == 46))) (i + 1) (i))) (Int.toNat (wordI s (cond (cond (((((byt (s) (Int.toNat (i)) : Nat) : Int) : Int) == 35)) (true) (((((byt (s) (Int.toNat (i)) : Nat) : Int) : Int) == 46))) (i + 1) (i)))))).1).fID)), (.own (1001, 10) (g1 + 1) 1 ((((clsA a (ByteArray.extract (s) (Int.toNat (cond (cond (((((byt (s) (Int.toNat (i)) : Nat) : Int) : Int) == 35)) (true) (((((byt (s) (Int.toNat (i)) : Nat) : Int) : Int) == 46))) (i + 1) (i))) (Int.toNat (wordI s (cond (cond (((((byt (s) (Int.toNat (i)) : Nat) : Int) : Int) == 35)) (true) (((((byt (s) (Int.toNat (i)) : Nat) : Int) : Int) == 46))) (i + 1) (i)))))).1).fClasses).map strAV)), (.own (1002, 44) (g2 + 1) 2 ((((clsA a (ByteArray.extract (s) (Int.toNat (cond (cond (((((byt (s) (Int.toNat (i)) : Nat) : Int) : Int) == 35)) (true) (((((byt (s) (Int.toNat (i)) : Nat) : Int) : Int) == 46))) (i + 1) (i))) (Int.toNat (wordI s (cond (cond (((((byt (s) (Int.toNat (i)) : Nat) : Int) : Int) == 35)) (true) (((((byt (s) (Int.toNat (i)) : Nat) : Int) : Int) == 46))) (i + 1) (i)))))).1).fPairs).map aPair))]))] [((1001, 10), g1 + 1), ((1002, 44), g2 + 1)] (akn 2 (ac (clsA_to a (ByteArray.extract (s) (Int.toNat (cond (cond (((((byt (s) (Int.toNat (i)) : Nat) : Int) : Int) == 35)) (true) (((((byt (s) (Int.toNat (i)) : Nat) : Int) : Int) == 46))) (i + 1) (i))) (Int.toNat (wordI s (cond (cond (((((byt (s) (Int.toNat (i)) : Nat) : Int) : Int) == 35)) (true) (((((byt (s) (Int.toNat (i)) : Nat) : Int) : Int) == 46))) (i + 1) (i))))) g1 g2 (by first | assumption | omega | decide | (simp; done) | (simp; omega))) (ac (show (g1 : Nat) = g1 ∧ (g2 : Nat) = g2 ∧ True from ⟨rfl, rfl, trivial⟩) (akn 12 an)))) (by kernel_rfl) ?_
        refine skipS ?_ (by simp)
        refine ⟨_, Ghost.refl _, ?_⟩
        exact endsK (r := (.tp [(.a [(.av (vS (((clsA a (ByteArray.extract (s) (Int.toNat (cond (cond (((((byt (s) (Int.toNat (i)) : Nat) : Int) : Int) == 35)) (true) (((((byt (s) (Int.toNat (i)) : Nat) : Int) : Int) == 46))) (i + 1) (i))) (Int.toNat (wordI s (cond (cond (((((byt (s) (Int.toNat (i)) : Nat) : Int) : Int) == 35)) (true) (((((byt (s) (Int.toNat (i)) : Nat) : Int) : Int) == 46))) (i + 1) (i)))))).1).fID))), (.own (1001, 10) (g1 + 1) 1 ((((clsA a (ByteArray.extract (s) (Int.toNat (cond (cond (((((byt (s) (Int.toNat (i)) : Nat) : Int) : Int) == 35)) (true) (((((byt (s) (Int.toNat (i)) : Nat) : Int) : Int) == 46))) (i + 1) (i))) (Int.toNat (wordI s (cond (cond (((((byt (s) (Int.toNat (i)) : Nat) : Int) : Int) == 35)) (true) (((((byt (s) (Int.toNat (i)) : Nat) : Int) : Int) == 46))) (i + 1) (i)))))).1).fClasses).map strAV)), (.own (1002, 44) (g2 + 1) 2 ((((clsA a (ByteArray.extract (s) (Int.toNat (cond (cond (((((byt (s) (Int.toNat (i)) : Nat) : Int) : Int) == 35)) (true) (((((byt (s) (Int.toNat (i)) : Nat) : Int) : Int) == 46))) (i + 1) (i))) (Int.toNat (wordI s (cond (cond (((((byt (s) (Int.toNat (i)) : Nat) : Int) : Int) == 35)) (true) (((((byt (s) (Int.toNat (i)) : Nat) : Int) : Int) == 46))) (i + 1) (i)))))).1).fPairs).map aPair))]), (.c (.av (vI (wordI s (cond (cond (((((byt (s) (Int.toNat (i)) : Nat) : Int) : Int) == 35)) (true) (((((byt (s) (Int.toNat (i)) : Nat) : Int) : Int) == 46))) (i + 1) (i)))))), (.c (.av (vI ((clsA a (ByteArray.extract (s) (Int.toNat (cond (cond (((((byt (s) (Int.toNat (i)) : Nat) : Int) : Int) == 35)) (true) (((((byt (s) (Int.toNat (i)) : Nat) : Int) : Int) == 46))) (i + 1) (i))) (Int.toNat (wordI s (cond (cond (((((byt (s) (Int.toNat (i)) : Nat) : Int) : Int) == 35)) (true) (((((byt (s) (Int.toNat (i)) : Nat) : Int) : Int) == 46))) (i + 1) (i)))))).2))))])) (by simp) (by kernel_rfl) (by rw [show itemA a s i = ((clsA a (ByteArray.extract (s) (Int.toNat (cond (cond (((((byt (s) (Int.toNat (i)) : Nat) : Int) : Int) == 35)) (true) (((((byt (s) (Int.toNat (i)) : Nat) : Int) : Int) == 46))) (i + 1) (i))) (Int.toNat (wordI s (cond (cond (((((byt (s) (Int.toNat (i)) : Nat) : Int) : Int) == 35)) (true) (((((byt (s) (Int.toNat (i)) : Nat) : Int) : Int) == 46))) (i + 1) (i)))))).1, wordI s (cond (cond (((((byt (s) (Int.toNat (i)) : Nat) : Int) : Int) == 35)) (true) (((((byt (s) (Int.toNat (i)) : Nat) : Int) : Int) == 46))) (i + 1) (i)), (clsA a (ByteArray.extract (s) (Int.toNat (cond (cond (((((byt (s) (Int.toNat (i)) : Nat) : Int) : Int) == 35)) (true) (((((byt (s) (Int.toNat (i)) : Nat) : Int) : Int) == 46))) (i + 1) (i))) (Int.toNat (wordI s (cond (cond (((((byt (s) (Int.toNat (i)) : Nat) : Int) : Int) == 35)) (true) (((((byt (s) (Int.toNat (i)) : Nat) : Int) : Int) == 46))) (i + 1) (i)))))).2) from by rw [itemA]; exact (cF hb3).trans ((cF hb4).trans (cT hb6))]; first | done | first | rfl | (simp [strAV, vU, aPair_eq, aAttr_eq, aCited_eq, aInline_eq, aBlock_eq, aDoc_eq, aPoint_eq, aRange_eq, cPair, cAttr, cCited, cInline, cBlock, cDoc, cPoint, cRange]; done)) (by simp) (by intro p hp; simp only [List.mem_cons, List.not_mem_nil, or_false] at hp; rcases hp with rfl | rfl <;> rfl)
      · refine W_condF (b := ((((byt (s) (Int.toNat (i)) : Nat) : Int) : Int) == 46)) (by kernel_rfl) hb6 ?_
        have hb6p := ne_of_beq_false hb6
        refine W_runX [] .normal 111 [(1, (jS (s))), (3, (.ptr 3 0)), (6, (.ptr 6 0)), (10, (jI (wordI s (cond (cond (((((byt (s) (Int.toNat (i)) : Nat) : Int) : Int) == 35)) (true) (((((byt (s) (Int.toNat (i)) : Nat) : Int) : Int) == 46))) (i + 1) (i))))), (11, (jS (ByteArray.extract (s) (Int.toNat (cond (cond (((((byt (s) (Int.toNat (i)) : Nat) : Int) : Int) == 35)) (true) (((((byt (s) (Int.toNat (i)) : Nat) : Int) : Int) == 46))) (i + 1) (i))) (Int.toNat (wordI s (cond (cond (((((byt (s) (Int.toNat (i)) : Nat) : Int) : Int) == 35)) (true) (((((byt (s) (Int.toNat (i)) : Nat) : Int) : Int) == 46))) (i + 1) (i)))))))] [(6, (.cells 38 [(jS (⟨#[]⟩)), .nil, .nil])), (3, (.cells 38 [(jS (a.fID)), (.own (1001, 10) (g1) 1 (a.fClasses.map strAV)), (.own (1002, 44) (g2) 2 (a.fPairs.map aPair))]))] [((1001, 10), g1), ((1002, 44), g2)] an (by kernel_rfl) ?_
        show W _ _ _ _
        refine W_seq ?_
        refine W_mid (S' := (sx 111 [(1, (jS (s))), (3, (.ptr 3 0)), (6, (.ptr 6 0)), (10, (jI (wordI s (cond (cond (((((byt (s) (Int.toNat (i)) : Nat) : Int) : Int) == 35)) (true) (((((byt (s) (Int.toNat (i)) : Nat) : Int) : Int) == 46))) (i + 1) (i))))), (11, (jS (ByteArray.extract (s) (Int.toNat (cond (cond (((((byt (s) (Int.toNat (i)) : Nat) : Int) : Int) == 35)) (true) (((((byt (s) (Int.toNat (i)) : Nat) : Int) : Int) == 46))) (i + 1) (i))) (Int.toNat (wordI s (cond (cond (((((byt (s) (Int.toNat (i)) : Nat) : Int) : Int) == 35)) (true) (((((byt (s) (Int.toNat (i)) : Nat) : Int) : Int) == 46))) (i + 1) (i))))))), (78, (jB (cond (decide ((wordI s (cond (cond (((((byt (s) (Int.toNat (i)) : Nat) : Int) : Int) == 35)) (true) (((((byt (s) (Int.toNat (i)) : Nat) : Int) : Int) == 46))) (i + 1) (i)) : Int) ≥ ((ByteArray.size (s) : Nat) : Int))) (true) (((((byt (s) (Int.toNat (wordI s (cond (cond (((((byt (s) (Int.toNat (i)) : Nat) : Int) : Int) == 35)) (true) (((((byt (s) (Int.toNat (i)) : Nat) : Int) : Int) == 46))) (i + 1) (i)))) : Nat) : Int) : Int) != 61)))))] [(6, (.cells 38 [(jS (⟨#[]⟩)), .nil, .nil])), (3, (.cells 38 [(jS (a.fID)), (.own (1001, 10) (g1) 1 (a.fClasses.map strAV)), (.own (1002, 44) (g2) 2 (a.fPairs.map aPair))]))] [((1001, 10), g1), ((1002, 44), g2)])) ?_ ?_
        · rcases Bool.eq_false_or_eq_true (decide ((wordI s (cond (cond (((((byt (s) (Int.toNat (i)) : Nat) : Int) : Int) == 35)) (true) (((((byt (s) (Int.toNat (i)) : Nat) : Int) : Int) == 46))) (i + 1) (i)) : Int) ≥ ((ByteArray.size (s) : Nat) : Int))) with hb7 | hb7
          · have hb7p := of_decide_eq_true hb7
            refine W_runX (rp 5 oT []) .normal 111 [(1, (jS (s))), (3, (.ptr 3 0)), (6, (.ptr 6 0)), (10, (jI (wordI s (cond (cond (((((byt (s) (Int.toNat (i)) : Nat) : Int) : Int) == 35)) (true) (((((byt (s) (Int.toNat (i)) : Nat) : Int) : Int) == 46))) (i + 1) (i))))), (11, (jS (ByteArray.extract (s) (Int.toNat (cond (cond (((((byt (s) (Int.toNat (i)) : Nat) : Int) : Int) == 35)) (true) (((((byt (s) (Int.toNat (i)) : Nat) : Int) : Int) == 46))) (i + 1) (i))) (Int.toNat (wordI s (cond (cond (((((byt (s) (Int.toNat (i)) : Nat) : Int) : Int) == 35)) (true) (((((byt (s) (Int.toNat (i)) : Nat) : Int) : Int) == 46))) (i + 1) (i))))))), (78, (jB (true)))] [(6, (.cells 38 [(jS (⟨#[]⟩)), .nil, .nil])), (3, (.cells 38 [(jS (a.fID)), (.own (1001, 10) (g1) 1 (a.fClasses.map strAV)), (.own (1002, 44) (g2) 2 (a.fPairs.map aPair))]))] [((1001, 10), g1), ((1002, 44), g2)] (akn 5 (acn 5 hb7 an)) (by kernel_rfl) ?_
            exact ⟨rfl, (weak_sx (show WkX _ _ _ from ⟨rfl, rfl, rfl, rfl, rfl, (show ((jB (true)) : SV) = (jB (cond (decide ((wordI s (cond (cond (((((byt (s) (Int.toNat (i)) : Nat) : Int) : Int) == 35)) (true) (((((byt (s) (Int.toNat (i)) : Nat) : Int) : Int) == 46))) (i + 1) (i)) : Int) ≥ ((ByteArray.size (s) : Nat) : Int))) (true) (((((byt (s) (Int.toNat (wordI s (cond (cond (((((byt (s) (Int.toNat (i)) : Nat) : Int) : Int) == 35)) (true) (((((byt (s) (Int.toNat (i)) : Nat) : Int) : Int) == 46))) (i + 1) (i)))) : Nat) : Int) : Int) != 61)))) from by rw [hb7, cond_true]), trivial⟩) (show WkBx _ _ from ⟨⟨rfl, ⟨rfl, rfl, rfl, trivial⟩⟩, ⟨rfl, ⟨rfl, ⟨rfl, rfl, rfl, rfl⟩, ⟨rfl, rfl, rfl, rfl⟩, trivial⟩⟩, trivial⟩) (show WkG _ _ _ from ⟨rfl, rfl, rfl, rfl, trivial⟩))⟩
          · have hb7p := of_decide_eq_false hb7
            refine W_runX (rp 5 oF []) .normal 111 [(1, (jS (s))), (3, (.ptr 3 0)), (6, (.ptr 6 0)), (10, (jI (wordI s (cond (cond (((((byt (s) (Int.toNat (i)) : Nat) : Int) : Int) == 35)) (true) (((((byt (s) (Int.toNat (i)) : Nat) : Int) : Int) == 46))) (i + 1) (i))))), (11, (jS (ByteArray.extract (s) (Int.toNat (cond (cond (((((byt (s) (Int.toNat (i)) : Nat) : Int) : Int) == 35)) (true) (((((byt (s) (Int.toNat (i)) : Nat) : Int) : Int) == 46))) (i + 1) (i))) (Int.toNat (wordI s (cond (cond (((((byt (s) (Int.toNat (i)) : Nat) : Int) : Int) == 35)) (true) (((((byt (s) (Int.toNat (i)) : Nat) : Int) : Int) == 46))) (i + 1) (i))))))), (78, (jB (((((byt (s) (Int.toNat (wordI s (cond (cond (((((byt (s) (Int.toNat (i)) : Nat) : Int) : Int) == 35)) (true) (((((byt (s) (Int.toNat (i)) : Nat) : Int) : Int) == 46))) (i + 1) (i)))) : Nat) : Int) : Int) != 61))))] [(6, (.cells 38 [(jS (⟨#[]⟩)), .nil, .nil])), (3, (.cells 38 [(jS (a.fID)), (.own (1001, 10) (g1) 1 (a.fClasses.map strAV)), (.own (1002, 44) (g2) 2 (a.fPairs.map aPair))]))] [((1001, 10), g1), ((1002, 44), g2)] (akn 5 (apn 2 hb7 (ac hb7 (ac (show 0 ≤ (wordI s (cond (cond (((((byt (s) (Int.toNat (i)) : Nat) : Int) : Int) == 35)) (true) (((((byt (s) (Int.toNat (i)) : Nat) : Int) : Int) == 46))) (i + 1) (i)) : Int) ∧ (wordI s (cond (cond (((((byt (s) (Int.toNat (i)) : Nat) : Int) : Int) == 35)) (true) (((((byt (s) (Int.toNat (i)) : Nat) : Int) : Int) == 46))) (i + 1) (i)) : Int) < ((ByteArray.size (s) : Nat) : Int) from (by first | omega | (simp only [lenM_eq, true_and]; omega))) (ac hb7 (ak (ac hb7 an))))))) (by kernel_rfl) ?_
            exact ⟨rfl, (weak_sx (show WkX _ _ _ from ⟨rfl, rfl, rfl, rfl, rfl, (show ((jB (((((byt (s) (Int.toNat (wordI s (cond (cond (((((byt (s) (Int.toNat (i)) : Nat) : Int) : Int) == 35)) (true) (((((byt (s) (Int.toNat (i)) : Nat) : Int) : Int) == 46))) (i + 1) (i)))) : Nat) : Int) : Int) != 61))) : SV) = (jB (cond (decide ((wordI s (cond (cond (((((byt (s) (Int.toNat (i)) : Nat) : Int) : Int) == 35)) (true) (((((byt (s) (Int.toNat (i)) : Nat) : Int) : Int) == 46))) (i + 1) (i)) : Int) ≥ ((ByteArray.size (s) : Nat) : Int))) (true) (((((byt (s) (Int.toNat (wordI s (cond (cond (((((byt (s) (Int.toNat (i)) : Nat) : Int) : Int) == 35)) (true) (((((byt (s) (Int.toNat (i)) : Nat) : Int) : Int) == 46))) (i + 1) (i)))) : Nat) : Int) : Int) != 61)))) from by rw [hb7, cond_false]), trivial⟩) (show WkBx _ _ from ⟨⟨rfl, ⟨rfl, rfl, rfl, trivial⟩⟩, ⟨rfl, ⟨rfl, ⟨rfl, rfl, rfl, rfl⟩, ⟨rfl, rfl, rfl, rfl⟩, trivial⟩⟩, trivial⟩) (show WkG _ _ _ from ⟨rfl, rfl, rfl, rfl, trivial⟩))⟩
        rcases Bool.eq_false_or_eq_true (cond (decide ((wordI s (cond (cond (((((byt (s) (Int.toNat (i)) : Nat) : Int) : Int) == 35)) (true) (((((byt (s) (Int.toNat (i)) : Nat) : Int) : Int) == 46))) (i + 1) (i)) : Int) ≥ ((ByteArray.size (s) : Nat) : Int))) (true) (((((byt (s) (Int.toNat (wordI s (cond (cond (((((byt (s) (Int.toNat (i)) : Nat) : Int) : Int) == 35)) (true) (((((byt (s) (Int.toNat (i)) : Nat) : Int) : Int) == 46))) (i + 1) (i)))) : Nat) : Int) : Int) != 61))) with hb8 | hb8
        · refine W_condT (b := cond (decide ((wordI s (cond (cond (((((byt (s) (Int.toNat (i)) : Nat) : Int) : Int) == 35)) (true) (((((byt (s) (Int.toNat (i)) : Nat) : Int) : Int) == 46))) (i + 1) (i)) : Int) ≥ ((ByteArray.size (s) : Nat) : Int))) (true) (((((byt (s) (Int.toNat (wordI s (cond (cond (((((byt (s) (Int.toNat (i)) : Nat) : Int) : Int) == 35)) (true) (((((byt (s) (Int.toNat (i)) : Nat) : Int) : Int) == 46))) (i + 1) (i)))) : Nat) : Int) : Int) != 61))) (by kernel_rfl) hb8 ?_
          refine W_runX [] .ret 111 [(6, (.ptr 6 0)), (7, (jI (0))), (8, (jI (5)))] [(6, (.cells 38 [(jS (a.fID)), (.own (1001, 10) (g1) 1 (a.fClasses.map strAV)), (.own (1002, 44) (g2) 2 (a.fPairs.map aPair))]))] [((1001, 10), g1), ((1002, 44), g2)] (akn 4 an) (by kernel_rfl) ?_
          refine skipS ?_ (by simp)
          refine ⟨_, (Ghost.trans ((Ghost.trans (Ghost.refl _) (ghost_bump (1001, 10)))) (ghost_bump (1002, 44))), ?_⟩
          exact endsK (r := (.tp [(.a [(.av (vS (a.fID))), (.own (1001, 10) (g1 + 1) 1 (a.fClasses.map strAV)), (.own (1002, 44) (g2 + 1) 2 (a.fPairs.map aPair))]), (.c (.av (vI (0)))), (.c (.av (vI (5))))])) (by simp) (by kernel_rfl) (by rw [show itemA a s i = (a, 0, 5) from by rw [itemA]; exact (cF hb3).trans ((cF hb4).trans ((cF hb6).trans (cT hb8)))]; first | done | first | rfl | (simp [strAV, vU, aPair_eq, aAttr_eq, aCited_eq, aInline_eq, aBlock_eq, aDoc_eq, aPoint_eq, aRange_eq, cPair, cAttr, cCited, cInline, cBlock, cDoc, cPoint, cRange]; done)) (by simp) (by intro p hp; simp only [List.mem_cons, List.not_mem_nil, or_false] at hp; rcases hp with rfl | rfl <;> rfl)
        · refine W_condF (b := cond (decide ((wordI s (cond (cond (((((byt (s) (Int.toNat (i)) : Nat) : Int) : Int) == 35)) (true) (((((byt (s) (Int.toNat (i)) : Nat) : Int) : Int) == 46))) (i + 1) (i)) : Int) ≥ ((ByteArray.size (s) : Nat) : Int))) (true) (((((byt (s) (Int.toNat (wordI s (cond (cond (((((byt (s) (Int.toNat (i)) : Nat) : Int) : Int) == 35)) (true) (((((byt (s) (Int.toNat (i)) : Nat) : Int) : Int) == 46))) (i + 1) (i)))) : Nat) : Int) : Int) != 61))) (by kernel_rfl) hb8 ?_
          obtain ⟨hb8a, hb8o⟩ := cond_tt hb8
          have hb8ap := of_decide_eq_false hb8a
          have hb8op := eq_of_bne_false hb8o
          refine W_runX [] .normal 111 [(1, (jS (s))), (3, (.ptr 3 0)), (6, (.ptr 6 0)), (10, (jI (wordI s (cond (cond (((((byt (s) (Int.toNat (i)) : Nat) : Int) : Int) == 35)) (true) (((((byt (s) (Int.toNat (i)) : Nat) : Int) : Int) == 46))) (i + 1) (i))))), (11, (jS (ByteArray.extract (s) (Int.toNat (cond (cond (((((byt (s) (Int.toNat (i)) : Nat) : Int) : Int) == 35)) (true) (((((byt (s) (Int.toNat (i)) : Nat) : Int) : Int) == 46))) (i + 1) (i))) (Int.toNat (wordI s (cond (cond (((((byt (s) (Int.toNat (i)) : Nat) : Int) : Int) == 35)) (true) (((((byt (s) (Int.toNat (i)) : Nat) : Int) : Int) == 46))) (i + 1) (i)))))))] [(6, (.cells 38 [(jS (⟨#[]⟩)), .nil, .nil])), (3, (.cells 38 [(jS (a.fID)), (.own (1001, 10) (g1) 1 (a.fClasses.map strAV)), (.own (1002, 44) (g2) 2 (a.fPairs.map aPair))]))] [((1001, 10), g1), ((1002, 44), g2)] an (by kernel_rfl) ?_
          show W _ _ _ _
          refine W_seq ?_
          have := vluR_bd s ((wordI s (cond (cond (((((byt (s) (Int.toNat (i)) : Nat) : Int) : Int) == 35)) (true) (((((byt (s) (Int.toNat (i)) : Nat) : Int) : Int) == 46))) (i + 1) (i))) + 1) (by omega) (by omega)
          refine W_runX [.n ((wordI s (cond (cond (((((byt (s) (Int.toNat (i)) : Nat) : Int) : Int) == 35)) (true) (((((byt (s) (Int.toNat (i)) : Nat) : Int) : Int) == 46))) (i + 1) (i))) + 1), .c (.av (.tup [(vS ((vluR s ((wordI s (cond (cond (((((byt (s) (Int.toNat (i)) : Nat) : Int) : Int) == 35)) (true) (((((byt (s) (Int.toNat (i)) : Nat) : Int) : Int) == 46))) (i + 1) (i))) + 1)).1)), (vI ((vluR s ((wordI s (cond (cond (((((byt (s) (Int.toNat (i)) : Nat) : Int) : Int) == 35)) (true) (((((byt (s) (Int.toNat (i)) : Nat) : Int) : Int) == 46))) (i + 1) (i))) + 1)).2.1)), (vB ((vluR s ((wordI s (cond (cond (((((byt (s) (Int.toNat (i)) : Nat) : Int) : Int) == 35)) (true) (((((byt (s) (Int.toNat (i)) : Nat) : Int) : Int) == 46))) (i + 1) (i))) + 1)).2.2))])) [] [] []] .normal 111 [(3, (.ptr 3 0)), (6, (.ptr 6 0)), (11, (jS (ByteArray.extract (s) (Int.toNat (cond (cond (((((byt (s) (Int.toNat (i)) : Nat) : Int) : Int) == 35)) (true) (((((byt (s) (Int.toNat (i)) : Nat) : Int) : Int) == 46))) (i + 1) (i))) (Int.toNat (wordI s (cond (cond (((((byt (s) (Int.toNat (i)) : Nat) : Int) : Int) == 35)) (true) (((((byt (s) (Int.toNat (i)) : Nat) : Int) : Int) == 46))) (i + 1) (i))))))), (14, (jS ((vluR s ((wordI s (cond (cond (((((byt (s) (Int.toNat (i)) : Nat) : Int) : Int) == 35)) (true) (((((byt (s) (Int.toNat (i)) : Nat) : Int) : Int) == 46))) (i + 1) (i))) + 1)).1))), (15, (jI ((vluR s ((wordI s (cond (cond (((((byt (s) (Int.toNat (i)) : Nat) : Int) : Int) == 35)) (true) (((((byt (s) (Int.toNat (i)) : Nat) : Int) : Int) == 46))) (i + 1) (i))) + 1)).2.1))), (16, (jB ((vluR s ((wordI s (cond (cond (((((byt (s) (Int.toNat (i)) : Nat) : Int) : Int) == 35)) (true) (((((byt (s) (Int.toNat (i)) : Nat) : Int) : Int) == 46))) (i + 1) (i))) + 1)).2.2)))] [(6, (.cells 38 [(jS (⟨#[]⟩)), .nil, .nil])), (3, (.cells 38 [(jS (a.fID)), (.own (1001, 10) (g1) 1 (a.fClasses.map strAV)), (.own (1002, 44) (g2) 2 (a.fPairs.map aPair))]))] [((1001, 10), g1), ((1002, 44), g2)] (akn 2 (ac (wrE ((wordI s (cond (cond (((((byt (s) (Int.toNat (i)) : Nat) : Int) : Int) == 35)) (true) (((((byt (s) (Int.toNat (i)) : Nat) : Int) : Int) == 46))) (i + 1) (i))) + 1) ((wordI s (cond (cond (((((byt (s) (Int.toNat (i)) : Nat) : Int) : Int) == 35)) (true) (((((byt (s) (Int.toNat (i)) : Nat) : Int) : Int) == 46))) (i + 1) (i))) + 1) (by first | omega | (simp only [lenM_eq, true_and]; omega))) (ac (vluR_to s ((wordI s (cond (cond (((((byt (s) (Int.toNat (i)) : Nat) : Int) : Int) == 35)) (true) (((((byt (s) (Int.toNat (i)) : Nat) : Int) : Int) == 46))) (i + 1) (i))) + 1) (by first | assumption | omega | decide | (simp; done) | (simp; omega)) (by first | assumption | omega | decide | (simp; done) | (simp; omega)) (by first | assumption | omega | decide | (simp; done) | (simp; omega))) (akn 8 an)))) (by kernel_rfl) ?_
          show W _ _ _ _
          refine W_seq ?_
          refine W_seq ?_
          refine W_runX [] .normal 111 [(3, (.ptr 3 0)), (6, (.ptr 6 0)), (11, (jS (ByteArray.extract (s) (Int.toNat (cond (cond (((((byt (s) (Int.toNat (i)) : Nat) : Int) : Int) == 35)) (true) (((((byt (s) (Int.toNat (i)) : Nat) : Int) : Int) == 46))) (i + 1) (i))) (Int.toNat (wordI s (cond (cond (((((byt (s) (Int.toNat (i)) : Nat) : Int) : Int) == 35)) (true) (((((byt (s) (Int.toNat (i)) : Nat) : Int) : Int) == 46))) (i + 1) (i))))))), (14, (jS ((vluR s ((wordI s (cond (cond (((((byt (s) (Int.toNat (i)) : Nat) : Int) : Int) == 35)) (true) (((((byt (s) (Int.toNat (i)) : Nat) : Int) : Int) == 46))) (i + 1) (i))) + 1)).1))), (15, (jI ((vluR s ((wordI s (cond (cond (((((byt (s) (Int.toNat (i)) : Nat) : Int) : Int) == 35)) (true) (((((byt (s) (Int.toNat (i)) : Nat) : Int) : Int) == 46))) (i + 1) (i))) + 1)).2.1))), (89, (jB ((!(vluR s ((wordI s (cond (cond (((((byt (s) (Int.toNat (i)) : Nat) : Int) : Int) == 35)) (true) (((((byt (s) (Int.toNat (i)) : Nat) : Int) : Int) == 46))) (i + 1) (i))) + 1)).2.2))))] [(6, (.cells 38 [(jS (⟨#[]⟩)), .nil, .nil])), (3, (.cells 38 [(jS (a.fID)), (.own (1001, 10) (g1) 1 (a.fClasses.map strAV)), (.own (1002, 44) (g2) 2 (a.fPairs.map aPair))]))] [((1001, 10), g1), ((1002, 44), g2)] (akn 2 an) (by kernel_rfl) ?_
          show W _ _ _ _
          rcases Bool.eq_false_or_eq_true ((!(vluR s ((wordI s (cond (cond (((((byt (s) (Int.toNat (i)) : Nat) : Int) : Int) == 35)) (true) (((((byt (s) (Int.toNat (i)) : Nat) : Int) : Int) == 46))) (i + 1) (i))) + 1)).2.2)) with hb9 | hb9
          · refine W_condT (b := (!(vluR s ((wordI s (cond (cond (((((byt (s) (Int.toNat (i)) : Nat) : Int) : Int) == 35)) (true) (((((byt (s) (Int.toNat (i)) : Nat) : Int) : Int) == 46))) (i + 1) (i))) + 1)).2.2)) (by kernel_rfl) hb9 ?_
            have hb9n := nott hb9
            refine W_runX [] .ret 111 [(6, (.ptr 6 0)), (7, (jI (0))), (8, (jI (5)))] [(6, (.cells 38 [(jS (a.fID)), (.own (1001, 10) (g1) 1 (a.fClasses.map strAV)), (.own (1002, 44) (g2) 2 (a.fPairs.map aPair))]))] [((1001, 10), g1), ((1002, 44), g2)] (akn 4 an) (by kernel_rfl) ?_
            refine skipS ?_ (by simp)
            refine ⟨_, (Ghost.trans ((Ghost.trans (Ghost.refl _) (ghost_bump (1001, 10)))) (ghost_bump (1002, 44))), ?_⟩
            exact endsK (r := (.tp [(.a [(.av (vS (a.fID))), (.own (1001, 10) (g1 + 1) 1 (a.fClasses.map strAV)), (.own (1002, 44) (g2 + 1) 2 (a.fPairs.map aPair))]), (.c (.av (vI (0)))), (.c (.av (vI (5))))])) (by simp) (by kernel_rfl) (by rw [show itemA a s i = (a, 0, 5) from by rw [itemA]; exact (cF hb3).trans ((cF hb4).trans ((cF hb6).trans ((cF hb8).trans (cT hb9))))]; first | done | first | rfl | (simp [strAV, vU, aPair_eq, aAttr_eq, aCited_eq, aInline_eq, aBlock_eq, aDoc_eq, aPoint_eq, aRange_eq, cPair, cAttr, cCited, cInline, cBlock, cDoc, cPoint, cRange]; done)) (by simp) (by intro p hp; simp only [List.mem_cons, List.not_mem_nil, or_false] at hp; rcases hp with rfl | rfl <;> rfl)
          · refine W_condF (b := (!(vluR s ((wordI s (cond (cond (((((byt (s) (Int.toNat (i)) : Nat) : Int) : Int) == 35)) (true) (((((byt (s) (Int.toNat (i)) : Nat) : Int) : Int) == 46))) (i + 1) (i))) + 1)).2.2)) (by kernel_rfl) hb9 ?_
            have hb9n := notf hb9
            refine W_runX [] .normal 111 [(3, (.ptr 3 0)), (6, (.ptr 6 0)), (11, (jS (ByteArray.extract (s) (Int.toNat (cond (cond (((((byt (s) (Int.toNat (i)) : Nat) : Int) : Int) == 35)) (true) (((((byt (s) (Int.toNat (i)) : Nat) : Int) : Int) == 46))) (i + 1) (i))) (Int.toNat (wordI s (cond (cond (((((byt (s) (Int.toNat (i)) : Nat) : Int) : Int) == 35)) (true) (((((byt (s) (Int.toNat (i)) : Nat) : Int) : Int) == 46))) (i + 1) (i))))))), (14, (jS ((vluR s ((wordI s (cond (cond (((((byt (s) (Int.toNat (i)) : Nat) : Int) : Int) == 35)) (true) (((((byt (s) (Int.toNat (i)) : Nat) : Int) : Int) == 46))) (i + 1) (i))) + 1)).1))), (15, (jI ((vluR s ((wordI s (cond (cond (((((byt (s) (Int.toNat (i)) : Nat) : Int) : Int) == 35)) (true) (((((byt (s) (Int.toNat (i)) : Nat) : Int) : Int) == 46))) (i + 1) (i))) + 1)).2.1)))] [(6, (.cells 38 [(jS (⟨#[]⟩)), .nil, .nil])), (3, (.cells 38 [(jS (a.fID)), (.own (1001, 10) (g1) 1 (a.fClasses.map strAV)), (.own (1002, 44) (g2) 2 (a.fPairs.map aPair))]))] [((1001, 10), g1), ((1002, 44), g2)] an (by kernel_rfl) ?_
            show W _ _ _ _
            refine W_seq ?_
            refine W_seq ?_
            refine W_runX [.c (jB (hasK a.fPairs (ByteArray.extract (s) (Int.toNat (cond (cond (((((byt (s) (Int.toNat (i)) : Nat) : Int) : Int) == 35)) (true) (((((byt (s) (Int.toNat (i)) : Nat) : Int) : Int) == 46))) (i + 1) (i))) (Int.toNat (wordI s (cond (cond (((((byt (s) (Int.toNat (i)) : Nat) : Int) : Int) == 35)) (true) (((((byt (s) (Int.toNat (i)) : Nat) : Int) : Int) == 46))) (i + 1) (i))))))) [] [] []] .normal 111 [(3, (.ptr 3 0)), (6, (.ptr 6 0)), (11, (jS (ByteArray.extract (s) (Int.toNat (cond (cond (((((byt (s) (Int.toNat (i)) : Nat) : Int) : Int) == 35)) (true) (((((byt (s) (Int.toNat (i)) : Nat) : Int) : Int) == 46))) (i + 1) (i))) (Int.toNat (wordI s (cond (cond (((((byt (s) (Int.toNat (i)) : Nat) : Int) : Int) == 35)) (true) (((((byt (s) (Int.toNat (i)) : Nat) : Int) : Int) == 46))) (i + 1) (i))))))), (14, (jS ((vluR s ((wordI s (cond (cond (((((byt (s) (Int.toNat (i)) : Nat) : Int) : Int) == 35)) (true) (((((byt (s) (Int.toNat (i)) : Nat) : Int) : Int) == 46))) (i + 1) (i))) + 1)).1))), (15, (jI ((vluR s ((wordI s (cond (cond (((((byt (s) (Int.toNat (i)) : Nat) : Int) : Int) == 35)) (true) (((((byt (s) (Int.toNat (i)) : Nat) : Int) : Int) == 46))) (i + 1) (i))) + 1)).2.1))), (94, (jB (hasK a.fPairs (ByteArray.extract (s) (Int.toNat (cond (cond (((((byt (s) (Int.toNat (i)) : Nat) : Int) : Int) == 35)) (true) (((((byt (s) (Int.toNat (i)) : Nat) : Int) : Int) == 46))) (i + 1) (i))) (Int.toNat (wordI s (cond (cond (((((byt (s) (Int.toNat (i)) : Nat) : Int) : Int) == 35)) (true) (((((byt (s) (Int.toNat (i)) : Nat) : Int) : Int) == 46))) (i + 1) (i))))))))] [(6, (.cells 38 [(jS (⟨#[]⟩)), .nil, .nil])), (3, (.cells 38 [(jS (a.fID)), (.own (1001, 10) (g1) 1 (a.fClasses.map strAV)), (.own (1002, 44) (g2) 2 (a.fPairs.map aPair))]))] [((1001, 10), g1), ((1002, 44), g2)] (akn 3 (ac (hasK_to a.fPairs (ByteArray.extract (s) (Int.toNat (cond (cond (((((byt (s) (Int.toNat (i)) : Nat) : Int) : Int) == 35)) (true) (((((byt (s) (Int.toNat (i)) : Nat) : Int) : Int) == 46))) (i + 1) (i))) (Int.toNat (wordI s (cond (cond (((((byt (s) (Int.toNat (i)) : Nat) : Int) : Int) == 35)) (true) (((((byt (s) (Int.toNat (i)) : Nat) : Int) : Int) == 46))) (i + 1) (i))))) (by first | assumption | omega | decide | (simp; done) | (simp; omega))) (ak an))) (by kernel_rfl) ?_
            show W _ _ _ _
            rcases Bool.eq_false_or_eq_true (hasK a.fPairs (ByteArray.extract (s) (Int.toNat (cond (cond (((((byt (s) (Int.toNat (i)) : Nat) : Int) : Int) == 35)) (true) (((((byt (s) (Int.toNat (i)) : Nat) : Int) : Int) == 46))) (i + 1) (i))) (Int.toNat (wordI s (cond (cond (((((byt (s) (Int.toNat (i)) : Nat) : Int) : Int) == 35)) (true) (((((byt (s) (Int.toNat (i)) : Nat) : Int) : Int) == 46))) (i + 1) (i)))))) with hb10 | hb10
            · refine W_condT (b := hasK a.fPairs (ByteArray.extract (s) (Int.toNat (cond (cond (((((byt (s) (Int.toNat (i)) : Nat) : Int) : Int) == 35)) (true) (((((byt (s) (Int.toNat (i)) : Nat) : Int) : Int) == 46))) (i + 1) (i))) (Int.toNat (wordI s (cond (cond (((((byt (s) (Int.toNat (i)) : Nat) : Int) : Int) == 35)) (true) (((((byt (s) (Int.toNat (i)) : Nat) : Int) : Int) == 46))) (i + 1) (i)))))) (by kernel_rfl) hb10 ?_
              refine W_runX [] .ret 111 [(6, (.ptr 6 0)), (7, (jI (0))), (8, (jI (7)))] [(6, (.cells 38 [(jS (a.fID)), (.own (1001, 10) (g1) 1 (a.fClasses.map strAV)), (.own (1002, 44) (g2) 2 (a.fPairs.map aPair))]))] [((1001, 10), g1), ((1002, 44), g2)] (akn 4 an) (by kernel_rfl) ?_
              refine skipS ?_ (by simp)
              refine ⟨_, (Ghost.trans ((Ghost.trans (Ghost.refl _) (ghost_bump (1001, 10)))) (ghost_bump (1002, 44))), ?_⟩
              exact endsK (r := (.tp [(.a [(.av (vS (a.fID))), (.own (1001, 10) (g1 + 1) 1 (a.fClasses.map strAV)), (.own (1002, 44) (g2 + 1) 2 (a.fPairs.map aPair))]), (.c (.av (vI (0)))), (.c (.av (vI (7))))])) (by simp) (by kernel_rfl) (by rw [show itemA a s i = (a, 0, 7) from by rw [itemA]; exact (cF hb3).trans ((cF hb4).trans ((cF hb6).trans ((cF hb8).trans ((cF hb9).trans (cT hb10)))))]; first | done | first | rfl | (simp [strAV, vU, aPair_eq, aAttr_eq, aCited_eq, aInline_eq, aBlock_eq, aDoc_eq, aPoint_eq, aRange_eq, cPair, cAttr, cCited, cInline, cBlock, cDoc, cPoint, cRange]; done)) (by simp) (by intro p hp; simp only [List.mem_cons, List.not_mem_nil, or_false] at hp; rcases hp with rfl | rfl <;> rfl)
            · refine W_condF (b := hasK a.fPairs (ByteArray.extract (s) (Int.toNat (cond (cond (((((byt (s) (Int.toNat (i)) : Nat) : Int) : Int) == 35)) (true) (((((byt (s) (Int.toNat (i)) : Nat) : Int) : Int) == 46))) (i + 1) (i))) (Int.toNat (wordI s (cond (cond (((((byt (s) (Int.toNat (i)) : Nat) : Int) : Int) == 35)) (true) (((((byt (s) (Int.toNat (i)) : Nat) : Int) : Int) == 46))) (i + 1) (i)))))) (by kernel_rfl) hb10 ?_
              refine W_runX [] .normal 111 [(3, (.ptr 3 0)), (6, (.ptr 6 0)), (11, (jS (ByteArray.extract (s) (Int.toNat (cond (cond (((((byt (s) (Int.toNat (i)) : Nat) : Int) : Int) == 35)) (true) (((((byt (s) (Int.toNat (i)) : Nat) : Int) : Int) == 46))) (i + 1) (i))) (Int.toNat (wordI s (cond (cond (((((byt (s) (Int.toNat (i)) : Nat) : Int) : Int) == 35)) (true) (((((byt (s) (Int.toNat (i)) : Nat) : Int) : Int) == 46))) (i + 1) (i))))))), (14, (jS ((vluR s ((wordI s (cond (cond (((((byt (s) (Int.toNat (i)) : Nat) : Int) : Int) == 35)) (true) (((((byt (s) (Int.toNat (i)) : Nat) : Int) : Int) == 46))) (i + 1) (i))) + 1)).1))), (15, (jI ((vluR s ((wordI s (cond (cond (((((byt (s) (Int.toNat (i)) : Nat) : Int) : Int) == 35)) (true) (((((byt (s) (Int.toNat (i)) : Nat) : Int) : Int) == 46))) (i + 1) (i))) + 1)).2.1)))] [(6, (.cells 38 [(jS (⟨#[]⟩)), .nil, .nil])), (3, (.cells 38 [(jS (a.fID)), (.own (1001, 10) (g1) 1 (a.fClasses.map strAV)), (.own (1002, 44) (g2) 2 (a.fPairs.map aPair))]))] [((1001, 10), g1), ((1002, 44), g2)] an (by kernel_rfl) ?_
              show W _ _ _ _
              refine W_seq ?_
              refine W_seq ?_
              refine W_runX [] .normal 111 [(3, (.ptr 3 0)), (6, (.ptr 6 0)), (11, (jS (ByteArray.extract (s) (Int.toNat (cond (cond (((((byt (s) (Int.toNat (i)) : Nat) : Int) : Int) == 35)) (true) (((((byt (s) (Int.toNat (i)) : Nat) : Int) : Int) == 46))) (i + 1) (i))) (Int.toNat (wordI s (cond (cond (((((byt (s) (Int.toNat (i)) : Nat) : Int) : Int) == 35)) (true) (((((byt (s) (Int.toNat (i)) : Nat) : Int) : Int) == 46))) (i + 1) (i))))))), (14, (jS ((vluR s ((wordI s (cond (cond (((((byt (s) (Int.toNat (i)) : Nat) : Int) : Int) == 35)) (true) (((((byt (s) (Int.toNat (i)) : Nat) : Int) : Int) == 46))) (i + 1) (i))) + 1)).1))), (15, (jI ((vluR s ((wordI s (cond (cond (((((byt (s) (Int.toNat (i)) : Nat) : Int) : Int) == 35)) (true) (((((byt (s) (Int.toNat (i)) : Nat) : Int) : Int) == 46))) (i + 1) (i))) + 1)).2.1))), (99, (jB (decide ((((lenM aPair a.fPairs : Nat) : Int) : Int) ≥ 32))))] [(6, (.cells 38 [(jS (⟨#[]⟩)), .nil, .nil])), (3, (.cells 38 [(jS (a.fID)), (.own (1001, 10) (g1) 1 (a.fClasses.map strAV)), (.own (1002, 44) (g2) 2 (a.fPairs.map aPair))]))] [((1001, 10), g1), ((1002, 44), g2)] (akn 4 an) (by kernel_rfl) ?_
              show W _ _ _ _
              rcases Bool.eq_false_or_eq_true (decide ((((lenM aPair a.fPairs : Nat) : Int) : Int) ≥ 32)) with hb11 | hb11
              · refine W_condT (b := decide ((((lenM aPair a.fPairs : Nat) : Int) : Int) ≥ 32)) (by kernel_rfl) hb11 ?_
                have hb11p := of_decide_eq_true hb11
                simp only [lenM_eq] at hb11p
                have hb11m : (decide ((((List.length a.fPairs : Nat) : Int) : Int) ≥ 32)) = true := by simpa only [lenM_eq] using hb11
                refine W_runX [] .ret 111 [(6, (.ptr 6 0)), (7, (jI (0))), (8, (jI (3)))] [(6, (.cells 38 [(jS (a.fID)), (.own (1001, 10) (g1) 1 (a.fClasses.map strAV)), (.own (1002, 44) (g2) 2 (a.fPairs.map aPair))]))] [((1001, 10), g1), ((1002, 44), g2)] (akn 4 an) (by kernel_rfl) ?_
                refine skipS ?_ (by simp)
                refine ⟨_, (Ghost.trans ((Ghost.trans (Ghost.refl _) (ghost_bump (1001, 10)))) (ghost_bump (1002, 44))), ?_⟩
                exact endsK (r := (.tp [(.a [(.av (vS (a.fID))), (.own (1001, 10) (g1 + 1) 1 (a.fClasses.map strAV)), (.own (1002, 44) (g2 + 1) 2 (a.fPairs.map aPair))]), (.c (.av (vI (0)))), (.c (.av (vI (3))))])) (by simp) (by kernel_rfl) (by rw [show itemA a s i = (a, 0, 3) from by rw [itemA]; exact (cF hb3).trans ((cF hb4).trans ((cF hb6).trans ((cF hb8).trans ((cF hb9).trans ((cF hb10).trans (cT hb11m))))))]; first | done | first | rfl | (simp [strAV, vU, aPair_eq, aAttr_eq, aCited_eq, aInline_eq, aBlock_eq, aDoc_eq, aPoint_eq, aRange_eq, cPair, cAttr, cCited, cInline, cBlock, cDoc, cPoint, cRange]; done)) (by simp) (by intro p hp; simp only [List.mem_cons, List.not_mem_nil, or_false] at hp; rcases hp with rfl | rfl <;> rfl)
              · refine W_condF (b := decide ((((lenM aPair a.fPairs : Nat) : Int) : Int) ≥ 32)) (by kernel_rfl) hb11 ?_
                have hb11p := of_decide_eq_false hb11
                simp only [lenM_eq] at hb11p
                have hb11m : (decide ((((List.length a.fPairs : Nat) : Int) : Int) ≥ 32)) = false := by simpa only [lenM_eq] using hb11
                refine W_runX [] .normal 111 [(3, (.ptr 3 0)), (6, (.ptr 6 0)), (11, (jS (ByteArray.extract (s) (Int.toNat (cond (cond (((((byt (s) (Int.toNat (i)) : Nat) : Int) : Int) == 35)) (true) (((((byt (s) (Int.toNat (i)) : Nat) : Int) : Int) == 46))) (i + 1) (i))) (Int.toNat (wordI s (cond (cond (((((byt (s) (Int.toNat (i)) : Nat) : Int) : Int) == 35)) (true) (((((byt (s) (Int.toNat (i)) : Nat) : Int) : Int) == 46))) (i + 1) (i))))))), (14, (jS ((vluR s ((wordI s (cond (cond (((((byt (s) (Int.toNat (i)) : Nat) : Int) : Int) == 35)) (true) (((((byt (s) (Int.toNat (i)) : Nat) : Int) : Int) == 46))) (i + 1) (i))) + 1)).1))), (15, (jI ((vluR s ((wordI s (cond (cond (((((byt (s) (Int.toNat (i)) : Nat) : Int) : Int) == 35)) (true) (((((byt (s) (Int.toNat (i)) : Nat) : Int) : Int) == 46))) (i + 1) (i))) + 1)).2.1)))] [(6, (.cells 38 [(jS (⟨#[]⟩)), .nil, .nil])), (3, (.cells 38 [(jS (a.fID)), (.own (1001, 10) (g1) 1 (a.fClasses.map strAV)), (.own (1002, 44) (g2) 2 (a.fPairs.map aPair))]))] [((1001, 10), g1), ((1002, 44), g2)] an (by kernel_rfl) ?_
                show W _ _ _ _
                refine W_runX [] .ret 111 [(6, (.ptr 6 0)), (7, (jI ((vluR s ((wordI s (cond (cond (((((byt (s) (Int.toNat (i)) : Nat) : Int) : Int) == 35)) (true) (((((byt (s) (Int.toNat (i)) : Nat) : Int) : Int) == 46))) (i + 1) (i))) + 1)).2.1))), (8, (jI (0)))] [(6, (.cells 38 [(jS (a.fID)), (.own (1001, 10) (g1) 1 (a.fClasses.map strAV)), (.own (1002, 44) (g2 + 1) 2 ((a.fPairs.map aPair) ++ [(.agg [(vS (ByteArray.extract (s) (Int.toNat (cond (cond (((((byt (s) (Int.toNat (i)) : Nat) : Int) : Int) == 35)) (true) (((((byt (s) (Int.toNat (i)) : Nat) : Int) : Int) == 46))) (i + 1) (i))) (Int.toNat (wordI s (cond (cond (((((byt (s) (Int.toNat (i)) : Nat) : Int) : Int) == 35)) (true) (((((byt (s) (Int.toNat (i)) : Nat) : Int) : Int) == 46))) (i + 1) (i)))))), (vS ((vluR s ((wordI s (cond (cond (((((byt (s) (Int.toNat (i)) : Nat) : Int) : Int) == 35)) (true) (((((byt (s) (Int.toNat (i)) : Nat) : Int) : Int) == 46))) (i + 1) (i))) + 1)).1))])]))]))] [((1002, 44), g2 + 1), ((1001, 10), g1)] (akn 5 (ac (show Uni 2 [(.agg [(vS (ByteArray.extract (s) (Int.toNat (cond (cond (((((byt (s) (Int.toNat (i)) : Nat) : Int) : Int) == 35)) (true) (((((byt (s) (Int.toNat (i)) : Nat) : Int) : Int) == 46))) (i + 1) (i))) (Int.toNat (wordI s (cond (cond (((((byt (s) (Int.toNat (i)) : Nat) : Int) : Int) == 35)) (true) (((((byt (s) (Int.toNat (i)) : Nat) : Int) : Int) == 46))) (i + 1) (i)))))), (vS ((vluR s ((wordI s (cond (cond (((((byt (s) (Int.toNat (i)) : Nat) : Int) : Int) == 35)) (true) (((((byt (s) (Int.toNat (i)) : Nat) : Int) : Int) == 46))) (i + 1) (i))) + 1)).1))])] from (uni_one rfl rfl)) (ac (show (g2 : Nat) = g2 ∧ Uni 2 [(.agg [(vS (ByteArray.extract (s) (Int.toNat (cond (cond (((((byt (s) (Int.toNat (i)) : Nat) : Int) : Int) == 35)) (true) (((((byt (s) (Int.toNat (i)) : Nat) : Int) : Int) == 46))) (i + 1) (i))) (Int.toNat (wordI s (cond (cond (((((byt (s) (Int.toNat (i)) : Nat) : Int) : Int) == 35)) (true) (((((byt (s) (Int.toNat (i)) : Nat) : Int) : Int) == 46))) (i + 1) (i)))))), (vS ((vluR s ((wordI s (cond (cond (((((byt (s) (Int.toNat (i)) : Nat) : Int) : Int) == 35)) (true) (((((byt (s) (Int.toNat (i)) : Nat) : Int) : Int) == 46))) (i + 1) (i))) + 1)).1))])] ∧ (((a.fPairs.map aPair) : List AV).length + ([(.agg [(vS (ByteArray.extract (s) (Int.toNat (cond (cond (((((byt (s) (Int.toNat (i)) : Nat) : Int) : Int) == 35)) (true) (((((byt (s) (Int.toNat (i)) : Nat) : Int) : Int) == 46))) (i + 1) (i))) (Int.toNat (wordI s (cond (cond (((((byt (s) (Int.toNat (i)) : Nat) : Int) : Int) == 35)) (true) (((((byt (s) (Int.toNat (i)) : Nat) : Int) : Int) == 46))) (i + 1) (i)))))), (vS ((vluR s ((wordI s (cond (cond (((((byt (s) (Int.toNat (i)) : Nat) : Int) : Int) == 35)) (true) (((((byt (s) (Int.toNat (i)) : Nat) : Int) : Int) == 46))) (i + 1) (i))) + 1)).1))])] : List AV).length) * 32 ≤ 140737488355328 from ⟨rfl, uni_one rfl rfl, by first | omega | (simp; done) | (simp; omega)⟩) (akn 7 an)))) (by kernel_rfl) ?_
                refine ⟨_, (Ghost.trans (Ghost.refl _) (ghost_bump (1001, 10))), ?_⟩
                exact endsK (r := (.tp [(.a [(.av (vS (a.fID))), (.own (1001, 10) (g1 + 1) 1 (a.fClasses.map strAV)), (.own (1002, 44) (g2 + 1) 2 ((a.fPairs.map aPair) ++ [(.agg [(vS (ByteArray.extract (s) (Int.toNat (cond (cond (((((byt (s) (Int.toNat (i)) : Nat) : Int) : Int) == 35)) (true) (((((byt (s) (Int.toNat (i)) : Nat) : Int) : Int) == 46))) (i + 1) (i))) (Int.toNat (wordI s (cond (cond (((((byt (s) (Int.toNat (i)) : Nat) : Int) : Int) == 35)) (true) (((((byt (s) (Int.toNat (i)) : Nat) : Int) : Int) == 46))) (i + 1) (i)))))), (vS ((vluR s ((wordI s (cond (cond (((((byt (s) (Int.toNat (i)) : Nat) : Int) : Int) == 35)) (true) (((((byt (s) (Int.toNat (i)) : Nat) : Int) : Int) == 46))) (i + 1) (i))) + 1)).1))])]))]), (.c (.av (vI ((vluR s ((wordI s (cond (cond (((((byt (s) (Int.toNat (i)) : Nat) : Int) : Int) == 35)) (true) (((((byt (s) (Int.toNat (i)) : Nat) : Int) : Int) == 46))) (i + 1) (i))) + 1)).2.1)))), (.c (.av (vI (0))))])) (by simp) (by kernel_rfl) (by rw [show itemA a s i = (DAttr.mk a.fID a.fClasses (a.fPairs ++ ([DPair.mk (ByteArray.extract (s) (Int.toNat (cond (cond (((((byt (s) (Int.toNat (i)) : Nat) : Int) : Int) == 35)) (true) (((((byt (s) (Int.toNat (i)) : Nat) : Int) : Int) == 46))) (i + 1) (i))) (Int.toNat (wordI s (cond (cond (((((byt (s) (Int.toNat (i)) : Nat) : Int) : Int) == 35)) (true) (((((byt (s) (Int.toNat (i)) : Nat) : Int) : Int) == 46))) (i + 1) (i))))) ((vluR s ((wordI s (cond (cond (((((byt (s) (Int.toNat (i)) : Nat) : Int) : Int) == 35)) (true) (((((byt (s) (Int.toNat (i)) : Nat) : Int) : Int) == 46))) (i + 1) (i))) + 1)).1)])), (vluR s ((wordI s (cond (cond (((((byt (s) (Int.toNat (i)) : Nat) : Int) : Int) == 35)) (true) (((((byt (s) (Int.toNat (i)) : Nat) : Int) : Int) == 46))) (i + 1) (i))) + 1)).2.1, 0) from by rw [itemA]; exact (cF hb3).trans ((cF hb4).trans ((cF hb6).trans ((cF hb8).trans ((cF hb9).trans ((cF hb10).trans (cF hb11m))))))]; first | done | first | rfl | (simp [strAV, vU, aPair_eq, aAttr_eq, aCited_eq, aInline_eq, aBlock_eq, aDoc_eq, aPoint_eq, aRange_eq, cPair, cAttr, cCited, cInline, cBlock, cDoc, cPoint, cRange]; done)) (by simp) (by intro p hp; simp only [List.mem_cons, List.not_mem_nil, or_false] at hp; rcases hp with rfl | rfl <;> rfl)
end Go.Proofs.YtdaglbjgdakmcaaGreat
namespace Go.Proofs.YtdaglbjgdakmcaaGreat
open Go Go.Eng
def itmQ (s : ByteArray) (r : DAttr × Int × Int) : Prop := r.1.fClasses.length ≤ 32 ∧ r.1.fPairs.length ≤ 32 ∧ 0 ≤ r.2.1 ∧ r.2.1 ≤ s.size + 1
theorem itemA_bd (a : DAttr) (s : ByteArray) (i : Int) (h0 : 0 ≤ i) (h1 : i < s.size) (ha : a.fClasses.length ≤ 32) (hp : a.fPairs.length ≤ 32) : (itemA a s i).1.fClasses.length ≤ 32 ∧ (itemA a s i).1.fPairs.length ≤ 32 ∧ 0 ≤ (itemA a s i).2.1 ∧ (itemA a s i).2.1 ≤ s.size + 1 := by
  have hc := cond_or (cond (((byt s i.toNat : Nat) : Int) == 35) true (((byt s i.toNat : Nat) : Int) == 46)) (i + 1) i
  have hw := wordI_bd s (cond (cond (((byt s i.toNat : Nat) : Int) == 35) true (((byt s i.toNat : Nat) : Int) == 46)) (i + 1) i) (by omega)
  show itmQ s (itemA a s i)
  have er : ∀ e : Int, itmQ s (a, 0, e) := fun e => ⟨ha, hp, Int.le_refl 0, (show (0 : Int) ≤ s.size + 1 by omega)⟩
  unfold itemA
  refine condP (itmQ s) (fun _ => er _) (fun _ => condP (itmQ s) (fun _ => condP (itmQ s) (fun _ => er _) (fun _ => ⟨ha, hp, by simp only; omega, by simp only; omega⟩)) (fun _ => condP (itmQ s) (fun _ => ?_) (fun _ => condP (itmQ s) (fun _ => er _) (fun k => condP (itmQ s) (fun _ => er _) (fun _ => condP (itmQ s) (fun _ => er _) (fun _ => condP (itmQ s) (fun _ => er _) (fun k2 => ?_)))))))
  · have hcl := clsA_bd a (s.extract (cond (cond (((byt s i.toNat : Nat) : Int) == 35) true (((byt s i.toNat : Nat) : Int) == 46)) (i + 1) i).toNat (wordI s (cond (cond (((byt s i.toNat : Nat) : Int) == 35) true (((byt s i.toNat : Nat) : Int) == 46)) (i + 1) i)).toNat) ha
    exact ⟨hcl.1, by rw [hcl.2]; exact hp, by simp only; omega, by simp only; omega⟩
  · have hv := vluR_bd s (wordI s (cond (cond (((byt s i.toNat : Nat) : Int) == 35) true (((byt s i.toNat : Nat) : Int) == 46)) (i + 1) i) + 1) (by omega) (by have := of_decide_eq_false (cond_tt k).1; omega)
    have k3 := of_decide_eq_false k2
    exact ⟨ha, by simp; omega, hv.1, hv.2.1⟩
def parR_L1 (s : ByteArray) (i : Int) (v8 : Int) (v9 : Nat) (vb7_0 : ByteArray) (vb7_1 : List ByteArray) (vb7_2 : List DPair) (k0 : Int → Nat → ByteArray → (List ByteArray) → (List DPair) → (DAttr × Int × Int)) : Nat → Int → (DAttr × Int × Int)
  | 0, _ => default
  | n1 + 1, w10 => cond (cond (decide ((w10 : Int) < ((ByteArray.size (s) : Nat) : Int))) (((((byt (s) (Int.toNat (w10)) : Nat) : Int) : Int) == 32)) (false)) (parR_L1 s i v8 v9 vb7_0 vb7_1 vb7_2 k0 n1 (w10 + 1)) (cond (cond (decide ((w10 : Int) < ((ByteArray.size (s) : Nat) : Int))) (((((byt (s) (Int.toNat (w10)) : Nat) : Int) : Int) == 125)) (false)) ((DAttr.mk vb7_0 vb7_1 vb7_2, w10 + 1, 0)) (cond (cond (decide ((w10 : Int) ≥ ((ByteArray.size (s) : Nat) : Int))) (true) (cond (decide ((((v9 : Nat) : Int) : Int) > 0)) (((w10 : Int) == v8)) (false))) ((DAttr.mk (⟨#[]⟩) ([]) ([]), 0, 5)) (cond ((((itemA (DAttr.mk vb7_0 vb7_1 vb7_2) s w10).2.2 : Int) != 0)) ((DAttr.mk (⟨#[]⟩) ([]) ([]), 0, (itemA (DAttr.mk vb7_0 vb7_1 vb7_2) s w10).2.2)) (k0 ((itemA (DAttr.mk vb7_0 vb7_1 vb7_2) s w10).2.1) (v9 + 1) (((itemA (DAttr.mk vb7_0 vb7_1 vb7_2) s w10).1).fID) (((itemA (DAttr.mk vb7_0 vb7_1 vb7_2) s w10).1).fClasses) (((itemA (DAttr.mk vb7_0 vb7_1 vb7_2) s w10).1).fPairs)))))
def parR_L0 (s : ByteArray) (i : Int) : Nat → Int → Nat → ByteArray → (List ByteArray) → (List DPair) → (DAttr × Int × Int)
  | 0, _, _, _, _, _ => default
  | n0 + 1, v8, v9, vb7_0, vb7_1, vb7_2 => cond (decide ((((v9 : Nat) : Int) : Int) ≤ ((ByteArray.size (s) : Nat) : Int))) (parR_L1 s i v8 v9 vb7_0 vb7_1 vb7_2 (parR_L0 s i n0) ((s.size - Int.toNat (v8)) + 1) v8) ((DAttr.mk (⟨#[]⟩) ([]) ([]), 0, 5))
def parR (s : ByteArray) (i : Int) : (DAttr × Int × Int) := cond (cond (cond (decide ((i : Int) < 0)) (true) (decide ((i : Int) ≥ ((ByteArray.size (s) : Nat) : Int)))) (true) (((((byt (s) (Int.toNat (i)) : Nat) : Int) : Int) != 123))) ((DAttr.mk (⟨#[]⟩) ([]) ([]), 0, 5)) (parR_L0 s i ((s.size + 1 - (0)) + 1) (i + 1) 0 (⟨#[]⟩) ([]) ([]))
set_option maxRecDepth 100000 in
set_option maxHeartbeats 4000000 in
theorem parR_to (s : ByteArray) (i : Int) (hs : s.size ≤ 1073741824) : CallTo Tryz.prog 115 [(jS (s)), (jI (i))] [] [] (.av (.tup [(cAttr ((parR s i).1)), (vI ((parR s i).2.1)), (vI ((parR s i).2.2))])) [] [] := by
  refine CallTo_of_body (n := 92) Tryz.func115 rfl (by kernel_rfl) Tryz.ntmps115 (by simp) (by simp) (by simp) (by simp [OkSV, SV.keys, ABox.svs, PV.keys]) (by simp) (by simp [OkSV, SV.keys, ABox.svs, PV.keys]) (by simp) rfl rfl ?_
  refine W_eq (sx 92 [(0, (jS (s))), (1, (jI (i)))] [] []) (by kernel_rfl) ?_
  refine W_seq ?_
  refine W_runX [] .normal 92 [(0, (jS (s))), (1, (jI (i))), (4, (.ptr 4 0))] [(4, (.cells 38 [(jS (⟨#[]⟩)), .nil, .nil]))] [] (akn 3 an) (by kernel_rfl) ?_
  show W _ _ _ _
  refine W_seq ?_
  refine W_seq ?_
  refine W_regionO ?_
  refine WO_split 8 (S' := (sx 92 [(0, (jS (s))), (1, (jI (i))), (4, (.ptr 4 0)), (21, (jB (cond (decide ((i : Int) < 0)) (true) (decide ((i : Int) ≥ ((ByteArray.size (s) : Nat) : Int))))))] [(4, (.cells 38 [(jS (⟨#[]⟩)), .nil, .nil]))] [])) ?_ ?_
  · rcases Bool.eq_false_or_eq_true (decide ((i : Int) < 0)) with hb1 | hb1
    · have hb1p := of_decide_eq_true hb1
      refine WO_runX (rp 5 oT []) 92 [(0, (jS (s))), (1, (jI (i))), (4, (.ptr 4 0)), (21, (jB (true)))] [(4, (.cells 38 [(jS (⟨#[]⟩)), .nil, .nil]))] [] (akn 3 (acn 5 hb1 an)) (by kernel_rfl) ?_
      exact (weak_sx (show WkX _ _ _ from ⟨rfl, rfl, rfl, (show ((jB (true)) : SV) = (jB (cond (decide ((i : Int) < 0)) (true) (decide ((i : Int) ≥ ((ByteArray.size (s) : Nat) : Int))))) from by rw [hb1, cond_true]), trivial⟩) (show WkBx _ _ from ⟨⟨rfl, ⟨rfl, rfl, rfl, trivial⟩⟩, trivial⟩) (show WkG _ _ _ from trivial))
    · have hb1p := of_decide_eq_false hb1
      refine WO_runX (rp 5 oF []) 92 [(0, (jS (s))), (1, (jI (i))), (4, (.ptr 4 0)), (21, (jB (decide ((i : Int) ≥ ((ByteArray.size (s) : Nat) : Int)))))] [(4, (.cells 38 [(jS (⟨#[]⟩)), .nil, .nil]))] [] (akn 3 (apn 4 hb1 (ac hb1 an))) (by kernel_rfl) ?_
      exact (weak_sx (show WkX _ _ _ from ⟨rfl, rfl, rfl, (show ((jB (decide ((i : Int) ≥ ((ByteArray.size (s) : Nat) : Int)))) : SV) = (jB (cond (decide ((i : Int) < 0)) (true) (decide ((i : Int) ≥ ((ByteArray.size (s) : Nat) : Int))))) from by rw [hb1, cond_false]), trivial⟩) (show WkBx _ _ from ⟨⟨rfl, ⟨rfl, rfl, rfl, trivial⟩⟩, trivial⟩) (show WkG _ _ _ from trivial))
  refine WO_split 6 (S' := (sx 92 [(0, (jS (s))), (1, (jI (i))), (4, (.ptr 4 0)), (27, (jB (cond (cond (decide ((i : Int) < 0)) (true) (decide ((i : Int) ≥ ((ByteArray.size (s) : Nat) : Int)))) (true) (((((byt (s) (Int.toNat (i)) : Nat) : Int) : Int) != 123)))))] [(4, (.cells 38 [(jS (⟨#[]⟩)), .nil, .nil]))] [])) ?_ ?_
  · rcases Bool.eq_false_or_eq_true (cond (decide ((i : Int) < 0)) (true) (decide ((i : Int) ≥ ((ByteArray.size (s) : Nat) : Int)))) with hb2 | hb2
    · refine WO_runX (rp 5 oT []) 92 [(0, (jS (s))), (1, (jI (i))), (4, (.ptr 4 0)), (27, (jB (true)))] [(4, (.cells 38 [(jS (⟨#[]⟩)), .nil, .nil]))] [] (ak (acn 5 hb2 an)) (by kernel_rfl) ?_
      exact (weak_sx (show WkX _ _ _ from ⟨rfl, rfl, rfl, (show ((jB (true)) : SV) = (jB (cond (cond (decide ((i : Int) < 0)) (true) (decide ((i : Int) ≥ ((ByteArray.size (s) : Nat) : Int)))) (true) (((((byt (s) (Int.toNat (i)) : Nat) : Int) : Int) != 123)))) from by rw [hb2, cond_true]), trivial⟩) (show WkBx _ _ from ⟨⟨rfl, ⟨rfl, rfl, rfl, trivial⟩⟩, trivial⟩) (show WkG _ _ _ from trivial))
    · obtain ⟨hb2a, hb2o⟩ := cond_tt hb2
      have hb2ap := of_decide_eq_false hb2a
      have hb2op := of_decide_eq_false hb2o
      refine WO_runX (rp 5 oF []) 92 [(0, (jS (s))), (1, (jI (i))), (4, (.ptr 4 0)), (27, (jB (((((byt (s) (Int.toNat (i)) : Nat) : Int) : Int) != 123))))] [(4, (.cells 38 [(jS (⟨#[]⟩)), .nil, .nil]))] [] (ak (apn 2 hb2 (ac hb2 (ac (show 0 ≤ (i : Int) ∧ (i : Int) < ((ByteArray.size (s) : Nat) : Int) from (by first | omega | (simp only [lenM_eq, true_and]; omega))) (ac hb2 (ak (ac hb2 an))))))) (by kernel_rfl) ?_
      exact (weak_sx (show WkX _ _ _ from ⟨rfl, rfl, rfl, (show ((jB (((((byt (s) (Int.toNat (i)) : Nat) : Int) : Int) != 123))) : SV) = (jB (cond (cond (decide ((i : Int) < 0)) (true) (decide ((i : Int) ≥ ((ByteArray.size (s) : Nat) : Int)))) (true) (((((byt (s) (Int.toNat (i)) : Nat) : Int) : Int) != 123)))) from by rw [hb2, cond_false]), trivial⟩) (show WkBx _ _ from ⟨⟨rfl, ⟨rfl, rfl, rfl, trivial⟩⟩, trivial⟩) (show WkG _ _ _ from trivial))
  refine WO_nil (by kernel_rfl) ?_
  show W _ _ _ _
  rcases Bool.eq_false_or_eq_true (cond (cond (decide ((i : Int) < 0)) (true) (decide ((i : Int) ≥ ((ByteArray.size (s) : Nat) : Int)))) (true) (((((byt (s) (Int.toNat (i)) : Nat) : Int) : Int) != 123))) with hb3 | hb3
  · refine W_condT (b := cond (cond (decide ((i : Int) < 0)) (true) (decide ((i : Int) ≥ ((ByteArray.size (s) : Nat) : Int)))) (true) (((((byt (s) (Int.toNat (i)) : Nat) : Int) : Int) != 123))) (by kernel_rfl) hb3 ?_
    refine W_runX [] .ret 92 [(4, (.ptr 4 0)), (5, (jI (0))), (6, (jI (5)))] [(4, (.cells 38 [(jS (⟨#[]⟩)), .nil, .nil]))] [] (akn 4 an) (by kernel_rfl) ?_
    refine skipS ?_ (by simp)
    exact ends (r := (.av (.tup [(.agg [(vS (⟨#[]⟩)), (.sl []), (.sl [])]), (vI (0)), (vI (5))]))) (by simp) (by kernel_rfl) (by rw [show parR s i = (DAttr.mk (⟨#[]⟩) ([]) ([]), 0, 5) from by rw [parR]; exact (cT hb3)]; first | done | first | rfl | (simp [strAV, vU, aPair_eq, aAttr_eq, aCited_eq, aInline_eq, aBlock_eq, aDoc_eq, aPoint_eq, aRange_eq, cPair, cAttr, cCited, cInline, cBlock, cDoc, cPoint, cRange]; done)) (by simp) (by simp)
  · refine W_condF (b := cond (cond (decide ((i : Int) < 0)) (true) (decide ((i : Int) ≥ ((ByteArray.size (s) : Nat) : Int)))) (true) (((((byt (s) (Int.toNat (i)) : Nat) : Int) : Int) != 123))) (by kernel_rfl) hb3 ?_
    obtain ⟨hb3a, hb3o⟩ := cond_tt hb3
    obtain ⟨hb3aa, hb3ao⟩ := cond_tt hb3a
    have hb3aap := of_decide_eq_false hb3aa
    have hb3aop := of_decide_eq_false hb3ao
    have hb3op := eq_of_bne_false hb3o
    refine W_runX [] .normal 92 [(0, (jS (s))), (1, (jI (i))), (4, (.ptr 4 0))] [(4, (.cells 38 [(jS (⟨#[]⟩)), .nil, .nil]))] [] an (by kernel_rfl) ?_
    show W _ _ _ _
    refine W_seq ?_
    refine W_runX [] .normal 92 [(0, (jS (s))), (1, (jI (i))), (4, (.ptr 4 0)), (7, (.ptr 7 0))] [(7, (.cells 38 [(jS (⟨#[]⟩)), .nil, .nil])), (4, (.cells 38 [(jS (⟨#[]⟩)), .nil, .nil]))] [] (ak an) (by kernel_rfl) ?_
    show W _ _ _ _
    refine W_seq ?_
    refine W_runX [.n (i + 1)] .normal 92 [(0, (jS (s))), (4, (.ptr 4 0)), (7, (.ptr 7 0)), (8, (jI (i + 1)))] [(7, (.cells 38 [(jS (⟨#[]⟩)), .nil, .nil])), (4, (.cells 38 [(jS (⟨#[]⟩)), .nil, .nil]))] [] (ak (ac (wrE ((i) + 1) (i + 1) (by first | omega | (simp only [lenM_eq, true_and]; omega))) (ak an))) (by kernel_rfl) ?_
    show W _ _ _ _
    refine W_seq ?_
    refine W_seq ?_
    refine W_runX [] .normal 92 [(0, (jS (s))), (4, (.ptr 4 0)), (7, (.ptr 7 0)), (8, (jI (i + 1))), (9, (jI (0)))] [(7, (.cells 38 [(jS (⟨#[]⟩)), .nil, .nil])), (4, (.cells 38 [(jS (⟨#[]⟩)), .nil, .nil]))] [] (ak an) (by kernel_rfl) ?_
    show W _ _ _ _
    refine W_block ?_
    refine W_loop (I := fun N S => ∃ n0 : Nat, ∃ v8 : Int, ∃ v9 : Nat, ∃ vb7_0 : ByteArray, ∃ gvb7_1 : Nat, ∃ vb7_1 : List ByteArray, ∃ gvb7_2 : Nat, ∃ vb7_2 : List DPair, (s.size + 1 - v9 < n0) ∧ (0 ≤ v8) ∧ (v8 ≤ s.size + 2) ∧ (vb7_1.length ≤ 32) ∧ (vb7_2.length ≤ 32) ∧ (parR_L0 s i (n0) v8 v9 vb7_0 vb7_1 vb7_2 = parR s i) ∧ N = n0 ∧ S = (sx 92 [(0, (jS (s))), (4, (.ptr 4 0)), (7, (.ptr 7 0)), (8, (jI (v8))), (9, (jI (((v9 : Nat) : Int))))] [(7, (.cells 38 [(jS (vb7_0)), (.own (1001, 10) (gvb7_1) 1 (vb7_1.map strAV)), (.own (1002, 44) (gvb7_2) 2 (vb7_2.map aPair))])), (4, (.cells 38 [(jS (⟨#[]⟩)), .nil, .nil]))] [((1001, 10), gvb7_1), ((1002, 44), gvb7_2)])) (n := (s.size + 1 - (0)) + 1) (S0 := (sx 92 [(0, (jS (s))), (4, (.ptr 4 0)), (7, (.ptr 7 0)), (8, (jI ((i + 1)))), (9, (jI ((((0) : Nat) : Int))))] [(7, (.cells 38 [(jS ((⟨#[]⟩))), (.own (1001, 10) ((0)) 1 (([]).map strAV)), (.own (1002, 44) ((0)) 2 (([]).map aPair))])), (4, (.cells 38 [(jS (⟨#[]⟩)), .nil, .nil]))] [((1001, 10), (0)), ((1002, 44), (0))])) (weak_sx (show WkX _ _ _ from ⟨rfl, rfl, rfl, (by first | rfl | (congr 3; omega) | (simp [strAV, vU, aPair_eq, aAttr_eq, aCited_eq, aInline_eq, aBlock_eq, aDoc_eq, aPoint_eq, aRange_eq, cPair, cAttr, cCited, cInline, cBlock, cDoc, cPoint, cRange]; done)), (by first | rfl | (congr 3; omega) | (simp [strAV, vU, aPair_eq, aAttr_eq, aCited_eq, aInline_eq, aBlock_eq, aDoc_eq, aPoint_eq, aRange_eq, cPair, cAttr, cCited, cInline, cBlock, cDoc, cPoint, cRange]; done)), trivial⟩) (show WkBx _ _ from ⟨⟨rfl, ⟨(by first | rfl | (congr 3; omega) | (simp [strAV, vU, aPair_eq, aAttr_eq, aCited_eq, aInline_eq, aBlock_eq, aDoc_eq, aPoint_eq, aRange_eq, cPair, cAttr, cCited, cInline, cBlock, cDoc, cPoint, cRange]; done)), ⟨rfl, by decide, rfl⟩, ⟨rfl, by decide, rfl⟩, trivial⟩⟩, ⟨rfl, ⟨rfl, rfl, rfl, trivial⟩⟩, trivial⟩) (show WkG _ _ _ from ⟨(by first | rfl | omega | (simp; done) | (simp; omega)), (by first | rfl | omega | (simp; done) | (simp; omega)), trivial⟩)) ⟨(s.size + 1 - (0)) + 1, i + 1, 0, ⟨#[]⟩, 0, [], 0, [], Nat.lt_succ_self _, by first | omega | assumption | (simp only [lenM_eq]; omega) | (simp; done) | (simp; omega), by first | omega | assumption | (simp only [lenM_eq]; omega) | (simp; done) | (simp; omega), by first | omega | assumption | (simp only [lenM_eq]; omega) | (simp; done) | (simp; omega), by first | omega | assumption | (simp only [lenM_eq]; omega) | (simp; done) | (simp; omega), by rw [parR]; exact ((cF hb3)).symm, rfl, rfl⟩ ?_
    rintro N S ⟨n0, v8, v9, vb7_0, gvb7_1, vb7_1, gvb7_2, vb7_2, hF0, hv, hv2, hl1, hl2, hE0, hN0, rfl⟩
    obtain ⟨n0, rfl⟩ : ∃ k, n0 = k + 1 := ⟨n0 - 1, by omega⟩
    refine W_seq ?_
    refine W_seq ?_
    refine W_runX [] .normal 92 [(0, (jS (s))), (4, (.ptr 4 0)), (7, (.ptr 7 0)), (8, (jI (v8))), (9, (jI (((v9 : Nat) : Int)))), (34, (jB (decide ((((v9 : Nat) : Int) : Int) ≤ ((ByteArray.size (s) : Nat) : Int)))))] [(7, (.cells 38 [(jS (vb7_0)), (.own (1001, 10) (gvb7_1) 1 (vb7_1.map strAV)), (.own (1002, 44) (gvb7_2) 2 (vb7_2.map aPair))])), (4, (.cells 38 [(jS (⟨#[]⟩)), .nil, .nil]))] [((1001, 10), gvb7_1), ((1002, 44), gvb7_2)] (akn 4 an) (by kernel_rfl) ?_
    show W _ _ _ _
    rcases Bool.eq_false_or_eq_true (decide ((((v9 : Nat) : Int) : Int) ≤ ((ByteArray.size (s) : Nat) : Int))) with hb4 | hb4
    · refine W_condT (b := decide ((((v9 : Nat) : Int) : Int) ≤ ((ByteArray.size (s) : Nat) : Int))) (by kernel_rfl) hb4 ?_
      have hb4p := of_decide_eq_true hb4
      refine W_runX [] .normal 92 [(0, (jS (s))), (4, (.ptr 4 0)), (7, (.ptr 7 0)), (8, (jI (v8))), (9, (jI (((v9 : Nat) : Int))))] [(7, (.cells 38 [(jS (vb7_0)), (.own (1001, 10) (gvb7_1) 1 (vb7_1.map strAV)), (.own (1002, 44) (gvb7_2) 2 (vb7_2.map aPair))])), (4, (.cells 38 [(jS (⟨#[]⟩)), .nil, .nil]))] [((1001, 10), gvb7_1), ((1002, 44), gvb7_2)] an (by kernel_rfl) ?_
      show W _ _ _ _
      refine W_seq ?_
      refine W_block ?_
      refine W_seq ?_
      refine W_runX [] .normal 92 [(0, (jS (s))), (4, (.ptr 4 0)), (7, (.ptr 7 0)), (8, (jI (v8))), (9, (jI (((v9 : Nat) : Int)))), (10, (jI (v8)))] [(7, (.cells 38 [(jS (vb7_0)), (.own (1001, 10) (gvb7_1) 1 (vb7_1.map strAV)), (.own (1002, 44) (gvb7_2) 2 (vb7_2.map aPair))])), (4, (.cells 38 [(jS (⟨#[]⟩)), .nil, .nil]))] [((1001, 10), gvb7_1), ((1002, 44), gvb7_2)] (akn 2 an) (by kernel_rfl) ?_
      show W _ _ _ _
      refine W_seq ?_
      refine W_block ?_
      refine W_loop (I := fun N S => ∃ n1 : Nat, ∃ w10 : Int, (s.size - Int.toNat w10 < n1) ∧ (0 ≤ w10) ∧ (w10 ≤ s.size + 2) ∧ (parR_L1 s i v8 v9 vb7_0 vb7_1 vb7_2 (parR_L0 s i n0) (n1) w10 = parR s i) ∧ N = n1 ∧ S = (sx 92 [(0, (jS (s))), (4, (.ptr 4 0)), (7, (.ptr 7 0)), (8, (jI (v8))), (9, (jI (((v9 : Nat) : Int)))), (10, (jI (w10)))] [(7, (.cells 38 [(jS (vb7_0)), (.own (1001, 10) (gvb7_1) 1 (vb7_1.map strAV)), (.own (1002, 44) (gvb7_2) 2 (vb7_2.map aPair))])), (4, (.cells 38 [(jS (⟨#[]⟩)), .nil, .nil]))] [((1001, 10), gvb7_1), ((1002, 44), gvb7_2)])) (n := (s.size - Int.toNat (v8)) + 1) (S0 := (sx 92 [(0, (jS (s))), (4, (.ptr 4 0)), (7, (.ptr 7 0)), (8, (jI (v8))), (9, (jI (((v9 : Nat) : Int)))), (10, (jI ((v8))))] [(7, (.cells 38 [(jS (vb7_0)), (.own (1001, 10) (gvb7_1) 1 (vb7_1.map strAV)), (.own (1002, 44) (gvb7_2) 2 (vb7_2.map aPair))])), (4, (.cells 38 [(jS (⟨#[]⟩)), .nil, .nil]))] [((1001, 10), gvb7_1), ((1002, 44), gvb7_2)])) (weak_sx (show WkX _ _ _ from ⟨rfl, rfl, rfl, rfl, rfl, (by first | rfl | (congr 3; omega) | (simp [strAV, vU, aPair_eq, aAttr_eq, aCited_eq, aInline_eq, aBlock_eq, aDoc_eq, aPoint_eq, aRange_eq, cPair, cAttr, cCited, cInline, cBlock, cDoc, cPoint, cRange]; done)), trivial⟩) (show WkBx _ _ from ⟨⟨rfl, ⟨rfl, ⟨rfl, rfl, rfl, rfl⟩, ⟨rfl, rfl, rfl, rfl⟩, trivial⟩⟩, ⟨rfl, ⟨rfl, rfl, rfl, trivial⟩⟩, trivial⟩) (show WkG _ _ _ from ⟨rfl, rfl, rfl, rfl, trivial⟩)) ⟨(s.size - Int.toNat (v8)) + 1, v8, Nat.lt_succ_self _, by first | omega | assumption | (simp only [lenM_eq]; omega) | (simp; done) | (simp; omega), by first | omega | assumption | (simp only [lenM_eq]; omega) | (simp; done) | (simp; omega), by rw [← hE0]; rw [parR_L0]; exact ((cT hb4)).symm, rfl, rfl⟩ ?_
      rintro N S ⟨n1, w10, hF1, hw, hw2, hE1, hN1, rfl⟩
      obtain ⟨n1, rfl⟩ : ∃ k, n1 = k + 1 := ⟨n1 - 1, by omega⟩
      refine W_seq ?_
      refine W_mid (S' := (sx 92 [(0, (jS (s))), (4, (.ptr 4 0)), (7, (.ptr 7 0)), (8, (jI (v8))), (9, (jI (((v9 : Nat) : Int)))), (10, (jI (w10))), (47, (jB (cond (decide ((w10 : Int) < ((ByteArray.size (s) : Nat) : Int))) (((((byt (s) (Int.toNat (w10)) : Nat) : Int) : Int) == 32)) (false))))] [(7, (.cells 38 [(jS (vb7_0)), (.own (1001, 10) (gvb7_1) 1 (vb7_1.map strAV)), (.own (1002, 44) (gvb7_2) 2 (vb7_2.map aPair))])), (4, (.cells 38 [(jS (⟨#[]⟩)), .nil, .nil]))] [((1001, 10), gvb7_1), ((1002, 44), gvb7_2)])) ?_ ?_
      · rcases Bool.eq_false_or_eq_true (decide ((w10 : Int) < ((ByteArray.size (s) : Nat) : Int))) with hb5 | hb5
        · have hb5p := of_decide_eq_true hb5
          refine W_runX (rp 5 oT []) .normal 92 [(0, (jS (s))), (4, (.ptr 4 0)), (7, (.ptr 7 0)), (8, (jI (v8))), (9, (jI (((v9 : Nat) : Int)))), (10, (jI (w10))), (47, (jB (((((byt (s) (Int.toNat (w10)) : Nat) : Int) : Int) == 32))))] [(7, (.cells 38 [(jS (vb7_0)), (.own (1001, 10) (gvb7_1) 1 (vb7_1.map strAV)), (.own (1002, 44) (gvb7_2) 2 (vb7_2.map aPair))])), (4, (.cells 38 [(jS (⟨#[]⟩)), .nil, .nil]))] [((1001, 10), gvb7_1), ((1002, 44), gvb7_2)] (akn 5 (apn 2 hb5 (ac hb5 (ac (show 0 ≤ (w10 : Int) ∧ (w10 : Int) < ((ByteArray.size (s) : Nat) : Int) from (by first | omega | (simp only [lenM_eq, true_and]; omega))) (ac hb5 (ak (ac hb5 an))))))) (by kernel_rfl) ?_
          exact ⟨rfl, (weak_sx (show WkX _ _ _ from ⟨rfl, rfl, rfl, rfl, rfl, rfl, (show ((jB (((((byt (s) (Int.toNat (w10)) : Nat) : Int) : Int) == 32))) : SV) = (jB (cond (decide ((w10 : Int) < ((ByteArray.size (s) : Nat) : Int))) (((((byt (s) (Int.toNat (w10)) : Nat) : Int) : Int) == 32)) (false))) from by rw [hb5, cond_true]), trivial⟩) (show WkBx _ _ from ⟨⟨rfl, ⟨rfl, ⟨rfl, rfl, rfl, rfl⟩, ⟨rfl, rfl, rfl, rfl⟩, trivial⟩⟩, ⟨rfl, ⟨rfl, rfl, rfl, trivial⟩⟩, trivial⟩) (show WkG _ _ _ from ⟨rfl, rfl, rfl, rfl, trivial⟩))⟩
        · have hb5p := of_decide_eq_false hb5
          refine W_runX (rp 5 oF []) .normal 92 [(0, (jS (s))), (4, (.ptr 4 0)), (7, (.ptr 7 0)), (8, (jI (v8))), (9, (jI (((v9 : Nat) : Int)))), (10, (jI (w10))), (47, (jB (false)))] [(7, (.cells 38 [(jS (vb7_0)), (.own (1001, 10) (gvb7_1) 1 (vb7_1.map strAV)), (.own (1002, 44) (gvb7_2) 2 (vb7_2.map aPair))])), (4, (.cells 38 [(jS (⟨#[]⟩)), .nil, .nil]))] [((1001, 10), gvb7_1), ((1002, 44), gvb7_2)] (akn 5 (acn 5 hb5 an)) (by kernel_rfl) ?_
          exact ⟨rfl, (weak_sx (show WkX _ _ _ from ⟨rfl, rfl, rfl, rfl, rfl, rfl, (show ((jB (false)) : SV) = (jB (cond (decide ((w10 : Int) < ((ByteArray.size (s) : Nat) : Int))) (((((byt (s) (Int.toNat (w10)) : Nat) : Int) : Int) == 32)) (false))) from by rw [hb5, cond_false]), trivial⟩) (show WkBx _ _ from ⟨⟨rfl, ⟨rfl, ⟨rfl, rfl, rfl, rfl⟩, ⟨rfl, rfl, rfl, rfl⟩, trivial⟩⟩, ⟨rfl, ⟨rfl, rfl, rfl, trivial⟩⟩, trivial⟩) (show WkG _ _ _ from ⟨rfl, rfl, rfl, rfl, trivial⟩))⟩
      rcases Bool.eq_false_or_eq_true (cond (decide ((w10 : Int) < ((ByteArray.size (s) : Nat) : Int))) (((((byt (s) (Int.toNat (w10)) : Nat) : Int) : Int) == 32)) (false)) with hb6 | hb6
      · refine W_condT (b := cond (decide ((w10 : Int) < ((ByteArray.size (s) : Nat) : Int))) (((((byt (s) (Int.toNat (w10)) : Nat) : Int) : Int) == 32)) (false)) (by kernel_rfl) hb6 ?_
        obtain ⟨hb6a, hb6o⟩ := cond_ff hb6
        have hb6ap := of_decide_eq_true hb6a
        have hb6op := eq_of_beq hb6o
        refine W_runX [] .normal 92 [(0, (jS (s))), (4, (.ptr 4 0)), (7, (.ptr 7 0)), (8, (jI (v8))), (9, (jI (((v9 : Nat) : Int)))), (10, (jI (w10)))] [(7, (.cells 38 [(jS (vb7_0)), (.own (1001, 10) (gvb7_1) 1 (vb7_1.map strAV)), (.own (1002, 44) (gvb7_2) 2 (vb7_2.map aPair))])), (4, (.cells 38 [(jS (⟨#[]⟩)), .nil, .nil]))] [((1001, 10), gvb7_1), ((1002, 44), gvb7_2)] an (by kernel_rfl) ?_
        show W _ _ _ _
        refine W_runX [.n (w10 + 1)] .normal 92 [(0, (jS (s))), (4, (.ptr 4 0)), (7, (.ptr 7 0)), (8, (jI (v8))), (9, (jI (((v9 : Nat) : Int)))), (10, (jI (w10 + 1)))] [(7, (.cells 38 [(jS (vb7_0)), (.own (1001, 10) (gvb7_1) 1 (vb7_1.map strAV)), (.own (1002, 44) (gvb7_2) 2 (vb7_2.map aPair))])), (4, (.cells 38 [(jS (⟨#[]⟩)), .nil, .nil]))] [((1001, 10), gvb7_1), ((1002, 44), gvb7_2)] (ak (ac (wrE ((w10) + 1) (w10 + 1) (by first | omega | (simp only [lenM_eq, true_and]; omega))) (ak an))) (by kernel_rfl) ?_
        exact ⟨n1, (sx 92 [(0, (jS (s))), (4, (.ptr 4 0)), (7, (.ptr 7 0)), (8, (jI (v8))), (9, (jI (((v9 : Nat) : Int)))), (10, (jI ((w10 + 1))))] [(7, (.cells 38 [(jS (vb7_0)), (.own (1001, 10) (gvb7_1) 1 (vb7_1.map strAV)), (.own (1002, 44) (gvb7_2) 2 (vb7_2.map aPair))])), (4, (.cells 38 [(jS (⟨#[]⟩)), .nil, .nil]))] [((1001, 10), gvb7_1), ((1002, 44), gvb7_2)]), by omega, (weak_sx (show WkX _ _ _ from ⟨rfl, rfl, rfl, rfl, rfl, (by first | rfl | (congr 3; omega) | (simp [strAV, vU, aPair_eq, aAttr_eq, aCited_eq, aInline_eq, aBlock_eq, aDoc_eq, aPoint_eq, aRange_eq, cPair, cAttr, cCited, cInline, cBlock, cDoc, cPoint, cRange]; done)), trivial⟩) (show WkBx _ _ from ⟨⟨rfl, ⟨rfl, ⟨rfl, rfl, rfl, rfl⟩, ⟨rfl, rfl, rfl, rfl⟩, trivial⟩⟩, ⟨rfl, ⟨rfl, rfl, rfl, trivial⟩⟩, trivial⟩) (show WkG _ _ _ from ⟨rfl, rfl, rfl, rfl, trivial⟩)), ⟨n1, w10 + 1, by first | omega | assumption | (simp only [lenM_eq]; omega) | (simp; done) | (simp; omega), by first | omega | assumption | (simp only [lenM_eq]; omega) | (simp; done) | (simp; omega), by first | omega | assumption | (simp only [lenM_eq]; omega) | (simp; done) | (simp; omega), by rw [← hE1]; rw [parR_L1]; exact ((cT hb6)).symm, rfl, rfl⟩⟩
      · refine W_condF (b := cond (decide ((w10 : Int) < ((ByteArray.size (s) : Nat) : Int))) (((((byt (s) (Int.toNat (w10)) : Nat) : Int) : Int) == 32)) (false)) (by kernel_rfl) hb6 ?_
        refine W_runX [] (.exit 2) 92 [(0, (jS (s))), (4, (.ptr 4 0)), (7, (.ptr 7 0)), (8, (jI (v8))), (9, (jI (((v9 : Nat) : Int)))), (10, (jI (w10)))] [(7, (.cells 38 [(jS (vb7_0)), (.own (1001, 10) (gvb7_1) 1 (vb7_1.map strAV)), (.own (1002, 44) (gvb7_2) 2 (vb7_2.map aPair))])), (4, (.cells 38 [(jS (⟨#[]⟩)), .nil, .nil]))] [((1001, 10), gvb7_1), ((1002, 44), gvb7_2)] an (by kernel_rfl) ?_
        refine skipS ?_ (by simp)
        refine skipS ?_ (by simp)
        refine hit ?_
        show W _ _ _ _
        refine W_seq ?_
        refine W_mid (S' := (sx 92 [(0, (jS (s))), (4, (.ptr 4 0)), (7, (.ptr 7 0)), (8, (jI (v8))), (9, (jI (((v9 : Nat) : Int)))), (10, (jI (w10))), (59, (jB (cond (decide ((w10 : Int) < ((ByteArray.size (s) : Nat) : Int))) (((((byt (s) (Int.toNat (w10)) : Nat) : Int) : Int) == 125)) (false))))] [(7, (.cells 38 [(jS (vb7_0)), (.own (1001, 10) (gvb7_1) 1 (vb7_1.map strAV)), (.own (1002, 44) (gvb7_2) 2 (vb7_2.map aPair))])), (4, (.cells 38 [(jS (⟨#[]⟩)), .nil, .nil]))] [((1001, 10), gvb7_1), ((1002, 44), gvb7_2)])) ?_ ?_
        · rcases Bool.eq_false_or_eq_true (decide ((w10 : Int) < ((ByteArray.size (s) : Nat) : Int))) with hb7 | hb7
          · have hb7p := of_decide_eq_true hb7
            refine W_runX (rp 5 oT []) .normal 92 [(0, (jS (s))), (4, (.ptr 4 0)), (7, (.ptr 7 0)), (8, (jI (v8))), (9, (jI (((v9 : Nat) : Int)))), (10, (jI (w10))), (59, (jB (((((byt (s) (Int.toNat (w10)) : Nat) : Int) : Int) == 125))))] [(7, (.cells 38 [(jS (vb7_0)), (.own (1001, 10) (gvb7_1) 1 (vb7_1.map strAV)), (.own (1002, 44) (gvb7_2) 2 (vb7_2.map aPair))])), (4, (.cells 38 [(jS (⟨#[]⟩)), .nil, .nil]))] [((1001, 10), gvb7_1), ((1002, 44), gvb7_2)] (akn 5 (apn 2 hb7 (ac hb7 (ac (show 0 ≤ (w10 : Int) ∧ (w10 : Int) < ((ByteArray.size (s) : Nat) : Int) from (by first | omega | (simp only [lenM_eq, true_and]; omega))) (ac hb7 (ak (ac hb7 an))))))) (by kernel_rfl) ?_
            exact ⟨rfl, (weak_sx (show WkX _ _ _ from ⟨rfl, rfl, rfl, rfl, rfl, rfl, (show ((jB (((((byt (s) (Int.toNat (w10)) : Nat) : Int) : Int) == 125))) : SV) = (jB (cond (decide ((w10 : Int) < ((ByteArray.size (s) : Nat) : Int))) (((((byt (s) (Int.toNat (w10)) : Nat) : Int) : Int) == 125)) (false))) from by rw [hb7, cond_true]), trivial⟩) (show WkBx _ _ from ⟨⟨rfl, ⟨rfl, ⟨rfl, rfl, rfl, rfl⟩, ⟨rfl, rfl, rfl, rfl⟩, trivial⟩⟩, ⟨rfl, ⟨rfl, rfl, rfl, trivial⟩⟩, trivial⟩) (show WkG _ _ _ from ⟨rfl, rfl, rfl, rfl, trivial⟩))⟩
          · have hb7p := of_decide_eq_false hb7
            refine W_runX (rp 5 oF []) .normal 92 [(0, (jS (s))), (4, (.ptr 4 0)), (7, (.ptr 7 0)), (8, (jI (v8))), (9, (jI (((v9 : Nat) : Int)))), (10, (jI (w10))), (59, (jB (false)))] [(7, (.cells 38 [(jS (vb7_0)), (.own (1001, 10) (gvb7_1) 1 (vb7_1.map strAV)), (.own (1002, 44) (gvb7_2) 2 (vb7_2.map aPair))])), (4, (.cells 38 [(jS (⟨#[]⟩)), .nil, .nil]))] [((1001, 10), gvb7_1), ((1002, 44), gvb7_2)] (akn 5 (acn 5 hb7 an)) (by kernel_rfl) ?_
            exact ⟨rfl, (weak_sx (show WkX _ _ _ from ⟨rfl, rfl, rfl, rfl, rfl, rfl, (show ((jB (false)) : SV) = (jB (cond (decide ((w10 : Int) < ((ByteArray.size (s) : Nat) : Int))) (((((byt (s) (Int.toNat (w10)) : Nat) : Int) : Int) == 125)) (false))) from by rw [hb7, cond_false]), trivial⟩) (show WkBx _ _ from ⟨⟨rfl, ⟨rfl, ⟨rfl, rfl, rfl, rfl⟩, ⟨rfl, rfl, rfl, rfl⟩, trivial⟩⟩, ⟨rfl, ⟨rfl, rfl, rfl, trivial⟩⟩, trivial⟩) (show WkG _ _ _ from ⟨rfl, rfl, rfl, rfl, trivial⟩))⟩
        rcases Bool.eq_false_or_eq_true (cond (decide ((w10 : Int) < ((ByteArray.size (s) : Nat) : Int))) (((((byt (s) (Int.toNat (w10)) : Nat) : Int) : Int) == 125)) (false)) with hb8 | hb8
        · refine W_condT (b := cond (decide ((w10 : Int) < ((ByteArray.size (s) : Nat) : Int))) (((((byt (s) (Int.toNat (w10)) : Nat) : Int) : Int) == 125)) (false)) (by kernel_rfl) hb8 ?_
          obtain ⟨hb8a, hb8o⟩ := cond_ff hb8
          have hb8ap := of_decide_eq_true hb8a
          have hb8op := eq_of_beq hb8o
          refine W_runX [.n (w10 + 1)] .ret 92 [(4, (.ptr 4 0)), (5, (jI (w10 + 1))), (6, (jI (0)))] [(4, (.cells 38 [(jS (vb7_0)), (.own (1001, 10) (gvb7_1) 1 (vb7_1.map strAV)), (.own (1002, 44) (gvb7_2) 2 (vb7_2.map aPair))]))] [((1001, 10), gvb7_1), ((1002, 44), gvb7_2)] (akn 2 (ac (wrE ((w10) + 1) (w10 + 1) (by first | omega | (simp only [lenM_eq, true_and]; omega))) (akn 3 an))) (by kernel_rfl) ?_
          refine skipS ?_ (by simp)
          refine pass ?_ (by simp)
          refine skipS ?_ (by simp)
          refine skipS ?_ (by simp)
          refine pass ?_ (by simp)
          refine skipS ?_ (by simp)
          exact ends (r := (.av (.tup [(.agg [(vS (vb7_0)), (.sl (vb7_1.map strAV)), (.sl (vb7_2.map aPair))]), (vI (w10 + 1)), (vI (0))]))) (by simp) (by kernel_rfl) (by rw [show parR s i = (DAttr.mk vb7_0 vb7_1 vb7_2, w10 + 1, 0) from by rw [← hE1]; rw [parR_L1]; exact (cF hb6).trans (cT hb8)]; first | done | first | rfl | (simp [strAV, vU, aPair_eq, aAttr_eq, aCited_eq, aInline_eq, aBlock_eq, aDoc_eq, aPoint_eq, aRange_eq, cPair, cAttr, cCited, cInline, cBlock, cDoc, cPoint, cRange]; done)) (by simp) (by simp)
        · refine W_condF (b := cond (decide ((w10 : Int) < ((ByteArray.size (s) : Nat) : Int))) (((((byt (s) (Int.toNat (w10)) : Nat) : Int) : Int) == 125)) (false)) (by kernel_rfl) hb8 ?_
          refine W_runX [] .normal 92 [(0, (jS (s))), (4, (.ptr 4 0)), (7, (.ptr 7 0)), (8, (jI (v8))), (9, (jI (((v9 : Nat) : Int)))), (10, (jI (w10)))] [(7, (.cells 38 [(jS (vb7_0)), (.own (1001, 10) (gvb7_1) 1 (vb7_1.map strAV)), (.own (1002, 44) (gvb7_2) 2 (vb7_2.map aPair))])), (4, (.cells 38 [(jS (⟨#[]⟩)), .nil, .nil]))] [((1001, 10), gvb7_1), ((1002, 44), gvb7_2)] an (by kernel_rfl) ?_
          show W _ _ _ _
          refine W_seq ?_
          refine W_mid (S' := (sx 92 [(0, (jS (s))), (4, (.ptr 4 0)), (7, (.ptr 7 0)), (9, (jI (((v9 : Nat) : Int)))), (10, (jI (w10))), (75, (jB (cond (decide ((w10 : Int) ≥ ((ByteArray.size (s) : Nat) : Int))) (true) (cond (decide ((((v9 : Nat) : Int) : Int) > 0)) (((w10 : Int) == v8)) (false)))))] [(7, (.cells 38 [(jS (vb7_0)), (.own (1001, 10) (gvb7_1) 1 (vb7_1.map strAV)), (.own (1002, 44) (gvb7_2) 2 (vb7_2.map aPair))])), (4, (.cells 38 [(jS (⟨#[]⟩)), .nil, .nil]))] [((1001, 10), gvb7_1), ((1002, 44), gvb7_2)])) ?_ ?_
          · rcases Bool.eq_false_or_eq_true (decide ((w10 : Int) ≥ ((ByteArray.size (s) : Nat) : Int))) with hb9 | hb9
            · have hb9p := of_decide_eq_true hb9
              refine W_runX (rp 5 oT []) .normal 92 [(0, (jS (s))), (4, (.ptr 4 0)), (7, (.ptr 7 0)), (9, (jI (((v9 : Nat) : Int)))), (10, (jI (w10))), (75, (jB (true)))] [(7, (.cells 38 [(jS (vb7_0)), (.own (1001, 10) (gvb7_1) 1 (vb7_1.map strAV)), (.own (1002, 44) (gvb7_2) 2 (vb7_2.map aPair))])), (4, (.cells 38 [(jS (⟨#[]⟩)), .nil, .nil]))] [((1001, 10), gvb7_1), ((1002, 44), gvb7_2)] (akn 5 (acn 5 hb9 an)) (by kernel_rfl) ?_
              exact ⟨rfl, (weak_sx (show WkX _ _ _ from ⟨rfl, rfl, rfl, rfl, rfl, (show ((jB (true)) : SV) = (jB (cond (decide ((w10 : Int) ≥ ((ByteArray.size (s) : Nat) : Int))) (true) (cond (decide ((((v9 : Nat) : Int) : Int) > 0)) (((w10 : Int) == v8)) (false)))) from by rw [hb9, cond_true]), trivial⟩) (show WkBx _ _ from ⟨⟨rfl, ⟨rfl, ⟨rfl, rfl, rfl, rfl⟩, ⟨rfl, rfl, rfl, rfl⟩, trivial⟩⟩, ⟨rfl, ⟨rfl, rfl, rfl, trivial⟩⟩, trivial⟩) (show WkG _ _ _ from ⟨rfl, rfl, rfl, rfl, trivial⟩))⟩
            · have hb9p := of_decide_eq_false hb9
              rcases Bool.eq_false_or_eq_true (decide ((((v9 : Nat) : Int) : Int) > 0)) with hb10 | hb10
              · have hb10p := of_decide_eq_true hb10
                refine W_runX [oF, oF, oF, oT, oT, oT, oF, oT, oF] .normal 92 [(0, (jS (s))), (4, (.ptr 4 0)), (7, (.ptr 7 0)), (9, (jI (((v9 : Nat) : Int)))), (10, (jI (w10))), (75, (jB (((w10 : Int) == v8))))] [(7, (.cells 38 [(jS (vb7_0)), (.own (1001, 10) (gvb7_1) 1 (vb7_1.map strAV)), (.own (1002, 44) (gvb7_2) 2 (vb7_2.map aPair))])), (4, (.cells 38 [(jS (⟨#[]⟩)), .nil, .nil]))] [((1001, 10), gvb7_1), ((1002, 44), gvb7_2)] (akn 5 (apn 3 hb9 (apn 3 hb10 (ac hb9 (ac hb10 (ac hb9 an)))))) (by kernel_rfl) ?_
                exact ⟨rfl, (weak_sx (show WkX _ _ _ from ⟨rfl, rfl, rfl, rfl, rfl, (show ((jB (((w10 : Int) == v8))) : SV) = (jB (cond (decide ((w10 : Int) ≥ ((ByteArray.size (s) : Nat) : Int))) (true) (cond (decide ((((v9 : Nat) : Int) : Int) > 0)) (((w10 : Int) == v8)) (false)))) from by rw [hb9, cond_false, hb10, cond_true]), trivial⟩) (show WkBx _ _ from ⟨⟨rfl, ⟨rfl, ⟨rfl, rfl, rfl, rfl⟩, ⟨rfl, rfl, rfl, rfl⟩, trivial⟩⟩, ⟨rfl, ⟨rfl, rfl, rfl, trivial⟩⟩, trivial⟩) (show WkG _ _ _ from ⟨rfl, rfl, rfl, rfl, trivial⟩))⟩
              · have hb10p := of_decide_eq_false hb10
                refine W_runX (rp 9 oF []) .normal 92 [(0, (jS (s))), (4, (.ptr 4 0)), (7, (.ptr 7 0)), (9, (jI (((v9 : Nat) : Int)))), (10, (jI (w10))), (75, (jB (false)))] [(7, (.cells 38 [(jS (vb7_0)), (.own (1001, 10) (gvb7_1) 1 (vb7_1.map strAV)), (.own (1002, 44) (gvb7_2) 2 (vb7_2.map aPair))])), (4, (.cells 38 [(jS (⟨#[]⟩)), .nil, .nil]))] [((1001, 10), gvb7_1), ((1002, 44), gvb7_2)] (akn 5 (apn 3 hb9 (acn 3 hb10 (ac hb9 (ac hb10 (ac hb9 an)))))) (by kernel_rfl) ?_
                exact ⟨rfl, (weak_sx (show WkX _ _ _ from ⟨rfl, rfl, rfl, rfl, rfl, (show ((jB (false)) : SV) = (jB (cond (decide ((w10 : Int) ≥ ((ByteArray.size (s) : Nat) : Int))) (true) (cond (decide ((((v9 : Nat) : Int) : Int) > 0)) (((w10 : Int) == v8)) (false)))) from by rw [hb9, cond_false, hb10, cond_false]), trivial⟩) (show WkBx _ _ from ⟨⟨rfl, ⟨rfl, ⟨rfl, rfl, rfl, rfl⟩, ⟨rfl, rfl, rfl, rfl⟩, trivial⟩⟩, ⟨rfl, ⟨rfl, rfl, rfl, trivial⟩⟩, trivial⟩) (show WkG _ _ _ from ⟨rfl, rfl, rfl, rfl, trivial⟩))⟩
          rcases Bool.eq_false_or_eq_true (cond (decide ((w10 : Int) ≥ ((ByteArray.size (s) : Nat) : Int))) (true) (cond (decide ((((v9 : Nat) : Int) : Int) > 0)) (((w10 : Int) == v8)) (false))) with hb11 | hb11
          · refine W_condT (b := cond (decide ((w10 : Int) ≥ ((ByteArray.size (s) : Nat) : Int))) (true) (cond (decide ((((v9 : Nat) : Int) : Int) > 0)) (((w10 : Int) == v8)) (false))) (by kernel_rfl) hb11 ?_
            refine W_runX [] .ret 92 [(4, (.ptr 4 0)), (5, (jI (0))), (6, (jI (5)))] [(4, (.cells 38 [(jS (⟨#[]⟩)), .nil, .nil]))] [((1001, 10), gvb7_1), ((1002, 44), gvb7_2)] (akn 4 an) (by kernel_rfl) ?_
            refine skipS ?_ (by simp)
            refine pass ?_ (by simp)
            refine skipS ?_ (by simp)
            refine skipS ?_ (by simp)
            refine pass ?_ (by simp)
            refine skipS ?_ (by simp)
            exact ends (r := (.av (.tup [(.agg [(vS (⟨#[]⟩)), (.sl []), (.sl [])]), (vI (0)), (vI (5))]))) (by simp) (by kernel_rfl) (by rw [show parR s i = (DAttr.mk (⟨#[]⟩) ([]) ([]), 0, 5) from by rw [← hE1]; rw [parR_L1]; exact (cF hb6).trans ((cF hb8).trans (cT hb11))]; first | done | first | rfl | (simp [strAV, vU, aPair_eq, aAttr_eq, aCited_eq, aInline_eq, aBlock_eq, aDoc_eq, aPoint_eq, aRange_eq, cPair, cAttr, cCited, cInline, cBlock, cDoc, cPoint, cRange]; done)) (by simp) (by simp)
          · refine W_condF (b := cond (decide ((w10 : Int) ≥ ((ByteArray.size (s) : Nat) : Int))) (true) (cond (decide ((((v9 : Nat) : Int) : Int) > 0)) (((w10 : Int) == v8)) (false))) (by kernel_rfl) hb11 ?_
            obtain ⟨hb11a, hb11o⟩ := cond_tt hb11
            have hb11ap := of_decide_eq_false hb11a
            refine W_runX [] .normal 92 [(0, (jS (s))), (4, (.ptr 4 0)), (7, (.ptr 7 0)), (9, (jI (((v9 : Nat) : Int)))), (10, (jI (w10)))] [(7, (.cells 38 [(jS (vb7_0)), (.own (1001, 10) (gvb7_1) 1 (vb7_1.map strAV)), (.own (1002, 44) (gvb7_2) 2 (vb7_2.map aPair))])), (4, (.cells 38 [(jS (⟨#[]⟩)), .nil, .nil]))] [((1001, 10), gvb7_1), ((1002, 44), gvb7_2)] an (by kernel_rfl) ?_
            show W _ _ _ _
            refine W_seq ?_
            have := itemA_bd (DAttr.mk vb7_0 vb7_1 vb7_2) s w10 (by omega) (by omega) (by omega) (by omega)
            refine W_runX [.c (.tp [(.a [(.av (vS (((itemA (DAttr.mk vb7_0 vb7_1 vb7_2) s w10).1).fID))), (.own (1001, 10) (gvb7_1 + 1) 1 ((((itemA (DAttr.mk vb7_0 vb7_1 vb7_2) s w10).1).fClasses).map strAV)), (.own (1002, 44) (gvb7_2 + 1) 2 ((((itemA (DAttr.mk vb7_0 vb7_1 vb7_2) s w10).1).fPairs).map aPair))]), (.c (.av (vI ((itemA (DAttr.mk vb7_0 vb7_1 vb7_2) s w10).2.1)))), (.c (.av (vI ((itemA (DAttr.mk vb7_0 vb7_1 vb7_2) s w10).2.2))))]) [] [((1001, 10), gvb7_1), ((1002, 44), gvb7_2)] [((1001, 10), gvb7_1 + 1), ((1002, 44), gvb7_2 + 1)]] .normal 92 [(0, (jS (s))), (4, (.ptr 4 0)), (7, (.ptr 7 0)), (9, (jI (((v9 : Nat) : Int)))), (11, (.ptr 11 0)), (12, (jI ((itemA (DAttr.mk vb7_0 vb7_1 vb7_2) s w10).2.1))), (13, (jI ((itemA (DAttr.mk vb7_0 vb7_1 vb7_2) s w10).2.2)))] [(11, (.cells 38 [(jS (((itemA (DAttr.mk vb7_0 vb7_1 vb7_2) s w10).1).fID)), (.own (1001, 10) (gvb7_1 + 1) 1 ((((itemA (DAttr.mk vb7_0 vb7_1 vb7_2) s w10).1).fClasses).map strAV)), (.own (1002, 44) (gvb7_2 + 1) 2 ((((itemA (DAttr.mk vb7_0 vb7_1 vb7_2) s w10).1).fPairs).map aPair))])), (7, (.cells 38 [(jS (vb7_0)), (.own (1001, 10) (gvb7_1) 1 (vb7_1.map strAV)), (.own (1002, 44) (gvb7_2) 2 (vb7_2.map aPair))])), (4, (.cells 38 [(jS (⟨#[]⟩)), .nil, .nil]))] [((1001, 10), gvb7_1 + 1), ((1002, 44), gvb7_2 + 1)] (akn 3 (ac (itemA_to (DAttr.mk vb7_0 vb7_1 vb7_2) s w10 gvb7_1 gvb7_2 (by first | assumption | omega | decide | (simp; done) | (simp; omega)) (by first | assumption | omega | decide | (simp; done) | (simp; omega)) (by first | assumption | omega | decide | (simp; done) | (simp; omega)) (by first | assumption | omega | decide | (simp; done) | (simp; omega)) (by first | assumption | omega | decide | (simp; done) | (simp; omega))) (ac (show (gvb7_1 : Nat) = gvb7_1 ∧ (gvb7_2 : Nat) = gvb7_2 ∧ True from ⟨rfl, rfl, trivial⟩) (akn 8 an)))) (by kernel_rfl) ?_
            show W _ _ _ _
            refine W_seq ?_
            refine W_seq ?_
            refine W_runX [] .normal 92 [(0, (jS (s))), (4, (.ptr 4 0)), (7, (.ptr 7 0)), (9, (jI (((v9 : Nat) : Int)))), (11, (.ptr 11 0)), (12, (jI ((itemA (DAttr.mk vb7_0 vb7_1 vb7_2) s w10).2.1))), (13, (jI ((itemA (DAttr.mk vb7_0 vb7_1 vb7_2) s w10).2.2))), (86, (jB ((((itemA (DAttr.mk vb7_0 vb7_1 vb7_2) s w10).2.2 : Int) != 0))))] [(11, (.cells 38 [(jS (((itemA (DAttr.mk vb7_0 vb7_1 vb7_2) s w10).1).fID)), (.own (1001, 10) (gvb7_1 + 1) 1 ((((itemA (DAttr.mk vb7_0 vb7_1 vb7_2) s w10).1).fClasses).map strAV)), (.own (1002, 44) (gvb7_2 + 1) 2 ((((itemA (DAttr.mk vb7_0 vb7_1 vb7_2) s w10).1).fPairs).map aPair))])), (7, (.cells 38 [(jS (vb7_0)), (.own (1001, 10) (gvb7_1) 1 (vb7_1.map strAV)), (.own (1002, 44) (gvb7_2) 2 (vb7_2.map aPair))])), (4, (.cells 38 [(jS (⟨#[]⟩)), .nil, .nil]))] [((1001, 10), gvb7_1 + 1), ((1002, 44), gvb7_2 + 1)] (akn 2 an) (by kernel_rfl) ?_
            show W _ _ _ _
            rcases Bool.eq_false_or_eq_true ((((itemA (DAttr.mk vb7_0 vb7_1 vb7_2) s w10).2.2 : Int) != 0)) with hb12 | hb12
            · refine W_condT (b := (((itemA (DAttr.mk vb7_0 vb7_1 vb7_2) s w10).2.2 : Int) != 0)) (by kernel_rfl) hb12 ?_
              have hb12p := bne_iff_ne.1 hb12
              refine W_runX [] .ret 92 [(4, (.ptr 4 0)), (5, (jI (0))), (6, (jI ((itemA (DAttr.mk vb7_0 vb7_1 vb7_2) s w10).2.2)))] [(4, (.cells 38 [(jS (⟨#[]⟩)), .nil, .nil]))] [((1001, 10), gvb7_1 + 1), ((1002, 44), gvb7_2 + 1)] (akn 5 an) (by kernel_rfl) ?_
              refine skipS ?_ (by simp)
              refine pass ?_ (by simp)
              refine skipS ?_ (by simp)
              refine skipS ?_ (by simp)
              refine pass ?_ (by simp)
              refine skipS ?_ (by simp)
              exact ends (r := (.av (.tup [(.agg [(vS (⟨#[]⟩)), (.sl []), (.sl [])]), (vI (0)), (vI ((itemA (DAttr.mk vb7_0 vb7_1 vb7_2) s w10).2.2))]))) (by simp) (by kernel_rfl) (by rw [show parR s i = (DAttr.mk (⟨#[]⟩) ([]) ([]), 0, (itemA (DAttr.mk vb7_0 vb7_1 vb7_2) s w10).2.2) from by rw [← hE1]; rw [parR_L1]; exact (cF hb6).trans ((cF hb8).trans ((cF hb11).trans (cT hb12)))]; first | done | first | rfl | (simp [strAV, vU, aPair_eq, aAttr_eq, aCited_eq, aInline_eq, aBlock_eq, aDoc_eq, aPoint_eq, aRange_eq, cPair, cAttr, cCited, cInline, cBlock, cDoc, cPoint, cRange]; done)) (by simp) (by simp)
            · refine W_condF (b := (((itemA (DAttr.mk vb7_0 vb7_1 vb7_2) s w10).2.2 : Int) != 0)) (by kernel_rfl) hb12 ?_
              have hb12p := eq_of_bne_false hb12
              refine W_runX [] .normal 92 [(0, (jS (s))), (4, (.ptr 4 0)), (7, (.ptr 7 0)), (9, (jI (((v9 : Nat) : Int)))), (11, (.ptr 11 0)), (12, (jI ((itemA (DAttr.mk vb7_0 vb7_1 vb7_2) s w10).2.1)))] [(11, (.cells 38 [(jS (((itemA (DAttr.mk vb7_0 vb7_1 vb7_2) s w10).1).fID)), (.own (1001, 10) (gvb7_1 + 1) 1 ((((itemA (DAttr.mk vb7_0 vb7_1 vb7_2) s w10).1).fClasses).map strAV)), (.own (1002, 44) (gvb7_2 + 1) 2 ((((itemA (DAttr.mk vb7_0 vb7_1 vb7_2) s w10).1).fPairs).map aPair))])), (7, (.cells 38 [(jS (vb7_0)), (.own (1001, 10) (gvb7_1) 1 (vb7_1.map strAV)), (.own (1002, 44) (gvb7_2) 2 (vb7_2.map aPair))])), (4, (.cells 38 [(jS (⟨#[]⟩)), .nil, .nil]))] [((1001, 10), gvb7_1 + 1), ((1002, 44), gvb7_2 + 1)] an (by kernel_rfl) ?_
              show W _ _ _ _
              refine W_runX [] .normal 92 [(0, (jS (s))), (4, (.ptr 4 0)), (7, (.ptr 7 0)), (8, (jI ((itemA (DAttr.mk vb7_0 vb7_1 vb7_2) s w10).2.1))), (9, (jI (((v9 : Nat) : Int))))] [(7, (.cells 38 [(jS (((itemA (DAttr.mk vb7_0 vb7_1 vb7_2) s w10).1).fID)), (.own (1001, 10) (gvb7_1 + 1) 1 ((((itemA (DAttr.mk vb7_0 vb7_1 vb7_2) s w10).1).fClasses).map strAV)), (.own (1002, 44) (gvb7_2 + 1) 2 ((((itemA (DAttr.mk vb7_0 vb7_1 vb7_2) s w10).1).fPairs).map aPair))])), (4, (.cells 38 [(jS (⟨#[]⟩)), .nil, .nil]))] [((1001, 10), gvb7_1 + 1), ((1002, 44), gvb7_2 + 1)] (akn 4 an) (by kernel_rfl) ?_
              refine pass ?_ (by simp)
              show W _ _ _ _
              refine W_runX [.n (((v9 + 1 : Nat) : Int))] .normal 92 [(0, (jS (s))), (4, (.ptr 4 0)), (7, (.ptr 7 0)), (8, (jI ((itemA (DAttr.mk vb7_0 vb7_1 vb7_2) s w10).2.1))), (9, (jI (((v9 + 1 : Nat) : Int))))] [(7, (.cells 38 [(jS (((itemA (DAttr.mk vb7_0 vb7_1 vb7_2) s w10).1).fID)), (.own (1001, 10) (gvb7_1 + 1) 1 ((((itemA (DAttr.mk vb7_0 vb7_1 vb7_2) s w10).1).fClasses).map strAV)), (.own (1002, 44) (gvb7_2 + 1) 2 ((((itemA (DAttr.mk vb7_0 vb7_1 vb7_2) s w10).1).fPairs).map aPair))])), (4, (.cells 38 [(jS (⟨#[]⟩)), .nil, .nil]))] [((1001, 10), gvb7_1 + 1), ((1002, 44), gvb7_2 + 1)] (ak (ac (wrE ((((v9 : Nat) : Int)) + 1) (((v9 + 1 : Nat) : Int)) (by first | omega | (simp only [lenM_eq, true_and]; omega))) (ak an))) (by kernel_rfl) ?_
              exact ⟨n0, (sx 92 [(0, (jS (s))), (4, (.ptr 4 0)), (7, (.ptr 7 0)), (8, (jI (((itemA (DAttr.mk vb7_0 vb7_1 vb7_2) s w10).2.1)))), (9, (jI ((((v9 + 1) : Nat) : Int))))] [(7, (.cells 38 [(jS ((((itemA (DAttr.mk vb7_0 vb7_1 vb7_2) s w10).1).fID))), (.own (1001, 10) ((gvb7_1 + 1)) 1 ((((itemA (DAttr.mk vb7_0 vb7_1 vb7_2) s w10).1).fClasses).map strAV)), (.own (1002, 44) ((gvb7_2 + 1)) 2 ((((itemA (DAttr.mk vb7_0 vb7_1 vb7_2) s w10).1).fPairs).map aPair))])), (4, (.cells 38 [(jS (⟨#[]⟩)), .nil, .nil]))] [((1001, 10), (gvb7_1 + 1)), ((1002, 44), (gvb7_2 + 1))]), by omega, (weak_sx (show WkX _ _ _ from ⟨rfl, rfl, rfl, (by first | rfl | (congr 3; omega) | (simp [strAV, vU, aPair_eq, aAttr_eq, aCited_eq, aInline_eq, aBlock_eq, aDoc_eq, aPoint_eq, aRange_eq, cPair, cAttr, cCited, cInline, cBlock, cDoc, cPoint, cRange]; done)), (by first | rfl | (congr 3; omega) | (simp [strAV, vU, aPair_eq, aAttr_eq, aCited_eq, aInline_eq, aBlock_eq, aDoc_eq, aPoint_eq, aRange_eq, cPair, cAttr, cCited, cInline, cBlock, cDoc, cPoint, cRange]; done)), trivial⟩) (show WkBx _ _ from ⟨⟨rfl, ⟨(by first | rfl | (congr 3; omega) | (simp [strAV, vU, aPair_eq, aAttr_eq, aCited_eq, aInline_eq, aBlock_eq, aDoc_eq, aPoint_eq, aRange_eq, cPair, cAttr, cCited, cInline, cBlock, cDoc, cPoint, cRange]; done)), ⟨rfl, (by first | rfl | omega | (simp; done) | (simp; omega)), rfl, rfl⟩, ⟨rfl, (by first | rfl | omega | (simp; done) | (simp; omega)), rfl, rfl⟩, trivial⟩⟩, ⟨rfl, ⟨rfl, rfl, rfl, trivial⟩⟩, trivial⟩) (show WkG _ _ _ from ⟨(by first | rfl | omega | (simp; done) | (simp; omega)), (by first | rfl | omega | (simp; done) | (simp; omega)), (by first | rfl | omega | (simp; done) | (simp; omega)), (by first | rfl | omega | (simp; done) | (simp; omega)), trivial⟩)), ⟨n0, (itemA (DAttr.mk vb7_0 vb7_1 vb7_2) s w10).2.1, v9 + 1, ((itemA (DAttr.mk vb7_0 vb7_1 vb7_2) s w10).1).fID, gvb7_1 + 1, ((itemA (DAttr.mk vb7_0 vb7_1 vb7_2) s w10).1).fClasses, gvb7_2 + 1, ((itemA (DAttr.mk vb7_0 vb7_1 vb7_2) s w10).1).fPairs, by first | omega | assumption | (simp only [lenM_eq]; omega) | (simp; done) | (simp; omega), by first | omega | assumption | (simp only [lenM_eq]; omega) | (simp; done) | (simp; omega), by first | omega | assumption | (simp only [lenM_eq]; omega) | (simp; done) | (simp; omega), by first | omega | assumption | (simp only [lenM_eq]; omega) | (simp; done) | (simp; omega), by first | omega | assumption | (simp only [lenM_eq]; omega) | (simp; done) | (simp; omega), by rw [← hE1]; rw [parR_L1]; exact ((cF hb6).trans ((cF hb8).trans ((cF hb11).trans (cF hb12)))).symm, rfl, rfl⟩⟩
    · refine W_condF (b := decide ((((v9 : Nat) : Int) : Int) ≤ ((ByteArray.size (s) : Nat) : Int))) (by kernel_rfl) hb4 ?_
      have hb4p := of_decide_eq_false hb4
      refine W_runX [] (.exit 0) 92 [(4, (.ptr 4 0))] [(4, (.cells 38 [(jS (⟨#[]⟩)), .nil, .nil]))] [((1001, 10), gvb7_1), ((1002, 44), gvb7_2)] an (by kernel_rfl) ?_
      refine skipS ?_ (by simp)
      refine skipS ?_ (by simp)
      refine hit ?_
      show W _ _ _ _
      refine W_runX [] .ret 92 [(4, (.ptr 4 0)), (5, (jI (0))), (6, (jI (5)))] [(4, (.cells 38 [(jS (⟨#[]⟩)), .nil, .nil]))] [((1001, 10), gvb7_1), ((1002, 44), gvb7_2)] (akn 4 an) (by kernel_rfl) ?_
      exact ends (r := (.av (.tup [(.agg [(vS (⟨#[]⟩)), (.sl []), (.sl [])]), (vI (0)), (vI (5))]))) (by simp) (by kernel_rfl) (by rw [show parR s i = (DAttr.mk (⟨#[]⟩) ([]) ([]), 0, 5) from by rw [← hE0]; rw [parR_L0]; exact (cF hb4)]; first | done | first | rfl | (simp [strAV, vU, aPair_eq, aAttr_eq, aCited_eq, aInline_eq, aBlock_eq, aDoc_eq, aPoint_eq, aRange_eq, cPair, cAttr, cCited, cInline, cBlock, cDoc, cPoint, cRange]; done)) (by simp) (by simp)
end Go.Proofs.YtdaglbjgdakmcaaGreat
namespace Go.Proofs.YtdaglbjgdakmcaaGreat
open Go Go.Eng
def parQ (s : ByteArray) (r : DAttr × Int × Int) : Prop := 0 ≤ r.2.1 ∧ r.2.1 ≤ s.size + 1
theorem parQ_err (s : ByteArray) (e : Int) : parQ s (DAttr.mk (⟨#[]⟩) ([]) ([]), 0, e) := ⟨Int.le_refl 0, (show (0 : Int) ≤ s.size + 1 by omega)⟩
theorem parR_L1_bd (s : ByteArray) (i v8 : Int) (v9 : Nat) (a0 : ByteArray) (a1 : List ByteArray) (a2 : List DPair) (k0 : Int → Nat → ByteArray → (List ByteArray) → (List DPair) → (DAttr × Int × Int)) (h1 : a1.length ≤ 32) (h2 : a2.length ≤ 32)
    (hk : ∀ (p : Int) b1 b2 b3, 0 ≤ p → p ≤ s.size + 2 → b2.length ≤ 32 → b3.length ≤ 32 → parQ s (k0 p (v9 + 1) b1 b2 b3)) : ∀ (n : Nat) (w : Int), 0 ≤ w → s.size - w.toNat < n → parQ s (parR_L1 s i v8 v9 a0 a1 a2 k0 n w)
  | 0, w, h0, h => by omega
  | n + 1, w, h0, h => by
    rw [parR_L1]
    refine condP (parQ s) (fun q1 => ?_) (fun _ => condP (parQ s) (fun q1 => ?_) (fun _ => condP (parQ s) (fun _ => parQ_err s _) (fun q1 => condP (parQ s) (fun _ => parQ_err s _) (fun _ => ?_))))
    · have := of_decide_eq_true (cond_ff q1).1
      exact parR_L1_bd s i v8 v9 a0 a1 a2 k0 h1 h2 hk n _ (by omega) (by omega)
    · have := of_decide_eq_true (cond_ff q1).1
      exact ⟨(show (0 : Int) ≤ w + 1 by omega), (show w + 1 ≤ s.size + 1 by omega)⟩
    · have := of_decide_eq_false (cond_tt q1).1
      have hb := itemA_bd (DAttr.mk a0 a1 a2) s w (by omega) (by omega) h1 h2
      generalize itemA (DAttr.mk a0 a1 a2) s w = r at hb ⊢
      obtain ⟨b1, b2, b3, b4⟩ := hb
      exact hk _ _ _ _ b3 (Int.le_trans b4 (show (s.size : Int) + 1 ≤ s.size + 2 by omega)) b1 b2
theorem parR_L0_bd (s : ByteArray) (i : Int) : ∀ (n : Nat) (v8 : Int) (v9 : Nat) (a0 : ByteArray) (a1 : List ByteArray) (a2 : List DPair), 0 ≤ v8 → a1.length ≤ 32 → a2.length ≤ 32 → s.size + 1 - v9 < n → parQ s (parR_L0 s i n v8 v9 a0 a1 a2)
  | 0, v8, v9, a0, a1, a2, h0, h1, h2, h => by omega
  | n + 1, v8, v9, a0, a1, a2, h0, h1, h2, h => by
    rw [parR_L0]
    refine condP (parQ s) (fun q1 => ?_) (fun _ => parQ_err s _)
    have := of_decide_eq_true q1
    exact parR_L1_bd s i v8 v9 a0 a1 a2 _ h1 h2 (fun p b1 b2 b3 p1 p2 p3 p4 => parR_L0_bd s i n p _ b1 b2 b3 p1 p3 p4 (by omega)) _ _ h0 (by omega)
theorem parR_bd (s : ByteArray) (i : Int) : 0 ≤ (parR s i).2.1 ∧ (parR s i).2.1 ≤ s.size + 1 := by
  show parQ s (parR s i)
  unfold parR
  refine condP (parQ s) (fun _ => parQ_err s _) (fun q => ?_)
  have := of_decide_eq_false (cond_tt (cond_tt q).1).1
  exact parR_L0_bd s i _ _ _ _ _ _ (by omega) (by simp) (by simp) (by omega)
def endB_L2 (s : ByteArray) (v3 : Nat) (w3 : Nat) (k0 : Nat → Bool) (k1 : Nat → Bool) : Nat → Int → Bool
  | 0, _ => default
  | n2 + 1, x5 => cond (cond (decide ((x5 : Int) < ((ByteArray.size (s) : Nat) : Int))) (((((byt (s) (Int.toNat (x5)) : Nat) : Int) : Int) == 32)) (false)) (endB_L2 s v3 w3 k0 k1 n2 (x5 + 1)) (decide ((x5 : Int) ≥ ((ByteArray.size (s) : Nat) : Int)))
def endB_L1 (s : ByteArray) (v3 : Nat) (k0 : Nat → Bool) : Nat → Nat → Bool
  | 0, _ => default
  | n1 + 1, w3 => cond (cond (decide ((((w3 : Nat) : Int) : Int) < ((ByteArray.size (s) : Nat) : Int))) (((((byt (s) (w3) : Nat) : Int) : Int) == 32)) (false)) (endB_L1 s v3 k0 n1 (w3 + 1)) (cond (((((w3 : Nat) : Int) : Int) == ((ByteArray.size (s) : Nat) : Int))) (true) (cond ((((parR s (((w3 : Nat) : Int))).2.2 : Int) != 0)) (false) (endB_L2 s v3 w3 k0 (endB_L1 s v3 k0 n1) ((s.size - Int.toNat ((parR s (((w3 : Nat) : Int))).2.1)) + 1) ((parR s (((w3 : Nat) : Int))).2.1))))
def endB_L0 (s : ByteArray) : Nat → Nat → Bool
  | 0, _ => default
  | n0 + 1, v3 => cond (cond (decide ((((v3 : Nat) : Int) : Int) < ((ByteArray.size (s) : Nat) : Int))) (((((byt (s) (v3) : Nat) : Int) : Int) == 32)) (false)) (endB_L0 s n0 (v3 + 1)) (cond (cond (cond (decide ((((v3 : Nat) : Int) : Int) > 3)) (true) (decide ((((ByteArray.size (s) : Nat) : Int) : Int) < ((v3 + 2 : Nat) : Int)))) (true) ((!eqs (ByteArray.extract (s) (v3) (v3 + 2)) (⟨#[36, 36]⟩)))) (false) (endB_L1 s v3 (endB_L0 s n0) ((s.size - (v3 + 2)) + 1) (v3 + 2)))
def endB (s : ByteArray) : Bool := endB_L0 s ((s.size - (0)) + 1) 0
set_option maxRecDepth 100000 in
set_option maxHeartbeats 4000000 in
theorem endB_to (s : ByteArray) (hs : s.size ≤ 1073741824) : CallTo Tryz.prog 98 [(jS (s))] [] [] (jB (endB s)) [] [] := by
  refine BEG (fun r : Bool => (jB (r))) (endB s) Tryz.func98 (by kernel_rfl) ?_
  refine UF (endB.eq_1 ..) ?_
  refine GO (tn 2 z) (by kernel_rfl) ?_
  refine LP (fun N M S => ∃ v3 : Nat, (v3 ≤ s.size) ∧ (s.size - v3 < N) ∧ M = endB_L0 s N v3 ∧ S = (sx 79 [(0, (jS (s))), (3, (jI (((v3 : Nat) : Int))))] [] [])) (by kernel_rfl) ⟨_, by first | omega | assumption | (simp only [lenM_eq]; omega) | (simp; done) | (simp; omega), by omega, rfl, rfl⟩ (WK (by kernel_rfl)) ?_
  rintro n0 M S ⟨v3, hv, hF0, rfl, rfl⟩
  obtain ⟨n0, rfl⟩ : ∃ k, n0 = k + 1 := ⟨n0 - 1, by omega⟩
  refine UF (endB_L0.eq_2 ..) ?_
  refine GO (tn 5 (kj (decide ((((v3 : Nat) : Int) : Int) < ((ByteArray.size (s) : Nat) : Int))) (tn 2 (hp (fun h => by have j0 := h.2; have j0p := of_decide_eq_true j0; exact (ib (s) (((v3 : Nat) : Int)) (by omega))) (tn 1 z))) z z)) (by kernel_rfl) ?_
  refine CS (fun h1 => ?_) (fun h1 => ?_)
  · obtain ⟨h1a, h1o⟩ := cond_ff h1
    have h1ap := of_decide_eq_true h1a
    have h1op := eq_of_beq h1o
    refine GO (kb h1 (tn 1 (kn (wrE ((((v3 : Nat) : Int)) + 1) (((v3 + 1 : Nat) : Int)) (by omega)) (tn 1 z)))) (by kernel_rfl) ?_
    exact AG ⟨_, by first | omega | assumption | (simp only [lenM_eq]; omega) | (simp; done) | (simp; omega), by omega, rfl, rfl⟩ (WK (by kernel_rfl)) (by kernel_rfl) (Nat.lt_succ_self _)
  · refine GO (kb h1 z) (by kernel_rfl) ?_
    refine OUT (tn 3 (kj (decide ((((v3 : Nat) : Int) : Int) > 3)) z (tn 3 (hn (fun h => by have j0 := h.2; have j0p := of_decide_eq_false j0; exact (wrE ((((v3 : Nat) : Int)) + 2) (((v3 + 2 : Nat) : Int)) (by omega))) (tn 1 z))) (tn 1 (kj (cond (decide ((((v3 : Nat) : Int) : Int) > 3)) (true) (decide ((((ByteArray.size (s) : Nat) : Int) : Int) < ((v3 + 2 : Nat) : Int)))) z (tn 3 (hn (fun h => by have j0 := h.2; obtain ⟨j0a, j0o⟩ := cond_tt j0; have j0ap := of_decide_eq_false j0a; have j0op := of_decide_eq_false j0o; exact (wrE ((((v3 : Nat) : Int)) + 2) (((v3 + 2 : Nat) : Int)) (by omega))) (hp (fun h => by have j0 := h.2; obtain ⟨j0a, j0o⟩ := cond_tt j0; have j0ap := of_decide_eq_false j0a; have j0op := of_decide_eq_false j0o; have := size_ext (s) (v3) (v3 + 2); exact (show 0 ≤ (((v3 : Nat) : Int) : Int) ∧ (((v3 : Nat) : Int) : Int) ≤ ((v3 + 2 : Nat) : Int) ∧ ((v3 + 2 : Nat) : Int) ≤ ((ByteArray.size (s) : Nat) : Int) from (by first | omega | (simp only [lenM_eq, true_and]; omega)))) (tn 1 z)))) z)))) (by kernel_rfl) ?_
    refine CS (fun h2 => ?_) (fun h2 => ?_)
    · refine GO (kb h2 (tn 1 z)) (by kernel_rfl) ?_
      exact EN (by kernel_rfl)
    · obtain ⟨h2a, h2o⟩ := cond_tt h2
      obtain ⟨h2aa, h2ao⟩ := cond_tt h2a
      have h2aap := of_decide_eq_false h2aa
      have h2aop := of_decide_eq_false h2ao
      have h2on := notf h2o
      refine GO (kb h2 (tn 1 (kn (wrE ((((v3 : Nat) : Int)) + 2) (((v3 + 2 : Nat) : Int)) (by omega)) (tn 1 z)))) (by kernel_rfl) ?_
      refine LP (fun N M S => ∃ w3 : Nat, (w3 ≤ s.size) ∧ (s.size - w3 < N) ∧ M = endB_L1 s v3 (endB_L0 s n0) N w3 ∧ S = (sx 79 [(0, (jS (s))), (3, (jI (((w3 : Nat) : Int))))] [] [])) (by kernel_rfl) ⟨_, by first | omega | assumption | (simp only [lenM_eq]; omega) | (simp; done) | (simp; omega), by omega, rfl, rfl⟩ (WK (by kernel_rfl)) ?_
      rintro n1 M S ⟨w3, hw, hF1, rfl, rfl⟩
      obtain ⟨n1, rfl⟩ : ∃ k, n1 = k + 1 := ⟨n1 - 1, by omega⟩
      refine UF (endB_L1.eq_2 ..) ?_
      refine GO (tn 5 (kj (decide ((((w3 : Nat) : Int) : Int) < ((ByteArray.size (s) : Nat) : Int))) (tn 2 (hp (fun h => by have j0 := h.2; have j0p := of_decide_eq_true j0; exact (ib (s) (((w3 : Nat) : Int)) (by omega))) (tn 1 z))) z z)) (by kernel_rfl) ?_
      refine CS (fun h3 => ?_) (fun h3 => ?_)
      · obtain ⟨h3a, h3o⟩ := cond_ff h3
        have h3ap := of_decide_eq_true h3a
        have h3op := eq_of_beq h3o
        refine GO (kb h3 (tn 1 (kn (wrE ((((w3 : Nat) : Int)) + 1) (((w3 + 1 : Nat) : Int)) (by omega)) (tn 1 z)))) (by kernel_rfl) ?_
        exact AG ⟨_, by first | omega | assumption | (simp only [lenM_eq]; omega) | (simp; done) | (simp; omega), by omega, rfl, rfl⟩ (WK (by kernel_rfl)) (by kernel_rfl) (Nat.lt_succ_self _)
      · refine GO (kb h3 z) (by kernel_rfl) ?_
        refine OUT (tn 4 z) (by kernel_rfl) ?_
        refine CSe (fun h4p h4 => ?_) (fun h4p h4 => ?_)
        · refine GO (kb h4 (tn 1 z)) (by kernel_rfl) ?_
          exact EN (by kernel_rfl)
        · have := parR_bd s (((w3 : Nat) : Int))
          refine GO (kb h4 (tn 2 (kc (parR_to s (((w3 : Nat) : Int)) (by first | assumption | omega | decide | (simp; done) | (simp; omega))) (tn 10 z)))) (by kernel_rfl) ?_
          refine CSn (fun h5p h5 => ?_) (fun h5p h5 => ?_)
          · refine GO (kb h5 (tn 1 z)) (by kernel_rfl) ?_
            exact EN (by kernel_rfl)
          · refine GO (kb h5 z) (by kernel_rfl) ?_
            refine LP (fun N M S => ∃ x5 : Int, (0 ≤ x5) ∧ (x5 ≤ s.size + 1) ∧ (s.size - Int.toNat x5 < N) ∧ M = endB_L2 s v3 w3 (endB_L0 s n0) (endB_L1 s v3 (endB_L0 s n0) n1) N x5 ∧ S = (sx 79 [(0, (jS (s))), (5, (jI (x5)))] [] [])) (by kernel_rfl) ⟨_, by first | omega | assumption | (simp only [lenM_eq]; omega) | (simp; done) | (simp; omega), by first | omega | assumption | (simp only [lenM_eq]; omega) | (simp; done) | (simp; omega), by omega, rfl, rfl⟩ (WK (by kernel_rfl)) ?_
            rintro n2 M S ⟨x5, hx, hx2, hF2, rfl, rfl⟩
            obtain ⟨n2, rfl⟩ : ∃ k, n2 = k + 1 := ⟨n2 - 1, by omega⟩
            refine UF (endB_L2.eq_2 ..) ?_
            refine GO (tn 5 (kj (decide ((x5 : Int) < ((ByteArray.size (s) : Nat) : Int))) (tn 2 (hp (fun h => by have j0 := h.2; have j0p := of_decide_eq_true j0; exact (ib (s) (x5) (by omega))) (tn 1 z))) z z)) (by kernel_rfl) ?_
            refine CS (fun h6 => ?_) (fun h6 => ?_)
            · obtain ⟨h6a, h6o⟩ := cond_ff h6
              have h6ap := of_decide_eq_true h6a
              have h6op := eq_of_beq h6o
              refine GO (kb h6 (tn 1 (kn (wrE ((x5) + 1) (x5 + 1) (by omega)) (tn 1 z)))) (by kernel_rfl) ?_
              exact AG ⟨_, by first | omega | assumption | (simp only [lenM_eq]; omega) | (simp; done) | (simp; omega), by first | omega | assumption | (simp only [lenM_eq]; omega) | (simp; done) | (simp; omega), by omega, rfl, rfl⟩ (WK (by kernel_rfl)) (by kernel_rfl) (Nat.lt_succ_self _)
            · refine GO (kb h6 z) (by kernel_rfl) ?_
              refine OUT (tn 5 z) (by kernel_rfl) ?_
              exact EN (by kernel_rfl)
def closB_L0 (s : ByteArray) : Nat → Nat → Nat → Bool
  | 0, _, _ => default
  | n0 + 1, v3, v4 => cond (decide ((((v4 : Nat) : Int) : Int) < ((ByteArray.size (s) : Nat) : Int))) (cond (((((byt (s) (v4) : Nat) : Int) : Int) == 10)) (cond (endB (ByteArray.extract (s) (v3) (v4))) (true) (closB_L0 s n0 (v4 + 1) (v4 + 1))) (closB_L0 s n0 v3 (v4 + 1))) (false)
def closB (s : ByteArray) : Bool := closB_L0 s ((ByteArray.size (s) - (0)) + 1) 0 0
set_option maxRecDepth 100000 in
set_option maxHeartbeats 4000000 in
theorem closB_to (s : ByteArray) (hs : s.size ≤ 1073741824) : CallTo Tryz.prog 79 [(jS (s))] [] [] (jB (closB s)) [] [] := by
  refine BEG (fun r : Bool => (jB (r))) (closB s) Tryz.func79 (by kernel_rfl) ?_
  refine UF (closB.eq_1 ..) ?_
  refine GO (tn 3 z) (by kernel_rfl) ?_
  refine LP (fun N M S => ∃ v3 : Nat, ∃ v4 : Nat, (v3 ≤ v4) ∧ (v4 ≤ s.size) ∧ (ByteArray.size (s) - v4 < N) ∧ M = closB_L0 s N v3 v4 ∧ S = (sx 22 [(0, (jS (s))), (3, (jI (((v3 : Nat) : Int)))), (4, (jI (((v4 : Nat) : Int))))] [] [])) (by kernel_rfl) ⟨_, _, by first | omega | assumption | (simp only [lenM_eq]; omega) | (simp; done) | (simp; omega), by first | omega | assumption | (simp only [lenM_eq]; omega) | (simp; done) | (simp; omega), by omega, rfl, rfl⟩ (WK (by kernel_rfl)) ?_
  rintro n0 M S ⟨v3, v4, hv, hv2, hF0, rfl, rfl⟩
  obtain ⟨n0, rfl⟩ : ∃ k, n0 = k + 1 := ⟨n0 - 1, by omega⟩
  refine UF (closB_L0.eq_2 ..) ?_
  refine GO (tn 4 z) (by kernel_rfl) ?_
  refine CSd (fun h1p h1 => ?_) (fun h1p h1 => ?_)
  · refine GO (kb h1 (tn 2 (kp (ib (s) (((v4 : Nat) : Int)) (by omega)) (tn 1 z)))) (by kernel_rfl) ?_
    refine CSe (fun h2p h2 => ?_) (fun h2p h2 => ?_)
    · have := size_ext (s) (v3) (v4)
      refine GO (kb h2 (tn 3 (kp (show 0 ≤ (((v3 : Nat) : Int) : Int) ∧ (((v3 : Nat) : Int) : Int) ≤ ((v4 : Nat) : Int) ∧ ((v4 : Nat) : Int) ≤ ((ByteArray.size (s) : Nat) : Int) from (by first | omega | (simp only [lenM_eq, true_and]; omega))) (kc (endB_to (ByteArray.extract (s) (v3) (v4)) (by first | assumption | omega | decide | (simp; done) | (simp; omega))) z)))) (by kernel_rfl) ?_
      refine CS (fun h3 => ?_) (fun h3 => ?_)
      · refine GO (kb h3 (tn 1 z)) (by kernel_rfl) ?_
        refine OUT z (by kernel_rfl) ?_
        exact EN (by kernel_rfl)
      · refine GO (kb h3 (tn 1 (kn (wrE ((((v4 : Nat) : Int)) + 1) (((v4 + 1 : Nat) : Int)) (by omega)) (tn 2 (kn (wrE ((((v4 : Nat) : Int)) + 1) (((v4 + 1 : Nat) : Int)) (by omega)) (tn 1 z)))))) (by kernel_rfl) ?_
        exact AG ⟨_, _, by first | omega | assumption | (simp only [lenM_eq]; omega) | (simp; done) | (simp; omega), by first | omega | assumption | (simp only [lenM_eq]; omega) | (simp; done) | (simp; omega), by omega, rfl, rfl⟩ (WK (by kernel_rfl)) (by kernel_rfl) (Nat.lt_succ_self _)
    · refine GO (kb h2 (tn 1 (kn (wrE ((((v4 : Nat) : Int)) + 1) (((v4 + 1 : Nat) : Int)) (by omega)) (tn 1 z)))) (by kernel_rfl) ?_
      exact AG ⟨_, _, by first | omega | assumption | (simp only [lenM_eq]; omega) | (simp; done) | (simp; omega), by first | omega | assumption | (simp only [lenM_eq]; omega) | (simp; done) | (simp; omega), by omega, rfl, rfl⟩ (WK (by kernel_rfl)) (by kernel_rfl) (Nat.lt_succ_self _)
  · refine GO (kb h1 z) (by kernel_rfl) ?_
    refine OUT (tn 1 z) (by kernel_rfl) ?_
    exact EN (by kernel_rfl)
end Go.Proofs.YtdaglbjgdakmcaaGreat
namespace Go.Proofs.YtdaglbjgdakmcaaGreat
open Go Go.Eng
def tgtE (x : DInline) : Int := cond (cond ((!eqs (x.fText) (⟨#[]⟩))) (cond ((!eqs (x.fDest) (⟨#[]⟩))) (true) ((!eqs (x.fTitle) (⟨#[]⟩)))) (false)) (5) (cond (cond ((!eqs (x.fText) (⟨#[]⟩))) ((!labelB x.fText)) (false)) (6) (cond (cond ((!lineB x.fDest)) (true) ((!lineB x.fTitle))) (17) (cond (cond (((x.fKind : Int) == 9)) (anyE x.fKids false) (false)) (5) (cond (((x.fKind : Int) == 10)) (chkA x.fAttr) (0)))))
set_option maxRecDepth 100000 in
set_option maxHeartbeats 4000000 in
theorem tgtE_to (x : DInline) (hx : wInline x ≤ 1073741824) : CallTo Tryz.prog 124 [(.av (cInline x))] [] [] (jI (tgtE x)) [] [] := by
  have hwx := wInline_eq x
  have hwxa := wAttr_eq x.fAttr
  simp only [wStr, w1] at hwx
  refine BEG (fun r : Int => (jI (r))) (tgtE x) Tryz.func124 (by kernel_rfl) ?_
  refine UF (tgtE.eq_1 ..) ?_
  refine GO (tn 6 (kj ((!eqs (x.fText) (⟨#[]⟩))) (tn 4 (kj ((!eqs (x.fDest) (⟨#[]⟩))) z (tn 3 z) z)) z z)) (by kernel_rfl) ?_
  refine CS (fun h1 => ?_) (fun h1 => ?_)
  · obtain ⟨h1a, h1o⟩ := cond_ff h1
    have h1an := nott h1a
    have h1az := size_neqs_t h1a
    refine GO (kb h1 (tn 1 z)) (by kernel_rfl) ?_
    exact EN (by kernel_rfl)
  · refine GO (kb h1 (tn 4 (kj ((!eqs (x.fText) (⟨#[]⟩))) (tn 2 (hc (fun h => by have j0 := h.2; have j0n := nott j0; have j0z := size_neqs_t j0; exact (labelB_to x.fText (by first | assumption | omega | decide | (simp; done) | (simp; omega)))) (tn 1 z))) z z))) (by kernel_rfl) ?_
    refine CS (fun h2 => ?_) (fun h2 => ?_)
    · obtain ⟨h2a, h2o⟩ := cond_ff h2
      have h2an := nott h2a
      have h2az := size_neqs_t h2a
      have h2on := nott h2o
      refine GO (kb h2 (tn 1 z)) (by kernel_rfl) ?_
      exact EN (by kernel_rfl)
    · refine GO (kb h2 (tn 2 (kc (lineB_to x.fDest (by first | assumption | omega | decide | (simp; done) | (simp; omega))) (tn 2 (kj ((!lineB x.fDest)) z (tn 2 (hc (fun h => by have j0 := h.2; have j0n := notf j0; exact (lineB_to x.fTitle (by first | assumption | omega | decide | (simp; done) | (simp; omega)))) (tn 1 z))) z))))) (by kernel_rfl) ?_
      refine CS (fun h3 => ?_) (fun h3 => ?_)
      · refine GO (kb h3 (tn 1 z)) (by kernel_rfl) ?_
        exact EN (by kernel_rfl)
      · obtain ⟨h3a, h3o⟩ := cond_tt h3
        have h3an := notf h3a
        have h3on := notf h3o
        refine GO (kb h3 (tn 4 (kj (((x.fKind : Int) == 9)) (tn 2 (hc (fun h => by have j0 := h.2; have j0p := eq_of_beq j0; exact (anyE_to x.fKids false (by first | assumption | omega | decide | (simp; done) | (simp; omega)))) z)) z z))) (by kernel_rfl) ?_
        refine CS (fun h4 => ?_) (fun h4 => ?_)
        · obtain ⟨h4a, h4o⟩ := cond_ff h4
          have h4ap := eq_of_beq h4a
          refine GO (kb h4 (tn 1 z)) (by kernel_rfl) ?_
          exact EN (by kernel_rfl)
        · refine GO (kb h4 (tn 3 z)) (by kernel_rfl) ?_
          refine CSe (fun h5p h5 => ?_) (fun h5p h5 => ?_)
          · refine GO (kb h5 (tn 2 (kc (chkA_to x.fAttr (by first | assumption | omega | decide | (simp; done) | (simp; omega))) (tn 1 z)))) (by kernel_rfl) ?_
            exact EN (by kernel_rfl)
          · refine GO (kb h5 (tn 1 z)) (by kernel_rfl) ?_
            exact EN (by kernel_rfl)
def oneE (x : DInline) (before : Int) (first : Bool) (last : Bool) : Int := cond ((!inlF x)) (5) (cond (cond (((x.fKind : Int) == 1)) (((x.fKind : Int) == 1)) (cond (((x.fKind : Int) == 4)) (((x.fKind : Int) == 4)) (((x.fKind : Int) == 5)))) (cond (cond (eqs (x.fText) (⟨#[]⟩)) (true) ((!lineB x.fText))) (17) (cond (cond (((x.fKind : Int) != 5)) (((before : Int) == x.fKind)) (false)) (5) (0))) (cond (((x.fKind : Int) == 2)) (cond (cond (cond (cond (((before : Int) == 2)) (true) (((before : Int) == 3))) (true) (first)) (true) (last)) (5) (0)) (cond (((x.fKind : Int) == 3)) (cond (last) (5) (0)) (cond (cond (((x.fKind : Int) == 6)) (((x.fKind : Int) == 6)) (cond (((x.fKind : Int) == 7)) (((x.fKind : Int) == 7)) (((x.fKind : Int) == 8)))) (cond (((((lenM aInline x.fKids : Nat) : Int) : Int) == 0)) (8) (0)) (cond (cond (((x.fKind : Int) == 9)) (((x.fKind : Int) == 9)) (((x.fKind : Int) == 10))) (tgtE x) (cond (((x.fKind : Int) == 11)) (cond (noAttr x.fAttr) (8) (chkA x.fAttr)) (cond (cond (((x.fKind : Int) == 12)) (((x.fKind : Int) == 12)) (cond (((x.fKind : Int) == 14)) (((x.fKind : Int) == 14)) (((x.fKind : Int) == 15)))) (namedE x) (cond (((x.fKind : Int) == 13)) (citesE x.fCites) (cond (((x.fKind : Int) == 16)) (cond ((!autoB x.fDest)) (5) (0)) (0))))))))))
set_option maxRecDepth 100000 in
set_option maxHeartbeats 4000000 in
theorem oneE_to (x : DInline) (before : Int) (first : Bool) (last : Bool) (hx : wInline x ≤ 1073741824) : CallTo Tryz.prog 120 [(.av (cInline x)), (jI (before)), (jB (first)), (jB (last))] [] [] (jI (oneE x before first last)) [] [] := by
  have hwx := wInline_eq x
  have hwxa := wAttr_eq x.fAttr
  simp only [wStr, w1] at hwx
  refine BEG (fun r : Int => (jI (r))) (oneE x before first last) Tryz.func120 (by kernel_rfl) ?_
  refine UF (oneE.eq_1 ..) ?_
  refine GO (tn 3 (kc (inlF_to x) (tn 1 z))) (by kernel_rfl) ?_
  refine CS (fun h1 => ?_) (fun h1 => ?_)
  · have h1n := nott h1
    refine GO (kb h1 (tn 1 z)) (by kernel_rfl) ?_
    exact EN (by kernel_rfl)
  · have h1n := notf h1
    refine GO (kb h1 (tn 4 (ks (((x.fKind : Int) == 1)) [14] z (tn 2 (ks (((x.fKind : Int) == 4)) [14] z (tn 2 z) z)) z))) (by kernel_rfl) ?_
    refine CS (fun h2 => ?_) (fun h2 => ?_)
    · refine GO (kb h2 (tn 4 (kj (eqs (x.fText) (⟨#[]⟩)) z (tn 2 (hc (fun h => by have j0 := h.2; have j0z := size_eqs_f j0; exact (lineB_to x.fText (by first | assumption | omega | decide | (simp; done) | (simp; omega)))) (tn 1 z))) z))) (by kernel_rfl) ?_
      refine CS (fun h3 => ?_) (fun h3 => ?_)
      · refine GO (kb h3 (tn 1 z)) (by kernel_rfl) ?_
        exact EN (by kernel_rfl)
      · obtain ⟨h3a, h3o⟩ := cond_tt h3
        have h3az := size_eqs_f h3a
        have h3on := notf h3o
        refine GO (kb h3 (tn 4 (kj (((x.fKind : Int) != 5)) (tn 4 z) z z))) (by kernel_rfl) ?_
        refine CS (fun h4 => ?_) (fun h4 => ?_)
        · obtain ⟨h4a, h4o⟩ := cond_ff h4
          have h4ap := bne_iff_ne.1 h4a
          have h4op := eq_of_beq h4o
          refine GO (kb h4 (tn 1 z)) (by kernel_rfl) ?_
          exact EN (by kernel_rfl)
        · refine GO (kb h4 (tn 1 z)) (by kernel_rfl) ?_
          exact EN (by kernel_rfl)
    · refine GO (kb h2 (tn 2 z)) (by kernel_rfl) ?_
      refine CSe (fun h5p h5 => ?_) (fun h5p h5 => ?_)
      · refine GO (kb h5 (tn 3 (kj (((before : Int) == 2)) z (tn 2 z) (tn 1 (kj (cond (((before : Int) == 2)) (true) (((before : Int) == 3))) z (tn 1 z) (tn 1 (kj (cond (cond (((before : Int) == 2)) (true) (((before : Int) == 3))) (true) (first)) z (tn 1 z) z))))))) (by kernel_rfl) ?_
        refine CS (fun h6 => ?_) (fun h6 => ?_)
        · refine GO (kb h6 (tn 1 z)) (by kernel_rfl) ?_
          exact EN (by kernel_rfl)
        · obtain ⟨h6a, h6o⟩ := cond_tt h6
          obtain ⟨h6aa, h6ao⟩ := cond_tt h6a
          obtain ⟨h6aaa, h6aao⟩ := cond_tt h6aa
          have h6aaap := ne_of_beq_false h6aaa
          have h6aaop := ne_of_beq_false h6aao
          refine GO (kb h6 (tn 1 z)) (by kernel_rfl) ?_
          exact EN (by kernel_rfl)
      · refine GO (kb h5 (tn 2 z)) (by kernel_rfl) ?_
        refine CSe (fun h7p h7 => ?_) (fun h7p h7 => ?_)
        · refine GO (kb h7 (tn 1 z)) (by kernel_rfl) ?_
          refine CS (fun h8 => ?_) (fun h8 => ?_)
          · refine GO (kb h8 (tn 1 z)) (by kernel_rfl) ?_
            exact EN (by kernel_rfl)
          · refine GO (kb h8 (tn 1 z)) (by kernel_rfl) ?_
            exact EN (by kernel_rfl)
        · refine GO (kb h7 (tn 2 (ks (((x.fKind : Int) == 6)) [53] z (tn 2 (ks (((x.fKind : Int) == 7)) [53] z (tn 2 z) z)) z))) (by kernel_rfl) ?_
          refine CS (fun h9 => ?_) (fun h9 => ?_)
          · refine GO (kb h9 (tn 4 z)) (by kernel_rfl) ?_
            refine CSe (fun h10p h10 => ?_) (fun h10p h10 => ?_)
            · have := lenM_eq aInline x.fKids
              refine GO (kb h10 (tn 1 z)) (by kernel_rfl) ?_
              exact EN (by kernel_rfl)
            · have := lenM_eq aInline x.fKids
              refine GO (kb h10 (tn 1 z)) (by kernel_rfl) ?_
              exact EN (by kernel_rfl)
          · refine GO (kb h9 (tn 2 (ks (((x.fKind : Int) == 9)) [61] z (tn 2 z) z))) (by kernel_rfl) ?_
            refine CS (fun h11 => ?_) (fun h11 => ?_)
            · refine GO (kb h11 (tn 1 (kc (tgtE_to x (by first | assumption | omega | decide | (simp; done) | (simp; omega))) (tn 1 z)))) (by kernel_rfl) ?_
              exact EN (by kernel_rfl)
            · refine GO (kb h11 (tn 2 z)) (by kernel_rfl) ?_
              refine CSe (fun h12p h12 => ?_) (fun h12p h12 => ?_)
              · refine GO (kb h12 (tn 2 (kc (noAttr_to x.fAttr) z))) (by kernel_rfl) ?_
                refine CS (fun h13 => ?_) (fun h13 => ?_)
                · refine GO (kb h13 (tn 1 z)) (by kernel_rfl) ?_
                  exact EN (by kernel_rfl)
                · refine GO (kb h13 (tn 2 (kc (chkA_to x.fAttr (by first | assumption | omega | decide | (simp; done) | (simp; omega))) (tn 1 z)))) (by kernel_rfl) ?_
                  exact EN (by kernel_rfl)
              · refine GO (kb h12 (tn 2 (ks (((x.fKind : Int) == 12)) [74] z (tn 2 (ks (((x.fKind : Int) == 14)) [74] z (tn 2 z) z)) z))) (by kernel_rfl) ?_
                refine CS (fun h14 => ?_) (fun h14 => ?_)
                · refine GO (kb h14 (tn 1 (kc (namedE_to x (by first | assumption | omega | decide | (simp; done) | (simp; omega))) (tn 1 z)))) (by kernel_rfl) ?_
                  exact EN (by kernel_rfl)
                · refine GO (kb h14 (tn 2 z)) (by kernel_rfl) ?_
                  refine CSe (fun h15p h15 => ?_) (fun h15p h15 => ?_)
                  · refine GO (kb h15 (tn 2 (kc (citesE_to x.fCites (by first | assumption | omega | decide | (simp; done) | (simp; omega))) (tn 1 z)))) (by kernel_rfl) ?_
                    exact EN (by kernel_rfl)
                  · refine GO (kb h15 (tn 2 z)) (by kernel_rfl) ?_
                    refine CSe (fun h16p h16 => ?_) (fun h16p h16 => ?_)
                    · refine GO (kb h16 (tn 2 (kc (autoB_to x.fDest (by first | assumption | omega | decide | (simp; done) | (simp; omega))) (tn 1 z)))) (by kernel_rfl) ?_
                      refine CS (fun h17 => ?_) (fun h17 => ?_)
                      · have h17n := nott h17
                        refine GO (kb h17 (tn 1 z)) (by kernel_rfl) ?_
                        exact EN (by kernel_rfl)
                      · have h17n := notf h17
                        refine GO (kb h17 (tn 1 z)) (by kernel_rfl) ?_
                        exact EN (by kernel_rfl)
                    · refine GO (kb h16 (tn 1 z)) (by kernel_rfl) ?_
                      exact EN (by kernel_rfl)
end Go.Proofs.YtdaglbjgdakmcaaGreat
namespace Go.Proofs.YtdaglbjgdakmcaaGreat
open Go Go.Eng
def listES_L0 (rec : (List DInline) → Int → Int) (l : List DInline) (depth : Int) : Nat → Int → Nat → Int
  | 0, _, _ => default
  | n0 + 1, v5, v6 => cond (decide ((((v6 : Nat) : Int) : Int) < ((lenM aInline l : Nat) : Int))) (cond (decide ((depth : Int) > 15)) (11) (cond (((oneE (el l v6) v5 (cond (((depth : Int) == 0)) (((((v6 : Nat) : Int) : Int) == 0)) (false)) (cond (((depth : Int) == 0)) (((((v6 : Nat) : Int) : Int) == (((lenM aInline l : Nat) : Int)) - 1)) (false)) : Int) != 0)) (oneE (el l v6) v5 (cond (((depth : Int) == 0)) (((((v6 : Nat) : Int) : Int) == 0)) (false)) (cond (((depth : Int) == 0)) (((((v6 : Nat) : Int) : Int) == (((lenM aInline l : Nat) : Int)) - 1)) (false))) (cond (((rec ((el l v6).fKids) (depth + 1) : Int) != 0)) (rec ((el l v6).fKids) (depth + 1)) (listES_L0 rec l depth n0 ((el l v6).fKind) (v6 + 1))))) (0)
def listES (rec : (List DInline) → Int → Int) (l : List DInline) (depth : Int) : Int := listES_L0 rec l depth ((List.length l - (0)) + 1) 0 0
set_option maxRecDepth 100000 in
set_option maxHeartbeats 4000000 in
theorem listE_st (rec : (List DInline) → Int → Int) (l : List DInline) (depth : Int) (hl : wl wInline l ≤ 1073741824) (hd : 0 ≤ depth) (hd2 : depth ≤ 20) (hrec : ∀ (l' : List DInline) (depth' : Int), wl wInline l' < wl wInline l → wl wInline l' ≤ 1073741824 → 0 ≤ depth' → depth' ≤ 20 → CallTo Tryz.prog 114 [(jL ((l').map aInline)), (jI (depth'))] [] [] (jI (rec l' depth')) [] []) : CallTo Tryz.prog 114 [(jL (l.map aInline)), (jI (depth))] [] [] (jI (listES rec l depth)) [] [] := by
  have hw_0 := wl_len (w := wInline) wInline_pos l
  refine BEG (fun r : Int => (jI (r))) (listES rec l depth) Tryz.func114 (by kernel_rfl) ?_
  refine UF (listES.eq_1 ..) ?_
  refine GO (tn 3 z) (by kernel_rfl) ?_
  refine LP (fun N M S => ∃ v5 : Int, ∃ v6 : Nat, (List.length l - v6 < N) ∧ M = listES_L0 rec l depth N v5 v6 ∧ S = (sx 56 [(0, (jL (l.map aInline))), (1, (jI (depth))), (5, (jI (v5))), (6, (jI (((v6 : Nat) : Int))))] [] [])) (by kernel_rfl) ⟨_, _, by omega, rfl, rfl⟩ (WK (by kernel_rfl)) ?_
  rintro n0 M S ⟨v5, v6, hF0, rfl, rfl⟩
  obtain ⟨n0, rfl⟩ : ∃ k, n0 = k + 1 := ⟨n0 - 1, by omega⟩
  refine UF (listES_L0.eq_2 ..) ?_
  refine GO (tn 4 z) (by kernel_rfl) ?_
  refine CSd (fun h1p h1 => ?_) (fun h1p h1 => ?_)
  · have := lenM_eq aInline l
    have hce := wl_el (w := wInline) (l := l) (i := v6) (by omega)
    have hcw := wInline_eq (el l v6)
    simp only [wStr, w1] at hcw
    refine GO (kb h1 (tn 2 z)) (by kernel_rfl) ?_
    refine CSd (fun h2p h2 => ?_) (fun h2p h2 => ?_)
    · refine GO (kb h2 (tn 1 z)) (by kernel_rfl) ?_
      refine OUT z (by kernel_rfl) ?_
      exact EN (by kernel_rfl)
    · refine GO (kb h2 (tn 2 (ke (el_aInline l v6 (by first | omega | (simp only [lenM_eq, true_and]; omega))) (tn 5 (kj (((depth : Int) == 0)) (tn 2 z) z (tn 3 (kj (((depth : Int) == 0)) (tn 3 (hn (fun h => by have j0 := h.2; have j0p := eq_of_beq j0; exact (wrE ((((lenM aInline l : Nat) : Int)) - 1) ((((lenM aInline l : Nat) : Int)) - 1) (by omega))) (tn 1 z))) z (kc (oneE_to (el l v6) v5 (cond (((depth : Int) == 0)) (((((v6 : Nat) : Int) : Int) == 0)) (false)) (cond (((depth : Int) == 0)) (((((v6 : Nat) : Int) : Int) == (((lenM aInline l : Nat) : Int)) - 1)) (false)) (by first | assumption | omega | decide | (simp; done) | (simp; omega))) (tn 3 z))))))))) (by kernel_rfl) ?_
      refine CSn (fun h3p h3 => ?_) (fun h3p h3 => ?_)
      · have := lenM_eq aInline l
        refine GO (kb h3 (tn 2 z)) (by kernel_rfl) ?_
        refine OUT z (by kernel_rfl) ?_
        exact EN (by kernel_rfl)
      · have := lenM_eq aInline l
        refine GO (kb h3 (tn 2 (ke (el_aInline l v6 (by first | omega | (simp only [lenM_eq, true_and]; omega))) (tn 3 (kn (wrE ((depth) + 1) (depth + 1) (by omega)) (kc (hrec ((el l v6).fKids) (depth + 1) (by first | assumption | omega | decide | (simp; done) | (simp; omega)) (by first | assumption | omega | decide | (simp; done) | (simp; omega)) (by first | assumption | omega | decide | (simp; done) | (simp; omega)) (by first | assumption | omega | decide | (simp; done) | (simp; omega))) (tn 3 z))))))) (by kernel_rfl) ?_
        refine CSn (fun h4p h4 => ?_) (fun h4p h4 => ?_)
        · refine GO (kb h4 (tn 2 z)) (by kernel_rfl) ?_
          refine OUT z (by kernel_rfl) ?_
          exact EN (by kernel_rfl)
        · refine GO (kb h4 (tn 2 (ke (el_aInline l v6 (by first | omega | (simp only [lenM_eq, true_and]; omega))) (tn 4 (kn (wrE ((((v6 : Nat) : Int)) + 1) (((v6 + 1 : Nat) : Int)) (by omega)) (tn 1 z)))))) (by kernel_rfl) ?_
          exact AG ⟨_, _, by omega, rfl, rfl⟩ (WK (by kernel_rfl)) (by kernel_rfl) (Nat.lt_succ_self _)
  · have := lenM_eq aInline l
    refine GO (kb h1 z) (by kernel_rfl) ?_
    refine OUT (tn 1 z) (by kernel_rfl) ?_
    exact EN (by kernel_rfl)
def listEN : Nat → (List DInline) → Int → Int
  | 0, _, _ => default
  | n + 1, l, depth => listES (listEN n) l depth
theorem listEN_to : ∀ (n : Nat) (l : List DInline) (depth : Int), wl wInline l < n → wl wInline l ≤ 1073741824 → 0 ≤ depth → depth ≤ 20 → CallTo Tryz.prog 114 [(jL (l.map aInline)), (jI (depth))] [] [] (jI (listEN n l depth)) [] []
  | 0, l, depth, h0, _, _, _ => absurd h0 (Nat.not_lt_zero _)
  | n + 1, l, depth, h0, hl, hd, hd2 => by
    exact listE_st (listEN n) l depth hl hd hd2 (fun l' depth' q1 hl' hd' hd2' => listEN_to n l' depth' (by omega) hl' hd' hd2')
def listE (l : List DInline) (depth : Int) : Int := listEN (wl wInline l + 1) l depth
theorem listE_to (l : List DInline) (depth : Int) (hl : wl wInline l ≤ 1073741824) (hd : 0 ≤ depth) (hd2 : depth ≤ 20) : CallTo Tryz.prog 114 [(jL (l.map aInline)), (jI (depth))] [] [] (jI (listE l depth)) [] [] := listEN_to _ l depth (Nat.lt_succ_self _) hl hd hd2
def lineE (l : List DInline) : Int := listE l 0
set_option maxRecDepth 100000 in
set_option maxHeartbeats 4000000 in
theorem lineE_to (l : List DInline) (hl : wl wInline l ≤ 1073741824) : CallTo Tryz.prog 97 [(jL (l.map aInline))] [] [] (jI (lineE l)) [] [] := by
  refine BEG (fun r : Int => (jI (r))) (lineE l) Tryz.func97 (by kernel_rfl) ?_
  refine UF (lineE.eq_1 ..) ?_
  refine GO (tn 2 (kc (listE_to l 0 (by first | assumption | omega | decide | (simp; done) | (simp; omega)) (by first | assumption | omega | decide | (simp; done) | (simp; omega)) (by first | assumption | omega | decide | (simp; done) | (simp; omega))) (tn 1 z))) (by kernel_rfl) ?_
  exact EN (by kernel_rfl)
end Go.Proofs.YtdaglbjgdakmcaaGreat
namespace Go.Proofs.YtdaglbjgdakmcaaGreat
open Go Go.Eng
def tabE_L1 (b : DBlock) (v3 : Nat) (k0 : Nat → Int) : Nat → Nat → Int
  | 0, _ => default
  | n1 + 1, w4 => cond (decide ((((w4 : Nat) : Int) : Int) < ((lenM aBlock b.fKids : Nat) : Int))) (cond (((((lenM aBlock ((el b.fKids w4).fKids) : Nat) : Int) : Int) != ((ByteArray.size (b.fInfo) : Nat) : Int))) (15) (tabE_L1 b v3 k0 n1 (w4 + 1))) (0)
def tabE_L0 (b : DBlock) : Nat → Nat → Int
  | 0, _ => default
  | n0 + 1, v3 => cond (decide ((((v3 : Nat) : Int) : Int) < ((ByteArray.size (b.fInfo) : Nat) : Int))) (cond ((!hasB (ByteArray.extract (b.fInfo) (v3) (v3 + 1)) (⟨#[45, 108, 99, 114]⟩))) (5) (tabE_L0 b n0 (v3 + 1))) (cond (((((lenM aBlock b.fKids : Nat) : Int) : Int) == 0)) (8) (tabE_L1 b v3 (tabE_L0 b n0) ((List.length b.fKids - (0)) + 1) 0))
def tabE (b : DBlock) : Int := cond (decide ((((ByteArray.size (b.fInfo) : Nat) : Int) : Int) > 32)) (3) (cond (eqs (b.fInfo) (⟨#[]⟩)) (5) (tabE_L0 b ((ByteArray.size (b.fInfo) - (0)) + 1) 0))
set_option maxRecDepth 100000 in
set_option maxHeartbeats 4000000 in
theorem tabE_to (b : DBlock) (hb : wBlock b ≤ 1073741824) : CallTo Tryz.prog 81 [(.av (cBlock b))] [] [] (jI (tabE b)) [] [] := by
  have hwb := wBlock_eq b
  simp only [wStr, w1] at hwb
  have hw_0 := wl_len (w := wBlock) wBlock_pos b.fKids
  refine BEG (fun r : Int => (jI (r))) (tabE b) Tryz.func81 (by kernel_rfl) ?_
  refine UF (tabE.eq_1 ..) ?_
  refine GO (tn 6 z) (by kernel_rfl) ?_
  refine CSd (fun h1p h1 => ?_) (fun h1p h1 => ?_)
  · refine GO (kb h1 (tn 1 z)) (by kernel_rfl) ?_
    exact EN (by kernel_rfl)
  · refine GO (kb h1 (tn 3 z)) (by kernel_rfl) ?_
    refine CS (fun h2 => ?_) (fun h2 => ?_)
    · have h2z := size_eqs_t h2
      refine GO (kb h2 (tn 1 z)) (by kernel_rfl) ?_
      exact EN (by kernel_rfl)
    · have h2z := size_eqs_f h2
      refine GO (kb h2 (tn 1 z)) (by kernel_rfl) ?_
      refine LP (fun N M S => ∃ v3 : Nat, (ByteArray.size (b.fInfo) - v3 < N) ∧ M = tabE_L0 b N v3 ∧ S = (sx 49 [(1, (.ptr 1 0)), (3, (jI (((v3 : Nat) : Int))))] [(1, (.cells 65 (sBlock b)))] [])) (by kernel_rfl) ⟨_, by omega, rfl, rfl⟩ (WK (by kernel_rfl)) ?_
      rintro n0 M S ⟨v3, hF0, rfl, rfl⟩
      obtain ⟨n0, rfl⟩ : ∃ k, n0 = k + 1 := ⟨n0 - 1, by omega⟩
      refine UF (tabE_L0.eq_2 ..) ?_
      refine GO (tn 5 z) (by kernel_rfl) ?_
      refine CSd (fun h3p h3 => ?_) (fun h3p h3 => ?_)
      · have := size_ext (b.fInfo) (v3) (v3 + 1)
        refine GO (kb h3 (tn 4 (kn (wrE ((((v3 : Nat) : Int)) + 1) (((v3 + 1 : Nat) : Int)) (by omega)) (kp (show 0 ≤ (((v3 : Nat) : Int) : Int) ∧ (((v3 : Nat) : Int) : Int) ≤ ((v3 + 1 : Nat) : Int) ∧ ((v3 + 1 : Nat) : Int) ≤ ((ByteArray.size (b.fInfo) : Nat) : Int) from (by first | omega | (simp only [lenM_eq, true_and]; omega))) (kc (hasB_to (ByteArray.extract (b.fInfo) (v3) (v3 + 1)) (⟨#[45, 108, 99, 114]⟩) (by first | assumption | omega | decide | (simp; done) | (simp; omega)) (by first | assumption | omega | decide | (simp; done) | (simp; omega))) (tn 1 z)))))) (by kernel_rfl) ?_
        refine CS (fun h4 => ?_) (fun h4 => ?_)
        · have h4n := nott h4
          refine GO (kb h4 (tn 1 z)) (by kernel_rfl) ?_
          refine OUT z (by kernel_rfl) ?_
          exact EN (by kernel_rfl)
        · have h4n := notf h4
          refine GO (kb h4 (tn 1 (kn (wrE ((((v3 : Nat) : Int)) + 1) (((v3 + 1 : Nat) : Int)) (by omega)) (tn 1 z)))) (by kernel_rfl) ?_
          exact AG ⟨_, by omega, rfl, rfl⟩ (WK (by kernel_rfl)) (by kernel_rfl) (Nat.lt_succ_self _)
      · refine GO (kb h3 z) (by kernel_rfl) ?_
        refine OUT (tn 4 z) (by kernel_rfl) ?_
        refine CSe (fun h5p h5 => ?_) (fun h5p h5 => ?_)
        · have := lenM_eq aBlock b.fKids
          refine GO (kb h5 (tn 1 z)) (by kernel_rfl) ?_
          exact EN (by kernel_rfl)
        · have := lenM_eq aBlock b.fKids
          refine GO (kb h5 (tn 1 z)) (by kernel_rfl) ?_
          refine LP (fun N M S => ∃ w4 : Nat, (List.length b.fKids - w4 < N) ∧ M = tabE_L1 b v3 (tabE_L0 b n0) N w4 ∧ S = (sx 49 [(1, (.ptr 1 0)), (4, (jI (((w4 : Nat) : Int))))] [(1, (.cells 65 (sBlock b)))] [])) (by kernel_rfl) ⟨_, by omega, rfl, rfl⟩ (WK (by kernel_rfl)) ?_
          rintro n1 M S ⟨w4, hF1, rfl, rfl⟩
          obtain ⟨n1, rfl⟩ : ∃ k, n1 = k + 1 := ⟨n1 - 1, by omega⟩
          refine UF (tabE_L1.eq_2 ..) ?_
          refine GO (tn 5 z) (by kernel_rfl) ?_
          refine CSd (fun h6p h6 => ?_) (fun h6p h6 => ?_)
          · have := lenM_eq aBlock b.fKids
            have hce := wl_el (w := wBlock) (l := b.fKids) (i := w4) (by omega)
            have hcw := wBlock_eq (el b.fKids w4)
            simp only [wStr, w1] at hcw
            refine GO (kb h6 z) (by kernel_rfl) ?_
            have d7 := (el_aBlock b.fKids w4 (by first | omega | (simp only [lenM_eq, true_and]; omega)))
            refine DR3 (tn 3 (ko (eO d7) (kp d7 (tn 7 z)))) (by kernel_rfl) (by kernel_rfl) (by kernel_rfl) ?_
            refine CSn (fun h8p h8 => ?_) (fun h8p h8 => ?_)
            · have := lenM_eq aBlock ((el b.fKids w4).fKids)
              refine GO (kb h8 (tn 1 z)) (by kernel_rfl) ?_
              refine OUT z (by kernel_rfl) ?_
              exact EN (by kernel_rfl)
            · have := lenM_eq aBlock ((el b.fKids w4).fKids)
              refine GO (kb h8 (tn 1 (kn (wrE ((((w4 : Nat) : Int)) + 1) (((w4 + 1 : Nat) : Int)) (by omega)) (tn 1 z)))) (by kernel_rfl) ?_
              exact AG ⟨_, by omega, rfl, rfl⟩ (WK (by kernel_rfl)) (by kernel_rfl) (Nat.lt_succ_self _)
          · have := lenM_eq aBlock b.fKids
            refine GO (kb h6 z) (by kernel_rfl) ?_
            refine OUT (tn 1 z) (by kernel_rfl) ?_
            exact EN (by kernel_rfl)
def wriE (b : DBlock) : Int := cond (cond (((b.fKind : Int) == 1)) (((((lenM aInline b.fLine : Nat) : Int) : Int) == 0)) (false)) (8) (cond (((b.fKind : Int) == 2)) (cond (cond (decide ((b.fLevel : Int) < 1)) (true) (decide ((b.fLevel : Int) > 6))) (9) (cond (((chkA b.fAttr : Int) != 0)) (chkA b.fAttr) (cond (cond (((b.fKind : Int) != 1)) (anyE b.fLine true) (false)) (5) (lineE b.fLine)))) (cond (cond (((b.fKind : Int) != 1)) (anyE b.fLine true) (false)) (5) (lineE b.fLine)))
set_option maxRecDepth 100000 in
set_option maxHeartbeats 4000000 in
theorem wriE_to (b : DBlock) (hb : wBlock b ≤ 1073741824) : CallTo Tryz.prog 77 [(.av (cBlock b))] [] [] (jI (wriE b)) [] [] := by
  have hwb := wBlock_eq b
  simp only [wStr, w1] at hwb
  refine BEG (fun r : Int => (jI (r))) (wriE b) Tryz.func77 (by kernel_rfl) ?_
  refine UF (wriE.eq_1 ..) ?_
  refine GO (tn 6 (kj (((b.fKind : Int) == 1)) (tn 4 z) z z)) (by kernel_rfl) ?_
  refine CS (fun h1 => ?_) (fun h1 => ?_)
  · have := lenM_eq aInline b.fLine
    obtain ⟨h1a, h1o⟩ := cond_ff h1
    have h1ap := eq_of_beq h1a
    have := lenM_eq aInline b.fLine
    have h1op := eq_of_beq h1o
    refine GO (kb h1 (tn 1 z)) (by kernel_rfl) ?_
    exact EN (by kernel_rfl)
  · have := lenM_eq aInline b.fLine
    refine GO (kb h1 (tn 3 z)) (by kernel_rfl) ?_
    refine CSe (fun h2p h2 => ?_) (fun h2p h2 => ?_)
    · refine GO (kb h2 (tn 4 (kj (decide ((b.fLevel : Int) < 1)) z (tn 3 z) z))) (by kernel_rfl) ?_
      refine CS (fun h3 => ?_) (fun h3 => ?_)
      · refine GO (kb h3 (tn 1 z)) (by kernel_rfl) ?_
        exact EN (by kernel_rfl)
      · obtain ⟨h3a, h3o⟩ := cond_tt h3
        have h3ap := of_decide_eq_false h3a
        have h3op := of_decide_eq_false h3o
        refine GO (kb h3 (tn 2 (kc (chkA_to b.fAttr (by first | assumption | omega | decide | (simp; done) | (simp; omega))) (tn 3 z)))) (by kernel_rfl) ?_
        refine CSn (fun h4p h4 => ?_) (fun h4p h4 => ?_)
        · refine GO (kb h4 (tn 2 z)) (by kernel_rfl) ?_
          exact EN (by kernel_rfl)
        · refine GO (kb h4 (tn 4 (kj (((b.fKind : Int) != 1)) (tn 2 (hc (fun h => by have j0 := h.2; have j0p := bne_iff_ne.1 j0; exact (anyE_to b.fLine true (by first | assumption | omega | decide | (simp; done) | (simp; omega)))) z)) z z))) (by kernel_rfl) ?_
          refine CS (fun h5 => ?_) (fun h5 => ?_)
          · obtain ⟨h5a, h5o⟩ := cond_ff h5
            have h5ap := bne_iff_ne.1 h5a
            refine GO (kb h5 (tn 1 z)) (by kernel_rfl) ?_
            exact EN (by kernel_rfl)
          · refine GO (kb h5 (tn 2 (kc (lineE_to b.fLine (by first | assumption | omega | decide | (simp; done) | (simp; omega))) (tn 1 z)))) (by kernel_rfl) ?_
            exact EN (by kernel_rfl)
    · refine GO (kb h2 (tn 4 (kj (((b.fKind : Int) != 1)) (tn 2 (hc (fun h => by have j0 := h.2; have j0p := bne_iff_ne.1 j0; exact (anyE_to b.fLine true (by first | assumption | omega | decide | (simp; done) | (simp; omega)))) z)) z z))) (by kernel_rfl) ?_
      refine CS (fun h6 => ?_) (fun h6 => ?_)
      · obtain ⟨h6a, h6o⟩ := cond_ff h6
        have h6ap := bne_iff_ne.1 h6a
        refine GO (kb h6 (tn 1 z)) (by kernel_rfl) ?_
        exact EN (by kernel_rfl)
      · refine GO (kb h6 (tn 2 (kc (lineE_to b.fLine (by first | assumption | omega | decide | (simp; done) | (simp; omega))) (tn 1 z)))) (by kernel_rfl) ?_
        exact EN (by kernel_rfl)
def itsE (b : DBlock) : Int := cond (cond (((b.fKind : Int) == 1)) (((b.fKind : Int) == 1)) (cond (((b.fKind : Int) == 2)) (((b.fKind : Int) == 2)) (((b.fKind : Int) == 12)))) (wriE b) (cond (((b.fKind : Int) == 3)) (cond (cond (cond ((!lineB b.fInfo)) (true) ((!trimB b.fInfo))) (true) ((!bodyB b.fText))) (17) (0)) (cond (((b.fKind : Int) == 4)) (cond ((!bodyB b.fText)) (17) (cond (closB b.fText) (5) (chkA b.fAttr))) (cond (cond (((b.fKind : Int) == 7)) (((b.fKind : Int) == 7)) (((b.fKind : Int) == 8))) (cond (((((lenM aBlock b.fKids : Nat) : Int) : Int) == 0)) (8) (cond (cond (((b.fKind : Int) == 8)) (cond (decide ((b.fLevel : Int) < 0)) (true) (decide ((b.fLevel : Int) > 999999999))) (false)) (9) (0))) (cond (((b.fKind : Int) == 10)) (tabE b) (cond (cond (((b.fKind : Int) == 13)) (((b.fKind : Int) == 13)) (((b.fKind : Int) == 14))) (cond ((!nameB b.fInfo)) (6) (chkA b.fAttr)) (cond (((b.fKind : Int) == 15)) (cond ((!labelB b.fInfo)) (6) (cond (cond ((!lineB b.fDest)) (true) ((!lineB b.fTitle))) (17) (0))) (0)))))))
set_option maxRecDepth 100000 in
set_option maxHeartbeats 4000000 in
theorem itsE_to (b : DBlock) (hb : wBlock b ≤ 1073741824) : CallTo Tryz.prog 59 [(.av (cBlock b))] [] [] (jI (itsE b)) [] [] := by
  have hwb := wBlock_eq b
  simp only [wStr, w1] at hwb
  refine BEG (fun r : Int => (jI (r))) (itsE b) Tryz.func59 (by kernel_rfl) ?_
  refine UF (itsE.eq_1 ..) ?_
  refine GO (tn 6 (ks (((b.fKind : Int) == 1)) [5] z (tn 2 (ks (((b.fKind : Int) == 2)) [5] z (tn 2 z) z)) z)) (by kernel_rfl) ?_
  refine CS (fun h1 => ?_) (fun h1 => ?_)
  · refine GO (kb h1 (tn 1 (kc (wriE_to b (by first | assumption | omega | decide | (simp; done) | (simp; omega))) (tn 1 z)))) (by kernel_rfl) ?_
    exact EN (by kernel_rfl)
  · refine GO (kb h1 (tn 2 z)) (by kernel_rfl) ?_
    refine CSe (fun h2p h2 => ?_) (fun h2p h2 => ?_)
    · refine GO (kb h2 (tn 2 (kc (lineB_to b.fInfo (by first | assumption | omega | decide | (simp; done) | (simp; omega))) (tn 2 (kj ((!lineB b.fInfo)) z (tn 2 (hc (fun h => by have j0 := h.2; have j0n := notf j0; exact (trimB_to b.fInfo (by first | assumption | omega | decide | (simp; done) | (simp; omega)))) (tn 1 z))) (tn 1 (kj (cond ((!lineB b.fInfo)) (true) ((!trimB b.fInfo))) z (tn 2 (hc (fun h => by have j0 := h.2; obtain ⟨j0a, j0o⟩ := cond_tt j0; have j0an := notf j0a; have j0on := notf j0o; exact (bodyB_to b.fText (by first | assumption | omega | decide | (simp; done) | (simp; omega)))) (tn 1 z))) z))))))) (by kernel_rfl) ?_
      refine CS (fun h3 => ?_) (fun h3 => ?_)
      · refine GO (kb h3 (tn 1 z)) (by kernel_rfl) ?_
        exact EN (by kernel_rfl)
      · obtain ⟨h3a, h3o⟩ := cond_tt h3
        obtain ⟨h3aa, h3ao⟩ := cond_tt h3a
        have h3aan := notf h3aa
        have h3aon := notf h3ao
        have h3on := notf h3o
        refine GO (kb h3 (tn 1 z)) (by kernel_rfl) ?_
        exact EN (by kernel_rfl)
    · refine GO (kb h2 (tn 2 z)) (by kernel_rfl) ?_
      refine CSe (fun h4p h4 => ?_) (fun h4p h4 => ?_)
      · refine GO (kb h4 (tn 2 (kc (bodyB_to b.fText (by first | assumption | omega | decide | (simp; done) | (simp; omega))) (tn 1 z)))) (by kernel_rfl) ?_
        refine CS (fun h5 => ?_) (fun h5 => ?_)
        · have h5n := nott h5
          refine GO (kb h5 (tn 1 z)) (by kernel_rfl) ?_
          exact EN (by kernel_rfl)
        · have h5n := notf h5
          refine GO (kb h5 (tn 2 (kc (closB_to b.fText (by first | assumption | omega | decide | (simp; done) | (simp; omega))) z))) (by kernel_rfl) ?_
          refine CS (fun h6 => ?_) (fun h6 => ?_)
          · refine GO (kb h6 (tn 1 z)) (by kernel_rfl) ?_
            exact EN (by kernel_rfl)
          · refine GO (kb h6 (tn 2 (kc (chkA_to b.fAttr (by first | assumption | omega | decide | (simp; done) | (simp; omega))) (tn 1 z)))) (by kernel_rfl) ?_
            exact EN (by kernel_rfl)
      · refine GO (kb h4 (tn 2 (ks (((b.fKind : Int) == 7)) [41] z (tn 2 z) z))) (by kernel_rfl) ?_
        refine CS (fun h7 => ?_) (fun h7 => ?_)
        · refine GO (kb h7 (tn 4 z)) (by kernel_rfl) ?_
          refine CSe (fun h8p h8 => ?_) (fun h8p h8 => ?_)
          · have := lenM_eq aBlock b.fKids
            refine GO (kb h8 (tn 1 z)) (by kernel_rfl) ?_
            exact EN (by kernel_rfl)
          · have := lenM_eq aBlock b.fKids
            refine GO (kb h8 (tn 4 (kj (((b.fKind : Int) == 8)) (tn 4 (kj (decide ((b.fLevel : Int) < 0)) z (tn 3 z) z)) z z))) (by kernel_rfl) ?_
            refine CS (fun h9 => ?_) (fun h9 => ?_)
            · obtain ⟨h9a, h9o⟩ := cond_ff h9
              have h9ap := eq_of_beq h9a
              refine GO (kb h9 (tn 1 z)) (by kernel_rfl) ?_
              exact EN (by kernel_rfl)
            · refine GO (kb h9 (tn 1 z)) (by kernel_rfl) ?_
              exact EN (by kernel_rfl)
        · refine GO (kb h7 (tn 2 z)) (by kernel_rfl) ?_
          refine CSe (fun h10p h10 => ?_) (fun h10p h10 => ?_)
          · refine GO (kb h10 (tn 1 (kc (tabE_to b (by first | assumption | omega | decide | (simp; done) | (simp; omega))) (tn 1 z)))) (by kernel_rfl) ?_
            exact EN (by kernel_rfl)
          · refine GO (kb h10 (tn 2 (ks (((b.fKind : Int) == 13)) [65] z (tn 2 z) z))) (by kernel_rfl) ?_
            refine CS (fun h11 => ?_) (fun h11 => ?_)
            · refine GO (kb h11 (tn 2 (kc (rName_to b.fInfo (by unfold maxLen; omega)) (tn 1 z)))) (by kernel_rfl) ?_
              refine CS (fun h12 => ?_) (fun h12 => ?_)
              · have h12n := nott h12
                refine GO (kb h12 (tn 1 z)) (by kernel_rfl) ?_
                exact EN (by kernel_rfl)
              · have h12n := notf h12
                refine GO (kb h12 (tn 2 (kc (chkA_to b.fAttr (by first | assumption | omega | decide | (simp; done) | (simp; omega))) (tn 1 z)))) (by kernel_rfl) ?_
                exact EN (by kernel_rfl)
            · refine GO (kb h11 (tn 2 z)) (by kernel_rfl) ?_
              refine CSe (fun h13p h13 => ?_) (fun h13p h13 => ?_)
              · refine GO (kb h13 (tn 2 (kc (labelB_to b.fInfo (by first | assumption | omega | decide | (simp; done) | (simp; omega))) (tn 1 z)))) (by kernel_rfl) ?_
                refine CS (fun h14 => ?_) (fun h14 => ?_)
                · have h14n := nott h14
                  refine GO (kb h14 (tn 1 z)) (by kernel_rfl) ?_
                  exact EN (by kernel_rfl)
                · have h14n := notf h14
                  refine GO (kb h14 (tn 2 (kc (lineB_to b.fDest (by first | assumption | omega | decide | (simp; done) | (simp; omega))) (tn 2 (kj ((!lineB b.fDest)) z (tn 2 (hc (fun h => by have j0 := h.2; have j0n := notf j0; exact (lineB_to b.fTitle (by first | assumption | omega | decide | (simp; done) | (simp; omega)))) (tn 1 z))) z))))) (by kernel_rfl) ?_
                  refine CS (fun h15 => ?_) (fun h15 => ?_)
                  · refine GO (kb h15 (tn 1 z)) (by kernel_rfl) ?_
                    exact EN (by kernel_rfl)
                  · obtain ⟨h15a, h15o⟩ := cond_tt h15
                    have h15an := notf h15a
                    have h15on := notf h15o
                    refine GO (kb h15 (tn 1 z)) (by kernel_rfl) ?_
                    exact EN (by kernel_rfl)
              · refine GO (kb h13 (tn 1 z)) (by kernel_rfl) ?_
                exact EN (by kernel_rfl)
end Go.Proofs.YtdaglbjgdakmcaaGreat
namespace Go.Proofs.YtdaglbjgdakmcaaGreat
open Go Go.Eng
theorem wl_take {α : Type} [Inhabited α] {w : α → Nat} : ∀ {l : List α} {i : Nat}, i < l.length → wl w (l.take (i + 1)) = wl w (l.take i) + w (el l i) ∧ wl w (l.take (i + 1)) ≤ wl w l
  | x :: l, 0, _ => by simp [wl, el]
  | x :: l, i + 1, h => by
    have := wl_take (w := w) (l := l) (i := i) (by simpa using h)
    have e : el (x :: l) (i + 1) = el l i := by simp [el]
    simp only [List.take_succ_cons, wl, e]; omega
theorem wl_take_le {α : Type} {w : α → Nat} : ∀ (l : List α) (i : Nat), wl w (l.take i) ≤ wl w l
  | [], i => by simp [wl]
  | x :: l, 0 => by simp [wl]
  | x :: l, i + 1 => by have := wl_take_le (w := w) l i; simp only [List.take_succ_cons, wl]; omega
def cntIS_L0 (rec : (List DInline) → Int) (l : List DInline) : Nat → Int → Nat → Int
  | 0, _, _ => default
  | n0 + 1, v3, v4 => cond (decide ((((v4 : Nat) : Int) : Int) < ((lenM aInline l : Nat) : Int))) (cntIS_L0 rec l n0 (v3 + (rec ((el l v4).fKids))) (v4 + 1)) (v3)
def cntIS (rec : (List DInline) → Int) (l : List DInline) : Int := cntIS_L0 rec l ((List.length l - (0)) + 1) (((lenM aInline l : Nat) : Int)) 0
set_option maxRecDepth 100000 in
set_option maxHeartbeats 4000000 in
theorem cntI_st (rec : (List DInline) → Int) (l : List DInline) (hl : wl wInline l ≤ 1073741824) (hrec : ∀ (l' : List DInline), wl wInline l' < wl wInline l → wl wInline l' ≤ 1073741824 → CallTo Tryz.prog 53 [(jL ((l').map aInline))] [] [] (jI (rec l')) [] []) (hrb : ∀ (l' : List DInline), wl wInline l' < wl wInline l → wl wInline l' ≤ 1073741824 → 0 ≤ (rec l') ∧ (rec l') ≤ wl wInline l') : CallTo Tryz.prog 53 [(jL (l.map aInline))] [] [] (jI (cntIS rec l)) [] [] := by
  have hw_0 := wl_len (w := wInline) wInline_pos l
  refine BEG (fun r : Int => (jI (r))) (cntIS rec l) Tryz.func53 (by kernel_rfl) ?_
  refine UF (cntIS.eq_1 ..) ?_
  refine GO (tn 5 z) (by kernel_rfl) ?_
  refine LP (fun N M S => ∃ v3 : Int, ∃ v4 : Nat, (0 ≤ v3) ∧ ((v3 : Int) + v4 ≤ l.length + wl wInline (l.take v4)) ∧ (List.length l - v4 < N) ∧ M = cntIS_L0 rec l N v3 v4 ∧ S = (sx 22 [(0, (jL (l.map aInline))), (3, (jI (v3))), (4, (jI (((v4 : Nat) : Int))))] [] [])) (by kernel_rfl) ⟨_, _, by first | omega | assumption | (simp only [lenM_eq]; omega) | (simp; done) | (simp; omega), by first | omega | assumption | (simp only [lenM_eq]; omega) | (simp; done) | (simp; omega), by omega, rfl, rfl⟩ (WK (by kernel_rfl)) ?_
  rintro n0 M S ⟨v3, v4, hv, hv2, hF0, rfl, rfl⟩
  obtain ⟨n0, rfl⟩ : ∃ k, n0 = k + 1 := ⟨n0 - 1, by omega⟩
  refine UF (cntIS_L0.eq_2 ..) ?_
  refine GO (tn 4 z) (by kernel_rfl) ?_
  refine CSd (fun h1p h1 => ?_) (fun h1p h1 => ?_)
  · have := lenM_eq aInline l
    have hce := wl_el (w := wInline) (l := l) (i := v4) (by omega)
    have hcw := wInline_eq (el l v4)
    simp only [wStr, w1] at hcw
    have htk := wl_take (w := wInline) (l := l) (i := v4) (by omega)
    have := hrb ((el l v4).fKids) (by first | assumption | omega | decide | (simp; done) | (simp; omega)) (by first | assumption | omega | decide | (simp; done) | (simp; omega))
    refine GO (kb h1 (tn 3 (ke (el_aInline l v4 (by first | omega | (simp only [lenM_eq, true_and]; omega))) (tn 2 (kc (hrec ((el l v4).fKids) (by first | assumption | omega | decide | (simp; done) | (simp; omega)) (by first | assumption | omega | decide | (simp; done) | (simp; omega))) (kn (wrE ((v3) + (rec ((el l v4).fKids))) (v3 + (rec ((el l v4).fKids))) (by omega)) (tn 2 (kn (wrE ((((v4 : Nat) : Int)) + 1) (((v4 + 1 : Nat) : Int)) (by omega)) (tn 1 z))))))))) (by kernel_rfl) ?_
    exact AG ⟨_, _, by first | omega | assumption | (simp only [lenM_eq]; omega) | (simp; done) | (simp; omega), by first | omega | assumption | (simp only [lenM_eq]; omega) | (simp; done) | (simp; omega), by omega, rfl, rfl⟩ (WK (by kernel_rfl)) (by kernel_rfl) (Nat.lt_succ_self _)
  · have := lenM_eq aInline l
    refine GO (kb h1 z) (by kernel_rfl) ?_
    refine OUT (tn 2 z) (by kernel_rfl) ?_
    exact EN (by kernel_rfl)
def cntIN : Nat → (List DInline) → Int
  | 0, _ => default
  | n + 1, l => cntIS (cntIN n) l
theorem cntIS_L0_bd (rec : (List DInline) → Int) (l : List DInline) (hr : ∀ l' : List DInline, wl wInline l' < wl wInline l → 0 ≤ rec l' ∧ rec l' ≤ wl wInline l') : ∀ (n : Nat) (v3 : Int) (v4 : Nat), 0 ≤ v3 → v3 + v4 ≤ l.length + wl wInline (l.take v4) → v4 ≤ l.length → 0 ≤ cntIS_L0 rec l n v3 v4 ∧ cntIS_L0 rec l n v3 v4 ≤ wl wInline l
  | 0, v3, v4, h1, h2, h3 => by show (0 : Int) ≤ 0 ∧ (0 : Int) ≤ wl wInline l; omega
  | n + 1, v3, v4, h1, h2, h3 => by
    rw [cntIS_L0]
    have hlm := lenM_eq aInline l
    refine condP (fun r : Int => 0 ≤ r ∧ r ≤ wl wInline l) (fun q => ?_) (fun q => ?_)
    · have q1 := of_decide_eq_true q
      have hce := wl_el (w := wInline) (l := l) (i := v4) (by omega)
      have hcw := wInline_eq (el l v4)
      have htk := wl_take (w := wInline) (l := l) (i := v4) (by omega)
      have hq := hr (el l v4).fKids (by omega)
      exact cntIS_L0_bd rec l hr n _ _ (by omega) (by omega) (by omega)
    · have q1 := of_decide_eq_false q
      have hq := wl_take_le (w := wInline) l v4
      omega
theorem cntIN_bd : ∀ (n : Nat) (l : List DInline), wl wInline l < n → wl wInline l ≤ 1073741824 → 0 ≤ cntIN n l ∧ cntIN n l ≤ wl wInline l
  | 0, l, h, _ => by omega
  | n + 1, l, h, hl => by
    rw [cntIN, cntIS]
    exact cntIS_L0_bd _ l (fun l' q => cntIN_bd n l' (by omega) (by omega)) _ _ _ (by omega) (by simp only [lenM_eq]; omega) (by omega)
theorem cntIN_to : ∀ (n : Nat) (l : List DInline), wl wInline l < n → wl wInline l ≤ 1073741824 → CallTo Tryz.prog 53 [(jL (l.map aInline))] [] [] (jI (cntIN n l)) [] []
  | 0, l, h0, _ => absurd h0 (Nat.not_lt_zero _)
  | n + 1, l, h0, hl => by
    exact cntI_st (cntIN n) l hl (fun l' q1 hl' => cntIN_to n l' (by omega) hl') (fun l' q1 hl' => cntIN_bd n l' (by omega) hl')
def cntI (l : List DInline) : Int := cntIN (wl wInline l + 1) l
theorem cntI_to (l : List DInline) (hl : wl wInline l ≤ 1073741824) : CallTo Tryz.prog 53 [(jL (l.map aInline))] [] [] (jI (cntI l)) [] [] := cntIN_to _ l (Nat.lt_succ_self _) hl
theorem cntI_bd (l : List DInline) (hl : wl wInline l ≤ 1073741824) : 0 ≤ (cntI l) ∧ (cntI l) ≤ wl wInline l := cntIN_bd _ l (Nat.lt_succ_self _) hl
def szsIS_L0 (rec : (List DBlock) → Int) (l : List DBlock) : Nat → Int → Nat → Int
  | 0, _, _ => default
  | n0 + 1, v3, v4 => cond (decide ((((v4 : Nat) : Int) : Int) < ((lenM aBlock l : Nat) : Int))) (szsIS_L0 rec l n0 (v3 + ((cntI ((el l v4).fLine)) + (rec ((el l v4).fKids)))) (v4 + 1)) (v3)
def szsIS (rec : (List DBlock) → Int) (l : List DBlock) : Int := szsIS_L0 rec l ((List.length l - (0)) + 1) (((lenM aBlock l : Nat) : Int)) 0
set_option maxRecDepth 100000 in
set_option maxHeartbeats 4000000 in
theorem szsI_st (rec : (List DBlock) → Int) (l : List DBlock) (hl : wl wBlock l ≤ 1073741824) (hrec : ∀ (l' : List DBlock), wl wBlock l' < wl wBlock l → wl wBlock l' ≤ 1073741824 → CallTo Tryz.prog 33 [(jL ((l').map aBlock))] [] [] (jI (rec l')) [] []) (hrb : ∀ (l' : List DBlock), wl wBlock l' < wl wBlock l → wl wBlock l' ≤ 1073741824 → 0 ≤ (rec l') ∧ (rec l') ≤ wl wBlock l') : CallTo Tryz.prog 33 [(jL (l.map aBlock))] [] [] (jI (szsIS rec l)) [] [] := by
  have hw_0 := wl_len (w := wBlock) wBlock_pos l
  refine BEG (fun r : Int => (jI (r))) (szsIS rec l) Tryz.func33 (by kernel_rfl) ?_
  refine UF (szsIS.eq_1 ..) ?_
  refine GO (tn 5 z) (by kernel_rfl) ?_
  refine LP (fun N M S => ∃ v3 : Int, ∃ v4 : Nat, (0 ≤ v3) ∧ ((v3 : Int) + v4 ≤ l.length + wl wBlock (l.take v4)) ∧ (List.length l - v4 < N) ∧ M = szsIS_L0 rec l N v3 v4 ∧ S = (sx 29 [(0, (jL (l.map aBlock))), (3, (jI (v3))), (4, (jI (((v4 : Nat) : Int))))] [] [])) (by kernel_rfl) ⟨_, _, by first | omega | assumption | (simp only [lenM_eq]; omega) | (simp; done) | (simp; omega), by first | omega | assumption | (simp only [lenM_eq]; omega) | (simp; done) | (simp; omega), by omega, rfl, rfl⟩ (WK (by kernel_rfl)) ?_
  rintro n0 M S ⟨v3, v4, hv, hv2, hF0, rfl, rfl⟩
  obtain ⟨n0, rfl⟩ : ∃ k, n0 = k + 1 := ⟨n0 - 1, by omega⟩
  refine UF (szsIS_L0.eq_2 ..) ?_
  refine GO (tn 4 z) (by kernel_rfl) ?_
  refine CSd (fun h1p h1 => ?_) (fun h1p h1 => ?_)
  · have := lenM_eq aBlock l
    have hce := wl_el (w := wBlock) (l := l) (i := v4) (by omega)
    have hcw := wBlock_eq (el l v4)
    simp only [wStr, w1] at hcw
    have htk := wl_take (w := wBlock) (l := l) (i := v4) (by omega)
    refine GO (kb h1 z) (by kernel_rfl) ?_
    have := cntI_bd ((el l v4).fLine) (by first | assumption | omega | decide | (simp; done) | (simp; omega))
    have := hrb ((el l v4).fKids) (by first | assumption | omega | decide | (simp; done) | (simp; omega)) (by first | assumption | omega | decide | (simp; done) | (simp; omega))
    have d2 := (el_aBlock l v4 (by first | omega | (simp only [lenM_eq, true_and]; omega)))
    have d3 := (cntI_to ((el l v4).fLine) (by first | assumption | omega | decide | (simp; done) | (simp; omega)))
    have d4 := (el_aBlock l v4 (by first | omega | (simp only [lenM_eq, true_and]; omega)))
    have d5 := (hrec ((el l v4).fKids) (by first | assumption | omega | decide | (simp; done) | (simp; omega)) (by first | assumption | omega | decide | (simp; done) | (simp; omega)))
    have d6 := wrE ((cntI ((el l v4).fLine)) + (rec ((el l v4).fKids))) ((cntI ((el l v4).fLine)) + (rec ((el l v4).fKids))) (by omega)
    have d7 := wrE ((v3) + ((cntI ((el l v4).fLine)) + (rec ((el l v4).fKids)))) (v3 + ((cntI ((el l v4).fLine)) + (rec ((el l v4).fKids)))) (by omega)
    refine DR3 (tn 3 (ko (eO d2) (kp d2 (tn 2 (ko (cO d3) (kp d3 (tn 3 (ko (eO d4) (kp d4 (tn 2 (ko (cO d5) (kp d5 (tn 1 (ko (nO d6) (kp d6 (ko (nO d7) (kp d7 (tn 2 (kn (wrE ((((v4 : Nat) : Int)) + 1) (((v4 + 1 : Nat) : Int)) (by omega)) (tn 1 z)))))))))))))))))))) (by kernel_rfl) (by kernel_rfl) (by kernel_rfl) ?_
    exact AG ⟨_, _, by first | omega | assumption | (simp only [lenM_eq]; omega) | (simp; done) | (simp; omega), by first | omega | assumption | (simp only [lenM_eq]; omega) | (simp; done) | (simp; omega), by omega, rfl, rfl⟩ (WK (by kernel_rfl)) (by kernel_rfl) (Nat.lt_succ_self _)
  · have := lenM_eq aBlock l
    refine GO (kb h1 z) (by kernel_rfl) ?_
    refine OUT (tn 2 z) (by kernel_rfl) ?_
    exact EN (by kernel_rfl)
def szsIN : Nat → (List DBlock) → Int
  | 0, _ => default
  | n + 1, l => szsIS (szsIN n) l
theorem szsIS_L0_bd (rec : (List DBlock) → Int) (l : List DBlock) (hl : wl wBlock l ≤ 1073741824) (hr : ∀ l' : List DBlock, wl wBlock l' < wl wBlock l → 0 ≤ rec l' ∧ rec l' ≤ wl wBlock l') : ∀ (n : Nat) (v3 : Int) (v4 : Nat), 0 ≤ v3 → v3 + v4 ≤ l.length + wl wBlock (l.take v4) → v4 ≤ l.length → 0 ≤ szsIS_L0 rec l n v3 v4 ∧ szsIS_L0 rec l n v3 v4 ≤ wl wBlock l
  | 0, v3, v4, h1, h2, h3 => by show (0 : Int) ≤ 0 ∧ (0 : Int) ≤ wl wBlock l; omega
  | n + 1, v3, v4, h1, h2, h3 => by
    rw [szsIS_L0]
    have hlm := lenM_eq aBlock l
    refine condP (fun r : Int => 0 ≤ r ∧ r ≤ wl wBlock l) (fun q => ?_) (fun q => ?_)
    · have q1 := of_decide_eq_true q
      have hce := wl_el (w := wBlock) (l := l) (i := v4) (by omega)
      have hcw := wBlock_eq (el l v4)
      have htk := wl_take (w := wBlock) (l := l) (i := v4) (by omega)
      have hq := hr (el l v4).fKids (by omega)
      have hc := cntI_bd (el l v4).fLine (by omega)
      exact szsIS_L0_bd rec l hl hr n _ _ (by omega) (by omega) (by omega)
    · have q1 := of_decide_eq_false q
      have hq := wl_take_le (w := wBlock) l v4
      omega
theorem szsIN_bd : ∀ (n : Nat) (l : List DBlock), wl wBlock l < n → wl wBlock l ≤ 1073741824 → 0 ≤ szsIN n l ∧ szsIN n l ≤ wl wBlock l
  | 0, l, h, _ => by omega
  | n + 1, l, h, hl => by
    rw [szsIN, szsIS]
    exact szsIS_L0_bd _ l hl (fun l' q => szsIN_bd n l' (by omega) (by omega)) _ _ _ (by omega) (by simp only [lenM_eq]; omega) (by omega)
theorem szsIN_to : ∀ (n : Nat) (l : List DBlock), wl wBlock l < n → wl wBlock l ≤ 1073741824 → CallTo Tryz.prog 33 [(jL (l.map aBlock))] [] [] (jI (szsIN n l)) [] []
  | 0, l, h0, _ => absurd h0 (Nat.not_lt_zero _)
  | n + 1, l, h0, hl => by
    exact szsI_st (szsIN n) l hl (fun l' q1 hl' => szsIN_to n l' (by omega) hl') (fun l' q1 hl' => szsIN_bd n l' (by omega) hl')
def szsI (l : List DBlock) : Int := szsIN (wl wBlock l + 1) l
theorem szsI_to (l : List DBlock) (hl : wl wBlock l ≤ 1073741824) : CallTo Tryz.prog 33 [(jL (l.map aBlock))] [] [] (jI (szsI l)) [] [] := szsIN_to _ l (Nat.lt_succ_self _) hl
theorem szsI_bd (l : List DBlock) (hl : wl wBlock l ≤ 1073741824) : 0 ≤ (szsI l) ∧ (szsI l) ≤ wl wBlock l := szsIN_bd _ l (Nat.lt_succ_self _) hl
def sizeI (d : DDoc) : Int := szsI d.fBlocks
set_option maxRecDepth 100000 in
set_option maxHeartbeats 4000000 in
theorem sizeI_to (d : DDoc) (hd : wDoc d ≤ 1073741824) : CallTo Tryz.prog 15 [(.av (cDoc d))] [] [] (jI (sizeI d)) [] [] := by
  have hwd := wDoc_eq d
  refine BEG (fun r : Int => (jI (r))) (sizeI d) Tryz.func15 (by kernel_rfl) ?_
  refine UF (sizeI.eq_1 ..) ?_
  have := szsI_bd d.fBlocks (by first | assumption | omega | decide | (simp; done) | (simp; omega))
  refine GO (tn 4 (kc (szsI_to d.fBlocks (by first | assumption | omega | decide | (simp; done) | (simp; omega))) (tn 1 z))) (by kernel_rfl) ?_
  exact EN (by kernel_rfl)
def blsES_L0 (rec : (List DBlock) → Int → Int → Int) (l : List DBlock) (inn : Int) (depth : Int) : Nat → Nat → Int
  | 0, _ => default
  | n0 + 1, v7 => cond (decide ((((v7 : Nat) : Int) : Int) < ((lenM aBlock l : Nat) : Int))) (cond (decide ((depth : Int) > 15)) (11) (cond (cond ((!blkF (el l v7))) (true) ((!placeB ((el l v7).fKind) inn))) (5) (cond (((itsE (el l v7) : Int) != 0)) (itsE (el l v7)) (cond (((rec ((el l v7).fKids) ((el l v7).fKind) (depth + 1) : Int) != 0)) (rec ((el l v7).fKids) ((el l v7).fKind) (depth + 1)) (blsES_L0 rec l inn depth n0 (v7 + 1)))))) (0)
def blsES (rec : (List DBlock) → Int → Int → Int) (l : List DBlock) (inn : Int) (depth : Int) : Int := blsES_L0 rec l inn depth ((List.length l - (0)) + 1) 0
set_option maxRecDepth 100000 in
set_option maxHeartbeats 4000000 in
theorem blsE_st (rec : (List DBlock) → Int → Int → Int) (l : List DBlock) (inn : Int) (depth : Int) (hl : wl wBlock l ≤ 1073741824) (hd : 0 ≤ depth) (hd2 : depth ≤ 100) (hrec : ∀ (l' : List DBlock) (inn' : Int) (depth' : Int), wl wBlock l' < wl wBlock l → wl wBlock l' ≤ 1073741824 → 0 ≤ depth' → depth' ≤ 100 → CallTo Tryz.prog 37 [(jL ((l').map aBlock)), (jI (inn')), (jI (depth'))] [] [] (jI (rec l' inn' depth')) [] []) : CallTo Tryz.prog 37 [(jL (l.map aBlock)), (jI (inn)), (jI (depth))] [] [] (jI (blsES rec l inn depth)) [] [] := by
  have hw_0 := wl_len (w := wBlock) wBlock_pos l
  refine BEG (fun r : Int => (jI (r))) (blsES rec l inn depth) Tryz.func37 (by kernel_rfl) ?_
  refine UF (blsES.eq_1 ..) ?_
  refine GO (tn 2 z) (by kernel_rfl) ?_
  refine LP (fun N M S => ∃ v7 : Nat, (List.length l - v7 < N) ∧ M = blsES_L0 rec l inn depth N v7 ∧ S = (sx 47 [(0, (jL (l.map aBlock))), (1, (jI (inn))), (2, (jI (depth))), (7, (jI (((v7 : Nat) : Int))))] [] [])) (by kernel_rfl) ⟨_, by omega, rfl, rfl⟩ (WK (by kernel_rfl)) ?_
  rintro n0 M S ⟨v7, hF0, rfl, rfl⟩
  obtain ⟨n0, rfl⟩ : ∃ k, n0 = k + 1 := ⟨n0 - 1, by omega⟩
  refine UF (blsES_L0.eq_2 ..) ?_
  refine GO (tn 4 z) (by kernel_rfl) ?_
  refine CSd (fun h1p h1 => ?_) (fun h1p h1 => ?_)
  · have := lenM_eq aBlock l
    have hce := wl_el (w := wBlock) (l := l) (i := v7) (by omega)
    have hcw := wBlock_eq (el l v7)
    simp only [wStr, w1] at hcw
    refine GO (kb h1 (tn 2 (ke (el_aBlock l v7 (by first | omega | (simp only [lenM_eq, true_and]; omega))) (tn 5 z)))) (by kernel_rfl) ?_
    refine CSd (fun h2p h2 => ?_) (fun h2p h2 => ?_)
    · refine GO (kb h2 (tn 1 z)) (by kernel_rfl) ?_
      refine OUT z (by kernel_rfl) ?_
      exact EN (by kernel_rfl)
    · refine GO (kb h2 (tn 1 (kc (blkF_to (el l v7)) (tn 2 (kj ((!blkF (el l v7))) z (tn 3 (kc (placeB_to ((el l v7).fKind) inn) (tn 1 z))) z))))) (by kernel_rfl) ?_
      refine CS (fun h3 => ?_) (fun h3 => ?_)
      · refine GO (kb h3 (tn 1 z)) (by kernel_rfl) ?_
        refine OUT z (by kernel_rfl) ?_
        exact EN (by kernel_rfl)
      · obtain ⟨h3a, h3o⟩ := cond_tt h3
        have h3an := notf h3a
        have h3on := notf h3o
        refine GO (kb h3 (tn 1 (kc (itsE_to (el l v7) (by first | assumption | omega | decide | (simp; done) | (simp; omega))) (tn 3 z)))) (by kernel_rfl) ?_
        refine CSn (fun h4p h4 => ?_) (fun h4p h4 => ?_)
        · refine GO (kb h4 (tn 2 z)) (by kernel_rfl) ?_
          refine OUT z (by kernel_rfl) ?_
          exact EN (by kernel_rfl)
        · refine GO (kb h4 (tn 5 (kn (wrE ((depth) + 1) (depth + 1) (by omega)) (kc (hrec ((el l v7).fKids) ((el l v7).fKind) (depth + 1) (by first | assumption | omega | decide | (simp; done) | (simp; omega)) (by first | assumption | omega | decide | (simp; done) | (simp; omega)) (by first | assumption | omega | decide | (simp; done) | (simp; omega)) (by first | assumption | omega | decide | (simp; done) | (simp; omega))) (tn 3 z))))) (by kernel_rfl) ?_
          refine CSn (fun h5p h5 => ?_) (fun h5p h5 => ?_)
          · refine GO (kb h5 (tn 2 z)) (by kernel_rfl) ?_
            refine OUT z (by kernel_rfl) ?_
            exact EN (by kernel_rfl)
          · refine GO (kb h5 (tn 1 (kn (wrE ((((v7 : Nat) : Int)) + 1) (((v7 + 1 : Nat) : Int)) (by omega)) (tn 1 z)))) (by kernel_rfl) ?_
            exact AG ⟨_, by omega, rfl, rfl⟩ (WK (by kernel_rfl)) (by kernel_rfl) (Nat.lt_succ_self _)
  · have := lenM_eq aBlock l
    refine GO (kb h1 z) (by kernel_rfl) ?_
    refine OUT (tn 1 z) (by kernel_rfl) ?_
    exact EN (by kernel_rfl)
def blsEN : Nat → (List DBlock) → Int → Int → Int
  | 0, _, _, _ => default
  | n + 1, l, inn, depth => blsES (blsEN n) l inn depth
theorem blsEN_to : ∀ (n : Nat) (l : List DBlock) (inn : Int) (depth : Int), wl wBlock l < n → wl wBlock l ≤ 1073741824 → 0 ≤ depth → depth ≤ 100 → CallTo Tryz.prog 37 [(jL (l.map aBlock)), (jI (inn)), (jI (depth))] [] [] (jI (blsEN n l inn depth)) [] []
  | 0, l, inn, depth, h0, _, _, _ => absurd h0 (Nat.not_lt_zero _)
  | n + 1, l, inn, depth, h0, hl, hd, hd2 => by
    exact blsE_st (blsEN n) l inn depth hl hd hd2 (fun l' inn' depth' q1 hl' hd' hd2' => blsEN_to n l' inn' depth' (by omega) hl' hd' hd2')
def blsE (l : List DBlock) (inn : Int) (depth : Int) : Int := blsEN (wl wBlock l + 1) l inn depth
theorem blsE_to (l : List DBlock) (inn : Int) (depth : Int) (hl : wl wBlock l ≤ 1073741824) (hd : 0 ≤ depth) (hd2 : depth ≤ 100) : CallTo Tryz.prog 37 [(jL (l.map aBlock)), (jI (inn)), (jI (depth))] [] [] (jI (blsE l inn depth)) [] [] := blsEN_to _ l inn depth (Nat.lt_succ_self _) hl hd hd2
def blksE (l : List DBlock) : Int := blsE l 0 0
set_option maxRecDepth 100000 in
set_option maxHeartbeats 4000000 in
theorem blksE_to (l : List DBlock) (hl : wl wBlock l ≤ 1073741824) : CallTo Tryz.prog 19 [(jL (l.map aBlock))] [] [] (jI (blksE l)) [] [] := by
  refine BEG (fun r : Int => (jI (r))) (blksE l) Tryz.func19 (by kernel_rfl) ?_
  refine UF (blksE.eq_1 ..) ?_
  refine GO (tn 2 (kc (blsE_to l 0 0 (by first | assumption | omega | decide | (simp; done) | (simp; omega)) (by first | assumption | omega | decide | (simp; done) | (simp; omega)) (by first | assumption | omega | decide | (simp; done) | (simp; omega))) (tn 1 z))) (by kernel_rfl) ?_
  exact EN (by kernel_rfl)
def chkD_L1 (d : DDoc) (v3 : Nat) (k0 : Nat → Int) : Nat → Nat → Int
  | 0, _ => default
  | n1 + 1, w5 => cond (decide ((((w5 : Nat) : Int) : Int) < ((v3 : Nat) : Int))) (cond (eqs ((el d.fMeta w5).fKey) ((el d.fMeta v3).fKey)) (7) (chkD_L1 d v3 k0 n1 (w5 + 1))) (k0 (v3 + 1))
def chkD_L0 (d : DDoc) : Nat → Nat → Int
  | 0, _ => default
  | n0 + 1, v3 => cond (decide ((((v3 : Nat) : Int) : Int) < ((lenM aPair d.fMeta : Nat) : Int))) (cond ((!nameB ((el d.fMeta v3).fKey))) (6) (cond (cond ((!lineB ((el d.fMeta v3).fValue))) (true) ((!trimB ((el d.fMeta v3).fValue)))) (17) (chkD_L1 d v3 (chkD_L0 d n0) ((v3 - (0)) + 1) 0))) (blksE d.fBlocks)
def chkD (d : DDoc) : Int := cond (cond (decide ((sizeI d : Int) > 32768)) (true) (decide ((((lenM aPair d.fMeta : Nat) : Int) : Int) > 64))) (3) (chkD_L0 d ((List.length d.fMeta - (0)) + 1) 0)
set_option maxRecDepth 100000 in
set_option maxHeartbeats 4000000 in
theorem chkD_to (d : DDoc) (hd : wDoc d ≤ 1073741824) : CallTo Tryz.prog 7 [(.av (cDoc d))] [] [] (jI (chkD d)) [] [] := by
  have hwd := wDoc_eq d
  have hw_0 := wl_len (w := wPair) wPair_pos d.fMeta
  refine BEG (fun r : Int => (jI (r))) (chkD d) Tryz.func7 (by kernel_rfl) ?_
  refine UF (chkD.eq_1 ..) ?_
  refine GO (tn 3 (kc (sizeI_to d (by first | assumption | omega | decide | (simp; done) | (simp; omega))) (tn 2 (kj (decide ((sizeI d : Int) > 32768)) z (tn 4 z) z)))) (by kernel_rfl) ?_
  refine CS (fun h1 => ?_) (fun h1 => ?_)
  · have := lenM_eq aPair d.fMeta
    refine GO (kb h1 (tn 1 z)) (by kernel_rfl) ?_
    exact EN (by kernel_rfl)
  · have := lenM_eq aPair d.fMeta
    obtain ⟨h1a, h1o⟩ := cond_tt h1
    have h1ap := of_decide_eq_false h1a
    have := lenM_eq aPair d.fMeta
    have h1op := of_decide_eq_false h1o
    refine GO (kb h1 (tn 1 z)) (by kernel_rfl) ?_
    refine LP (fun N M S => ∃ v3 : Nat, (List.length d.fMeta - v3 < N) ∧ M = chkD_L0 d N v3 ∧ S = (sx 58 [(1, (.ptr 1 0)), (3, (jI (((v3 : Nat) : Int))))] [(1, (.cells 25 (sDoc d)))] [])) (by kernel_rfl) ⟨_, by omega, rfl, rfl⟩ (WK (by kernel_rfl)) ?_
    rintro n0 M S ⟨v3, hF0, rfl, rfl⟩
    obtain ⟨n0, rfl⟩ : ∃ k, n0 = k + 1 := ⟨n0 - 1, by omega⟩
    refine UF (chkD_L0.eq_2 ..) ?_
    refine GO (tn 5 z) (by kernel_rfl) ?_
    refine CSd (fun h2p h2 => ?_) (fun h2p h2 => ?_)
    · have := lenM_eq aPair d.fMeta
      have hce := wl_el (w := wPair) (l := d.fMeta) (i := v3) (by omega)
      simp only [wPair, wStr] at hce
      refine GO (kb h2 (tn 3 (ke (el_aPair d.fMeta v3 (by first | omega | (simp only [lenM_eq, true_and]; omega))) (tn 5 (kc (rName_to ((el d.fMeta v3).fKey) (by unfold maxLen; omega)) (tn 1 z)))))) (by kernel_rfl) ?_
      refine CS (fun h3 => ?_) (fun h3 => ?_)
      · have h3n := nott h3
        refine GO (kb h3 (tn 1 z)) (by kernel_rfl) ?_
        refine OUT z (by kernel_rfl) ?_
        exact EN (by kernel_rfl)
      · have h3n := notf h3
        refine GO (kb h3 (tn 2 (kc (lineB_to ((el d.fMeta v3).fValue) (by first | assumption | omega | decide | (simp; done) | (simp; omega))) (tn 2 (kj ((!lineB ((el d.fMeta v3).fValue))) z (tn 2 (hc (fun h => by have j0 := h.2; have j0n := notf j0; exact (trimB_to ((el d.fMeta v3).fValue) (by first | assumption | omega | decide | (simp; done) | (simp; omega)))) (tn 1 z))) z))))) (by kernel_rfl) ?_
        refine CS (fun h4 => ?_) (fun h4 => ?_)
        · refine GO (kb h4 (tn 1 z)) (by kernel_rfl) ?_
          refine OUT z (by kernel_rfl) ?_
          exact EN (by kernel_rfl)
        · obtain ⟨h4a, h4o⟩ := cond_tt h4
          have h4an := notf h4a
          have h4on := notf h4o
          refine GO (kb h4 (tn 1 z)) (by kernel_rfl) ?_
          refine LP (fun N M S => ∃ w5 : Nat, (v3 - w5 < N) ∧ M = chkD_L1 d v3 (chkD_L0 d n0) N w5 ∧ S = (sx 58 [(1, (.ptr 1 0)), (3, (jI (((v3 : Nat) : Int)))), (4, (.ptr 4 0)), (5, (jI (((w5 : Nat) : Int))))] [(4, (.cells 43 (sPair (el d.fMeta v3)))), (1, (.cells 25 (sDoc d)))] [])) (by kernel_rfl) ⟨_, by omega, rfl, rfl⟩ (WK (by kernel_rfl)) ?_
          rintro n1 M S ⟨w5, hF1, rfl, rfl⟩
          obtain ⟨n1, rfl⟩ : ∃ k, n1 = k + 1 := ⟨n1 - 1, by omega⟩
          refine UF (chkD_L1.eq_2 ..) ?_
          refine GO (tn 3 z) (by kernel_rfl) ?_
          refine CSd (fun h5p h5 => ?_) (fun h5p h5 => ?_)
          · refine GO (kb h5 z) (by kernel_rfl) ?_
            have d6 := (el_aPair d.fMeta w5 (by first | omega | (simp only [lenM_eq, true_and]; omega)))
            refine DR3 (tn 3 (ko (eO d6) (kp d6 (tn 5 z)))) (by kernel_rfl) (by kernel_rfl) (by kernel_rfl) ?_
            refine CS (fun h7 => ?_) (fun h7 => ?_)
            · refine GO (kb h7 (tn 1 z)) (by kernel_rfl) ?_
              refine OUT z (by kernel_rfl) ?_
              refine OUT z (by kernel_rfl) ?_
              exact EN (by kernel_rfl)
            · refine GO (kb h7 (tn 1 (kn (wrE ((((w5 : Nat) : Int)) + 1) (((w5 + 1 : Nat) : Int)) (by omega)) (tn 1 z)))) (by kernel_rfl) ?_
              exact AG ⟨_, by omega, rfl, rfl⟩ (WK (by kernel_rfl)) (by kernel_rfl) (Nat.lt_succ_self _)
          · refine GO (kb h5 z) (by kernel_rfl) ?_
            refine OUT (tn 1 (kn (wrE ((((v3 : Nat) : Int)) + 1) (((v3 + 1 : Nat) : Int)) (by omega)) (tn 1 z))) (by kernel_rfl) ?_
            exact AG ⟨_, by omega, rfl, rfl⟩ (WK (by kernel_rfl)) (by kernel_rfl) (Nat.lt_succ_self _)
    · have := lenM_eq aPair d.fMeta
      refine GO (kb h2 z) (by kernel_rfl) ?_
      refine OUT (tn 2 (kc (blksE_to d.fBlocks (by first | assumption | omega | decide | (simp; done) | (simp; omega))) (tn 1 z))) (by kernel_rfl) ?_
      exact EN (by kernel_rfl)
end Go.Proofs.YtdaglbjgdakmcaaGreat
namespace Go.Proofs.YtdaglbjgdakmcaaGreat
open Go Go.Eng
def longB_L1 (a : DAttr) (v3 : Nat) (v4 : Nat) (k0 : Nat → Nat → Bool) : Nat → Nat → Nat → Bool
  | 0, _, _ => default
  | n1 + 1, w3, w5 => cond (decide ((((w5 : Nat) : Int) : Int) < ((lenM aPair a.fPairs : Nat) : Int))) (longB_L1 a v3 v4 k0 n1 (w3 + ByteArray.size ((el a.fPairs w5).fKey) + ByteArray.size ((el a.fPairs w5).fValue)) (w5 + 1)) (decide ((((w3 : Nat) : Int) : Int) > 600))
def longB_L0 (a : DAttr) : Nat → Nat → Nat → Bool
  | 0, _, _ => default
  | n0 + 1, v3, v4 => cond (decide ((((v4 : Nat) : Int) : Int) < ((lenM strAV a.fClasses : Nat) : Int))) (longB_L0 a n0 (v3 + ByteArray.size (el a.fClasses v4)) (v4 + 1)) (longB_L1 a v3 v4 (longB_L0 a n0) ((List.length a.fPairs - (0)) + 1) v3 0)
def longB (a : DAttr) : Bool := cond (cond (decide ((((lenM strAV a.fClasses : Nat) : Int) : Int) > 40)) (true) (decide ((((lenM aPair a.fPairs : Nat) : Int) : Int) > 40))) (true) (longB_L0 a ((List.length a.fClasses - (0)) + 1) (ByteArray.size (a.fID)) 0)
set_option maxRecDepth 100000 in
set_option maxHeartbeats 4000000 in
theorem longB_to (a : DAttr) (ha : wAttr a ≤ 1073741824) : CallTo Tryz.prog 31 [(.av (cAttr a))] [] [] (jB (longB a)) [] [] := by
  have hwa := wAttr_eq a
  simp only [wStr] at hwa
  refine BEG (fun r : Bool => (jB (r))) (longB a) Tryz.func31 (by kernel_rfl) ?_
  refine UF (longB.eq_1 ..) ?_
  refine GO (tn 11 (kj (decide ((((lenM strAV a.fClasses : Nat) : Int) : Int) > 40)) z (tn 4 z) z)) (by kernel_rfl) ?_
  refine CS (fun h1 => ?_) (fun h1 => ?_)
  · have := lenM_eq strAV a.fClasses
    have := lenM_eq aPair a.fPairs
    refine GO (kb h1 (tn 1 z)) (by kernel_rfl) ?_
    exact EN (by kernel_rfl)
  · have := lenM_eq strAV a.fClasses
    have := lenM_eq aPair a.fPairs
    obtain ⟨h1a, h1o⟩ := cond_tt h1
    have := lenM_eq strAV a.fClasses
    have h1ap := of_decide_eq_false h1a
    have := lenM_eq aPair a.fPairs
    have h1op := of_decide_eq_false h1o
    refine GO (kb h1 (tn 1 z)) (by kernel_rfl) ?_
    refine LP (fun N M S => ∃ v3 : Nat, ∃ v4 : Nat, (v3 ≤ 1073741824 + v4 * 1073741824) ∧ (v4 ≤ a.fClasses.length) ∧ (List.length a.fClasses - v4 < N) ∧ M = longB_L0 a N v3 v4 ∧ S = (sx 60 [(1, (.ptr 1 0)), (3, (jI (((v3 : Nat) : Int)))), (4, (jI (((v4 : Nat) : Int))))] [(1, (.cells 38 (sAttr a)))] [])) (by kernel_rfl) ⟨_, _, by first | omega | assumption | (simp only [lenM_eq]; omega) | (simp; done) | (simp; omega), by first | omega | assumption | (simp only [lenM_eq]; omega) | (simp; done) | (simp; omega), by omega, rfl, rfl⟩ (WK (by kernel_rfl)) ?_
    rintro n0 M S ⟨v3, v4, hv, hu, hF0, rfl, rfl⟩
    obtain ⟨n0, rfl⟩ : ∃ k, n0 = k + 1 := ⟨n0 - 1, by omega⟩
    refine UF (longB_L0.eq_2 ..) ?_
    refine GO (tn 5 z) (by kernel_rfl) ?_
    refine CSd (fun h2p h2 => ?_) (fun h2p h2 => ?_)
    · have := lenM_eq strAV a.fClasses
      have hce := wl_el (w := wStr) (l := a.fClasses) (i := v4) (by omega)
      simp only [wStr] at hce
      refine GO (kb h2 (tn 4 (ke (el_strAV a.fClasses v4 (by first | omega | (simp only [lenM_eq, true_and]; omega))) (tn 2 (kn (wrE ((((v3 : Nat) : Int)) + (((ByteArray.size (el a.fClasses v4) : Nat) : Int))) (((v3 + ByteArray.size (el a.fClasses v4) : Nat) : Int)) (by omega)) (tn 2 (kn (wrE ((((v4 : Nat) : Int)) + 1) (((v4 + 1 : Nat) : Int)) (by omega)) (tn 1 z)))))))) (by kernel_rfl) ?_
      exact AG ⟨_, _, by first | omega | assumption | (simp only [lenM_eq]; omega) | (simp; done) | (simp; omega), by first | omega | assumption | (simp only [lenM_eq]; omega) | (simp; done) | (simp; omega), by omega, rfl, rfl⟩ (WK (by kernel_rfl)) (by kernel_rfl) (Nat.lt_succ_self _)
    · have := lenM_eq strAV a.fClasses
      refine GO (kb h2 z) (by kernel_rfl) ?_
      refine OUT (tn 1 z) (by kernel_rfl) ?_
      refine LP (fun N M S => ∃ w3 : Nat, ∃ w5 : Nat, (w3 ≤ 50 * 1073741824 + w5 * 2147483648) ∧ (List.length a.fPairs - w5 < N) ∧ M = longB_L1 a v3 v4 (longB_L0 a n0) N w3 w5 ∧ S = (sx 60 [(1, (.ptr 1 0)), (3, (jI (((w3 : Nat) : Int)))), (5, (jI (((w5 : Nat) : Int))))] [(1, (.cells 38 (sAttr a)))] [])) (by kernel_rfl) ⟨_, _, by first | omega | assumption | (simp only [lenM_eq]; omega) | (simp; done) | (simp; omega), by omega, rfl, rfl⟩ (WK (by kernel_rfl)) ?_
      rintro n1 M S ⟨w3, w5, hw, hF1, rfl, rfl⟩
      obtain ⟨n1, rfl⟩ : ∃ k, n1 = k + 1 := ⟨n1 - 1, by omega⟩
      refine UF (longB_L1.eq_2 ..) ?_
      refine GO (tn 5 z) (by kernel_rfl) ?_
      refine CSd (fun h3p h3 => ?_) (fun h3p h3 => ?_)
      · have := lenM_eq aPair a.fPairs
        have hce := wl_el (w := wPair) (l := a.fPairs) (i := w5) (by omega)
        simp only [wPair, wStr] at hce
        refine GO (kb h3 z) (by kernel_rfl) ?_
        have d4 := (el_aPair a.fPairs w5 (by first | omega | (simp only [lenM_eq, true_and]; omega)))
        have d5 := (el_aPair a.fPairs w5 (by first | omega | (simp only [lenM_eq, true_and]; omega)))
        have d6 := wrE ((((ByteArray.size ((el a.fPairs w5).fKey) : Nat) : Int)) + (((ByteArray.size ((el a.fPairs w5).fValue) : Nat) : Int))) (((ByteArray.size ((el a.fPairs w5).fKey) + ByteArray.size ((el a.fPairs w5).fValue) : Nat) : Int)) (by omega)
        have d7 := wrE ((((w3 : Nat) : Int)) + (((ByteArray.size ((el a.fPairs w5).fKey) + ByteArray.size ((el a.fPairs w5).fValue) : Nat) : Int))) (((w3 + ByteArray.size ((el a.fPairs w5).fKey) + ByteArray.size ((el a.fPairs w5).fValue) : Nat) : Int)) (by omega)
        refine DR3 (tn 4 (ko (eO d4) (kp d4 (tn 6 (ko (eO d5) (kp d5 (tn 3 (ko (nO d6) (kp d6 (ko (nO d7) (kp d7 (tn 2 (kn (wrE ((((w5 : Nat) : Int)) + 1) (((w5 + 1 : Nat) : Int)) (by omega)) (tn 1 z)))))))))))))) (by kernel_rfl) (by kernel_rfl) (by kernel_rfl) ?_
        exact AG ⟨_, _, by first | omega | assumption | (simp only [lenM_eq]; omega) | (simp; done) | (simp; omega), by omega, rfl, rfl⟩ (WK (by kernel_rfl)) (by kernel_rfl) (Nat.lt_succ_self _)
      · have := lenM_eq aPair a.fPairs
        refine GO (kb h3 z) (by kernel_rfl) ?_
        refine OUT (tn 3 z) (by kernel_rfl) ?_
        exact EN (by kernel_rfl)
def weiIS_L2 (rec : (List DInline) → Int → Int) (l : List DInline) (depth : Int) (v5 : Int) (v6 : Nat) (w5 : Int) (w8 : Nat) (k0 : Int → Nat → Int) (k1 : Int → Nat → Int) : Nat → Int → Nat → Int
  | 0, _, _ => default
  | n2 + 1, x5, x9 => cond (decide ((((x9 : Nat) : Int) : Int) < ((lenM aCited ((el l v6).fCites) : Nat) : Int))) (weiIS_L2 rec l depth v5 v6 w5 w8 k0 k1 n2 (x5 + (quo .i64 (((ByteArray.size ((el ((el l v6).fCites) x9).fKey) + ByteArray.size ((el ((el l v6).fCites) x9).fPrefix) + ByteArray.size ((el ((el l v6).fCites) x9).fSuffix) : Nat) : Int)) (40))) (x9 + 1)) (k0 (x5 + (rec ((el l v6).fKids) (depth + 1))) (v6 + 1))
def weiIS_L1 (rec : (List DInline) → Int → Int) (l : List DInline) (depth : Int) (v5 : Int) (v6 : Nat) (k0 : Int → Nat → Int) : Nat → Int → Nat → Int
  | 0, _, _ => default
  | n1 + 1, w5, w8 => cond (decide ((((w8 : Nat) : Int) : Int) < ((lenM strAV ((el l v6).fArgs) : Nat) : Int))) (weiIS_L1 rec l depth v5 v6 k0 n1 (w5 + (quo .i64 (((ByteArray.size (el ((el l v6).fArgs) w8) : Nat) : Int)) (40))) (w8 + 1)) (weiIS_L2 rec l depth v5 v6 w5 w8 k0 (weiIS_L1 rec l depth v5 v6 k0 n1) ((List.length ((el l v6).fCites) - (0)) + 1) w5 0)
def weiIS_L0 (rec : (List DInline) → Int → Int) (l : List DInline) (depth : Int) : Nat → Int → Nat → Int
  | 0, _, _ => default
  | n0 + 1, v5, v6 => cond (cond (decide ((((v6 : Nat) : Int) : Int) < ((lenM aInline l : Nat) : Int))) (decide ((v5 : Int) < 1000)) (false)) (cond (cond (cond (cond (decide ((((ByteArray.size ((el l v6).fText) + ByteArray.size ((el l v6).fDest) + ByteArray.size ((el l v6).fTitle) : Nat) : Int) : Int) > 300)) (true) (longB ((el l v6).fAttr))) (true) (decide ((((lenM strAV ((el l v6).fArgs) : Nat) : Int) : Int) > 9))) (true) (decide ((((lenM aCited ((el l v6).fCites) : Nat) : Int) : Int) > 9))) (1000) (weiIS_L1 rec l depth v5 v6 (weiIS_L0 rec l depth n0) ((List.length ((el l v6).fArgs) - (0)) + 1) v5 0)) (v5)
def weiIS (rec : (List DInline) → Int → Int) (l : List DInline) (depth : Int) : Int := cond (cond (decide ((depth : Int) > 20)) (true) (decide ((((lenM aInline l : Nat) : Int) : Int) > 200))) (1000) (weiIS_L0 rec l depth ((List.length l - (0)) + 1) (((lenM aInline l : Nat) : Int)) 0)
set_option maxRecDepth 100000 in
set_option maxHeartbeats 4000000 in
theorem weiI_st (rec : (List DInline) → Int → Int) (l : List DInline) (depth : Int) (hl : wl wInline l ≤ 1073741824) (hd : 0 ≤ depth) (hd2 : depth ≤ 21) (hrec : ∀ (l' : List DInline) (depth' : Int), wl wInline l' < wl wInline l → wl wInline l' ≤ 1073741824 → 0 ≤ depth' → depth' ≤ 21 → CallTo Tryz.prog 32 [(jL ((l').map aInline)), (jI (depth'))] [] [] (jI (rec l' depth')) [] []) (hrb : ∀ (l' : List DInline) (depth' : Int), wl wInline l' < wl wInline l → wl wInline l' ≤ 1073741824 → 0 ≤ depth' → depth' ≤ 21 → 0 ≤ (rec l' depth') ∧ (rec l' depth') ≤ (22 - depth') * 21474836480) : CallTo Tryz.prog 32 [(jL (l.map aInline)), (jI (depth))] [] [] (jI (weiIS rec l depth)) [] [] := by
  have hw_0 := wl_len (w := wInline) wInline_pos l
  refine BEG (fun r : Int => (jI (r))) (weiIS rec l depth) Tryz.func32 (by kernel_rfl) ?_
  refine UF (weiIS.eq_1 ..) ?_
  refine GO (tn 7 (kj (decide ((depth : Int) > 20)) z (tn 2 z) z)) (by kernel_rfl) ?_
  refine CS (fun h1 => ?_) (fun h1 => ?_)
  · have := lenM_eq aInline l
    refine GO (kb h1 (tn 1 z)) (by kernel_rfl) ?_
    exact EN (by kernel_rfl)
  · have := lenM_eq aInline l
    obtain ⟨h1a, h1o⟩ := cond_tt h1
    have h1ap := of_decide_eq_false h1a
    have := lenM_eq aInline l
    have h1op := of_decide_eq_false h1o
    refine GO (kb h1 (tn 1 z)) (by kernel_rfl) ?_
    refine LP (fun N M S => ∃ v5 : Int, ∃ v6 : Nat, (0 ≤ v5) ∧ (v5 ≤ (22 - depth) * 21474836480) ∧ (List.length l - v6 < N) ∧ M = weiIS_L0 rec l depth N v5 v6 ∧ S = (sx 112 [(0, (jL (l.map aInline))), (1, (jI (depth))), (5, (jI (v5))), (6, (jI (((v6 : Nat) : Int))))] [] [])) (by kernel_rfl) ⟨_, _, by first | omega | assumption | (simp only [lenM_eq]; omega) | (simp; done) | (simp; omega), by first | omega | assumption | (simp only [lenM_eq]; omega) | (simp; done) | (simp; omega), by omega, rfl, rfl⟩ (WK (by kernel_rfl)) ?_
    rintro n0 M S ⟨v5, v6, hv, hv2, hF0, rfl, rfl⟩
    obtain ⟨n0, rfl⟩ : ∃ k, n0 = k + 1 := ⟨n0 - 1, by omega⟩
    refine UF (weiIS_L0.eq_2 ..) ?_
    refine GO (tn 5 (kj (decide ((((v6 : Nat) : Int) : Int) < ((lenM aInline l : Nat) : Int))) (tn 2 z) z z)) (by kernel_rfl) ?_
    refine CS (fun h2 => ?_) (fun h2 => ?_)
    · have := lenM_eq aInline l
      obtain ⟨h2a, h2o⟩ := cond_ff h2
      have := lenM_eq aInline l
      have h2ap := of_decide_eq_true h2a
      have hce := wl_el (w := wInline) (l := l) (i := v6) (by omega)
      have hcw := wInline_eq (el l v6)
      simp only [wStr, w1] at hcw
      have h2op := of_decide_eq_true h2o
      refine GO (kb h2 (tn 2 (ke (el_aInline l v6 (by first | omega | (simp only [lenM_eq, true_and]; omega))) (tn 9 (kn (wrE ((((ByteArray.size ((el l v6).fText) : Nat) : Int)) + (((ByteArray.size ((el l v6).fDest) : Nat) : Int))) (((ByteArray.size ((el l v6).fText) + ByteArray.size ((el l v6).fDest) : Nat) : Int)) (by omega)) (tn 3 (kn (wrE ((((ByteArray.size ((el l v6).fText) + ByteArray.size ((el l v6).fDest) : Nat) : Int)) + (((ByteArray.size ((el l v6).fTitle) : Nat) : Int))) (((ByteArray.size ((el l v6).fText) + ByteArray.size ((el l v6).fDest) + ByteArray.size ((el l v6).fTitle) : Nat) : Int)) (by omega)) (tn 2 (kj (decide ((((ByteArray.size ((el l v6).fText) + ByteArray.size ((el l v6).fDest) + ByteArray.size ((el l v6).fTitle) : Nat) : Int) : Int) > 300)) z (tn 2 (hc (fun h => by have j0 := h.2; have j0p := of_decide_eq_false j0; exact (longB_to ((el l v6).fAttr) (by first | assumption | omega | decide | (simp; done) | (simp; omega)))) z)) (tn 1 (kj (cond (decide ((((ByteArray.size ((el l v6).fText) + ByteArray.size ((el l v6).fDest) + ByteArray.size ((el l v6).fTitle) : Nat) : Int) : Int) > 300)) (true) (longB ((el l v6).fAttr))) z (tn 4 z) (tn 1 (kj (cond (cond (decide ((((ByteArray.size ((el l v6).fText) + ByteArray.size ((el l v6).fDest) + ByteArray.size ((el l v6).fTitle) : Nat) : Int) : Int) > 300)) (true) (longB ((el l v6).fAttr))) (true) (decide ((((lenM strAV ((el l v6).fArgs) : Nat) : Int) : Int) > 9))) z (tn 4 z) z))))))))))))) (by kernel_rfl) ?_
      refine CS (fun h3 => ?_) (fun h3 => ?_)
      · have := lenM_eq strAV ((el l v6).fArgs)
        have := lenM_eq aCited ((el l v6).fCites)
        refine GO (kb h3 (tn 1 z)) (by kernel_rfl) ?_
        refine OUT z (by kernel_rfl) ?_
        exact EN (by kernel_rfl)
      · have := lenM_eq strAV ((el l v6).fArgs)
        have := lenM_eq aCited ((el l v6).fCites)
        obtain ⟨h3a, h3o⟩ := cond_tt h3
        have := lenM_eq strAV ((el l v6).fArgs)
        obtain ⟨h3aa, h3ao⟩ := cond_tt h3a
        obtain ⟨h3aaa, h3aao⟩ := cond_tt h3aa
        have h3aaap := of_decide_eq_false h3aaa
        have := lenM_eq strAV ((el l v6).fArgs)
        have h3aop := of_decide_eq_false h3ao
        have := lenM_eq aCited ((el l v6).fCites)
        have h3op := of_decide_eq_false h3o
        refine GO (kb h3 (tn 1 z)) (by kernel_rfl) ?_
        refine LP (fun N M S => ∃ w5 : Int, ∃ w8 : Nat, (0 ≤ w5) ∧ (w5 ≤ 1000 + w8 * 1073741824) ∧ (w8 ≤ (el l v6).fArgs.length) ∧ (List.length ((el l v6).fArgs) - w8 < N) ∧ M = weiIS_L1 rec l depth v5 v6 (weiIS_L0 rec l depth n0) N w5 w8 ∧ S = (sx 112 [(0, (jL (l.map aInline))), (1, (jI (depth))), (5, (jI (w5))), (6, (jI (((v6 : Nat) : Int)))), (7, (.ptr 7 0)), (8, (jI (((w8 : Nat) : Int))))] [(7, (.cells 41 (sInline (el l v6))))] [])) (by kernel_rfl) ⟨_, _, by first | omega | assumption | (simp only [lenM_eq]; omega) | (simp; done) | (simp; omega), by first | omega | assumption | (simp only [lenM_eq]; omega) | (simp; done) | (simp; omega), by first | omega | assumption | (simp only [lenM_eq]; omega) | (simp; done) | (simp; omega), by omega, rfl, rfl⟩ (WK (by kernel_rfl)) ?_
        rintro n1 M S ⟨w5, w8, hw, hw2, hw3, hF1, rfl, rfl⟩
        obtain ⟨n1, rfl⟩ : ∃ k, n1 = k + 1 := ⟨n1 - 1, by omega⟩
        refine UF (weiIS_L1.eq_2 ..) ?_
        refine GO (tn 5 z) (by kernel_rfl) ?_
        refine CSd (fun h4p h4 => ?_) (fun h4p h4 => ?_)
        · have := lenM_eq strAV ((el l v6).fArgs)
          have hca := wl_el (w := wStr) (l := (el l v6).fArgs) (i := w8) (by omega)
          simp only [wStr] at hca
          have := quo_eq (((ByteArray.size (el ((el l v6).fArgs) w8) : Nat) : Int)) 40 (by decide) (by decide)
          refine GO (kb h4 (tn 4 (ke (el_strAV ((el l v6).fArgs) w8 (by first | omega | (simp only [lenM_eq, true_and]; omega))) (tn 2 (kp (show (40 : Int) ≠ 0 from (by decide)) (kn (wrE ((w5) + (quo .i64 (((ByteArray.size (el ((el l v6).fArgs) w8) : Nat) : Int)) (40))) (w5 + (quo .i64 (((ByteArray.size (el ((el l v6).fArgs) w8) : Nat) : Int)) (40))) (by omega)) (tn 2 (kn (wrE ((((w8 : Nat) : Int)) + 1) (((w8 + 1 : Nat) : Int)) (by omega)) (tn 1 z))))))))) (by kernel_rfl) ?_
          exact AG ⟨_, _, by first | omega | assumption | (simp only [lenM_eq]; omega) | (simp; done) | (simp; omega), by first | omega | assumption | (simp only [lenM_eq]; omega) | (simp; done) | (simp; omega), by first | omega | assumption | (simp only [lenM_eq]; omega) | (simp; done) | (simp; omega), by omega, rfl, rfl⟩ (WK (by kernel_rfl)) (by kernel_rfl) (Nat.lt_succ_self _)
        · have := lenM_eq strAV ((el l v6).fArgs)
          refine GO (kb h4 z) (by kernel_rfl) ?_
          refine OUT (tn 1 z) (by kernel_rfl) ?_
          refine LP (fun N M S => ∃ x5 : Int, ∃ x9 : Nat, (0 ≤ x5) ∧ (x5 ≤ 1000 + 9 * 1073741824 + x9 * 1073741824) ∧ (x9 ≤ (el l v6).fCites.length) ∧ (List.length ((el l v6).fCites) - x9 < N) ∧ M = weiIS_L2 rec l depth v5 v6 w5 w8 (weiIS_L0 rec l depth n0) (weiIS_L1 rec l depth v5 v6 (weiIS_L0 rec l depth n0) n1) N x5 x9 ∧ S = (sx 112 [(0, (jL (l.map aInline))), (1, (jI (depth))), (5, (jI (x5))), (6, (jI (((v6 : Nat) : Int)))), (7, (.ptr 7 0)), (9, (jI (((x9 : Nat) : Int))))] [(7, (.cells 41 (sInline (el l v6))))] [])) (by kernel_rfl) ⟨_, _, by first | omega | assumption | (simp only [lenM_eq]; omega) | (simp; done) | (simp; omega), by first | omega | assumption | (simp only [lenM_eq]; omega) | (simp; done) | (simp; omega), by first | omega | assumption | (simp only [lenM_eq]; omega) | (simp; done) | (simp; omega), by omega, rfl, rfl⟩ (WK (by kernel_rfl)) ?_
          rintro n2 M S ⟨x5, x9, hx, hx2, hx3, hF2, rfl, rfl⟩
          obtain ⟨n2, rfl⟩ : ∃ k, n2 = k + 1 := ⟨n2 - 1, by omega⟩
          refine UF (weiIS_L2.eq_2 ..) ?_
          refine GO (tn 5 z) (by kernel_rfl) ?_
          refine CSd (fun h5p h5 => ?_) (fun h5p h5 => ?_)
          · have := lenM_eq aCited ((el l v6).fCites)
            have hcc := wl_el (w := wCited) (l := (el l v6).fCites) (i := x9) (by omega)
            simp only [wCited, wStr] at hcc
            have := quo_eq (((ByteArray.size ((el ((el l v6).fCites) x9).fKey) + ByteArray.size ((el ((el l v6).fCites) x9).fPrefix) + ByteArray.size ((el ((el l v6).fCites) x9).fSuffix) : Nat) : Int)) 40 (by decide) (by decide)
            refine GO (kb h5 (tn 3 (ke (el_aCited ((el l v6).fCites) x9 (by first | omega | (simp only [lenM_eq, true_and]; omega))) (tn 10 (kn (wrE ((((ByteArray.size ((el ((el l v6).fCites) x9).fKey) : Nat) : Int)) + (((ByteArray.size ((el ((el l v6).fCites) x9).fPrefix) : Nat) : Int))) (((ByteArray.size ((el ((el l v6).fCites) x9).fKey) + ByteArray.size ((el ((el l v6).fCites) x9).fPrefix) : Nat) : Int)) (by omega)) (tn 3 (kn (wrE ((((ByteArray.size ((el ((el l v6).fCites) x9).fKey) + ByteArray.size ((el ((el l v6).fCites) x9).fPrefix) : Nat) : Int)) + (((ByteArray.size ((el ((el l v6).fCites) x9).fSuffix) : Nat) : Int))) (((ByteArray.size ((el ((el l v6).fCites) x9).fKey) + ByteArray.size ((el ((el l v6).fCites) x9).fPrefix) + ByteArray.size ((el ((el l v6).fCites) x9).fSuffix) : Nat) : Int)) (by omega)) (kp (show (40 : Int) ≠ 0 from (by decide)) (kn (wrE ((x5) + (quo .i64 (((ByteArray.size ((el ((el l v6).fCites) x9).fKey) + ByteArray.size ((el ((el l v6).fCites) x9).fPrefix) + ByteArray.size ((el ((el l v6).fCites) x9).fSuffix) : Nat) : Int)) (40))) (x5 + (quo .i64 (((ByteArray.size ((el ((el l v6).fCites) x9).fKey) + ByteArray.size ((el ((el l v6).fCites) x9).fPrefix) + ByteArray.size ((el ((el l v6).fCites) x9).fSuffix) : Nat) : Int)) (40))) (by omega)) (tn 2 (kn (wrE ((((x9 : Nat) : Int)) + 1) (((x9 + 1 : Nat) : Int)) (by omega)) (tn 1 z)))))))))))) (by kernel_rfl) ?_
            exact AG ⟨_, _, by first | omega | assumption | (simp only [lenM_eq]; omega) | (simp; done) | (simp; omega), by first | omega | assumption | (simp only [lenM_eq]; omega) | (simp; done) | (simp; omega), by first | omega | assumption | (simp only [lenM_eq]; omega) | (simp; done) | (simp; omega), by omega, rfl, rfl⟩ (WK (by kernel_rfl)) (by kernel_rfl) (Nat.lt_succ_self _)
          · have := lenM_eq aCited ((el l v6).fCites)
            refine GO (kb h5 z) (by kernel_rfl) ?_
            have := hrb ((el l v6).fKids) (depth + 1) (by first | assumption | omega | decide | (simp; done) | (simp; omega)) (by first | assumption | omega | decide | (simp; done) | (simp; omega)) (by first | assumption | omega | decide | (simp; done) | (simp; omega)) (by first | assumption | omega | decide | (simp; done) | (simp; omega))
            refine OUT (tn 4 (kn (wrE ((depth) + 1) (depth + 1) (by omega)) (kc (hrec ((el l v6).fKids) (depth + 1) (by first | assumption | omega | decide | (simp; done) | (simp; omega)) (by first | assumption | omega | decide | (simp; done) | (simp; omega)) (by first | assumption | omega | decide | (simp; done) | (simp; omega)) (by first | assumption | omega | decide | (simp; done) | (simp; omega))) (kn (wrE ((x5) + (rec ((el l v6).fKids) (depth + 1))) (x5 + (rec ((el l v6).fKids) (depth + 1))) (by omega)) (tn 2 (kn (wrE ((((v6 : Nat) : Int)) + 1) (((v6 + 1 : Nat) : Int)) (by omega)) (tn 1 z))))))) (by kernel_rfl) ?_
            exact AG ⟨_, _, by first | omega | assumption | (simp only [lenM_eq]; omega) | (simp; done) | (simp; omega), by first | omega | assumption | (simp only [lenM_eq]; omega) | (simp; done) | (simp; omega), by omega, rfl, rfl⟩ (WK (by kernel_rfl)) (by kernel_rfl) (Nat.lt_succ_self _)
    · have := lenM_eq aInline l
      refine GO (kb h2 z) (by kernel_rfl) ?_
      refine OUT (tn 2 z) (by kernel_rfl) ?_
      exact EN (by kernel_rfl)
def weiIN : Nat → (List DInline) → Int → Int
  | 0, _, _ => default
  | n + 1, l, depth => weiIS (weiIN n) l depth
theorem quo40 (n : Nat) (h : n ≤ 1073741824) : 0 ≤ quo .i64 (n : Int) 40 ∧ quo .i64 (n : Int) 40 ≤ 1073741824 := by
  have := quo_eq (n : Int) 40 (by decide) (by decide) (by omega) (by omega)
  omega
theorem weiIS_L2_bd (M : Int) (rec : (List DInline) → Int → Int) (l : List DInline) (depth : Int) (v5 : Int) (v6 : Nat) (w5 : Int) (w8 : Nat) (k0 k1 : Int → Nat → Int) (hM : 0 ≤ M) (hw : wInline (el l v6) ≤ 1073741824) (hc : (el l v6).fCites.length ≤ 9)
    (hk : ∀ x : Int, 0 ≤ x → x ≤ 1000 + 18 * 1073741824 → 0 ≤ k0 (x + rec (el l v6).fKids (depth + 1)) (v6 + 1) ∧ k0 (x + rec (el l v6).fKids (depth + 1)) (v6 + 1) ≤ M) :
    ∀ (n : Nat) (x5 : Int) (x9 : Nat), 0 ≤ x5 → x5 ≤ 1000 + 9 * 1073741824 + x9 * 1073741824 → x9 ≤ (el l v6).fCites.length → 0 ≤ weiIS_L2 rec l depth v5 v6 w5 w8 k0 k1 n x5 x9 ∧ weiIS_L2 rec l depth v5 v6 w5 w8 k0 k1 n x5 x9 ≤ M := by
  intro n
  induction n with
  | zero => intro x5 x9 h1 h2 h3; rw [weiIS_L2]; exact ⟨Int.le_refl 0, hM⟩
  | succ n ih =>
    intro x5 x9 h1 h2 h3
    rw [weiIS_L2]
    have hlm := lenM_eq aCited (el l v6).fCites
    refine condP (fun r : Int => 0 ≤ r ∧ r ≤ M) (fun q => ?_) (fun q => hk _ h1 (by omega))
    have q1 := of_decide_eq_true q
    have hcw := wInline_eq (el l v6)
    have hcc := wl_el (w := wCited) (l := (el l v6).fCites) (i := x9) (by omega)
    simp only [wCited, wStr] at hcc
    have hq := quo40 (ByteArray.size ((el ((el l v6).fCites) x9).fKey) + ByteArray.size ((el ((el l v6).fCites) x9).fPrefix) + ByteArray.size ((el ((el l v6).fCites) x9).fSuffix)) (by omega)
    exact ih _ _ (by omega) (by omega) (by omega)
theorem weiIS_L1_bd (M : Int) (rec : (List DInline) → Int → Int) (l : List DInline) (depth : Int) (v5 : Int) (v6 : Nat) (k0 : Int → Nat → Int) (hM : 0 ≤ M) (hw : wInline (el l v6) ≤ 1073741824) (ha : (el l v6).fArgs.length ≤ 9) (hc : (el l v6).fCites.length ≤ 9)
    (hk : ∀ x : Int, 0 ≤ x → x ≤ 1000 + 18 * 1073741824 → 0 ≤ k0 (x + rec (el l v6).fKids (depth + 1)) (v6 + 1) ∧ k0 (x + rec (el l v6).fKids (depth + 1)) (v6 + 1) ≤ M) :
    ∀ (n : Nat) (w5 : Int) (w8 : Nat), 0 ≤ w5 → w5 ≤ 1000 + w8 * 1073741824 → w8 ≤ (el l v6).fArgs.length → 0 ≤ weiIS_L1 rec l depth v5 v6 k0 n w5 w8 ∧ weiIS_L1 rec l depth v5 v6 k0 n w5 w8 ≤ M := by
  intro n
  induction n with
  | zero => intro w5 w8 h1 h2 h3; rw [weiIS_L1]; exact ⟨Int.le_refl 0, hM⟩
  | succ n ih =>
    intro w5 w8 h1 h2 h3
    rw [weiIS_L1]
    have hlm := lenM_eq strAV (el l v6).fArgs
    refine condP (fun r : Int => 0 ≤ r ∧ r ≤ M) (fun q => ?_) (fun q => weiIS_L2_bd M rec l depth v5 v6 w5 w8 k0 _ hM hw hc hk _ _ _ h1 (by omega) (by omega))
    have q1 := of_decide_eq_true q
    have hcw := wInline_eq (el l v6)
    have hcc := wl_el (w := wStr) (l := (el l v6).fArgs) (i := w8) (by omega)
    simp only [wStr] at hcc
    have hq := quo40 (ByteArray.size (el ((el l v6).fArgs) w8)) (by omega)
    exact ih _ _ (by omega) (by omega) (by omega)
theorem weiIS_L0_bd (rec : (List DInline) → Int → Int) (l : List DInline) (depth : Int) (hl : wl wInline l ≤ 1073741824) (hd : 0 ≤ depth) (hd2 : depth ≤ 20) (hr : ∀ l' : List DInline, wl wInline l' < wl wInline l → 0 ≤ rec l' (depth + 1) ∧ rec l' (depth + 1) ≤ (22 - (depth + 1)) * 21474836480) :
    ∀ (n : Nat) (v5 : Int) (v6 : Nat), 0 ≤ v5 → v5 ≤ (22 - depth) * 21474836480 → 0 ≤ weiIS_L0 rec l depth n v5 v6 ∧ weiIS_L0 rec l depth n v5 v6 ≤ (22 - depth) * 21474836480
  | 0, v5, v6, h1, h2 => by show (0 : Int) ≤ 0 ∧ (0 : Int) ≤ _; omega
  | n + 1, v5, v6, h1, h2 => by
    rw [weiIS_L0]
    have hlm := lenM_eq aInline l
    refine condP (fun r : Int => 0 ≤ r ∧ r ≤ (22 - depth) * 21474836480) (fun q => condP (fun r : Int => 0 ≤ r ∧ r ≤ (22 - depth) * 21474836480) (fun _ => by show (0 : Int) ≤ 1000 ∧ (1000 : Int) ≤ _; omega) (fun q2 => ?_)) (fun q => ⟨h1, h2⟩)
    have q1 := of_decide_eq_true (cond_ff q).1
    have q3 := of_decide_eq_true (cond_ff q).2
    have q4 := of_decide_eq_false (cond_tt q2).2
    have q5 := of_decide_eq_false (cond_tt (cond_tt q2).1).2
    have hl2 := lenM_eq aCited (el l v6).fCites
    have hl3 := lenM_eq strAV (el l v6).fArgs
    have hce := wl_el (w := wInline) (l := l) (i := v6) (by omega)
    have hcw := wInline_eq (el l v6)
    have hq := hr (el l v6).fKids (by omega)
    refine weiIS_L1_bd _ rec l depth v5 v6 _ (by omega) (by omega) (by omega) (by omega) (fun x hx1 hx2 => weiIS_L0_bd rec l depth hl hd hd2 hr n _ _ (by omega) (by omega)) _ _ _ h1 (by omega) (by omega)
theorem weiIN_bd : ∀ (n : Nat) (l : List DInline) (depth : Int), wl wInline l < n → wl wInline l ≤ 1073741824 → 0 ≤ depth → depth ≤ 21 → 0 ≤ weiIN n l depth ∧ weiIN n l depth ≤ (22 - depth) * 21474836480
  | 0, l, depth, h, _, _, _ => by omega
  | n + 1, l, depth, h, hl, hd, hd2 => by
    have hw_0 := wl_len (w := wInline) wInline_pos l
    rw [weiIN, weiIS]
    refine condP (fun r : Int => 0 ≤ r ∧ r ≤ (22 - depth) * 21474836480) (fun _ => by show (0 : Int) ≤ 1000 ∧ (1000 : Int) ≤ _; omega) (fun q => ?_)
    have q1 := of_decide_eq_false (cond_tt q).1
    exact weiIS_L0_bd _ l depth hl hd (by omega) (fun l' q => weiIN_bd n l' (depth + 1) (by omega) (by omega) (by omega) (by omega)) _ _ _ (by omega) (by simp only [lenM_eq]; omega)
theorem weiIN_to : ∀ (n : Nat) (l : List DInline) (depth : Int), wl wInline l < n → wl wInline l ≤ 1073741824 → 0 ≤ depth → depth ≤ 21 → CallTo Tryz.prog 32 [(jL (l.map aInline)), (jI (depth))] [] [] (jI (weiIN n l depth)) [] []
  | 0, l, depth, h0, _, _, _ => absurd h0 (Nat.not_lt_zero _)
  | n + 1, l, depth, h0, hl, hd, hd2 => by
    exact weiI_st (weiIN n) l depth hl hd hd2 (fun l' depth' q1 hl' hd' hd2' => weiIN_to n l' depth' (by omega) hl' hd' hd2') (fun l' depth' q1 hl' hd' hd2' => weiIN_bd n l' depth' (by omega) hl' hd' hd2')
def weiI (l : List DInline) (depth : Int) : Int := weiIN (wl wInline l + 1) l depth
theorem weiI_to (l : List DInline) (depth : Int) (hl : wl wInline l ≤ 1073741824) (hd : 0 ≤ depth) (hd2 : depth ≤ 21) : CallTo Tryz.prog 32 [(jL (l.map aInline)), (jI (depth))] [] [] (jI (weiI l depth)) [] [] := weiIN_to _ l depth (Nat.lt_succ_self _) hl hd hd2
theorem weiI_bd (l : List DInline) (depth : Int) (hl : wl wInline l ≤ 1073741824) (hd : 0 ≤ depth) (hd2 : depth ≤ 21) : 0 ≤ (weiI l depth) ∧ (weiI l depth) ≤ (22 - depth) * 21474836480 := weiIN_bd _ l depth (Nat.lt_succ_self _) hl hd hd2
end Go.Proofs.YtdaglbjgdakmcaaGreat
namespace Go.Proofs.YtdaglbjgdakmcaaGreat
open Go Go.Eng
def hvyIS_L0 (rec : (List DBlock) → Int → Int) (l : List DBlock) (depth : Int) : Nat → Int → Nat → Int
  | 0, _, _ => default
  | n0 + 1, v5, v6 => cond (cond (decide ((((v6 : Nat) : Int) : Int) < ((lenM aBlock l : Nat) : Int))) (decide ((v5 : Int) < 1000)) (false)) (cond (cond (decide ((((ByteArray.size ((el l v6).fText) + ByteArray.size ((el l v6).fInfo) + ByteArray.size ((el l v6).fDest) + ByteArray.size ((el l v6).fTitle) : Nat) : Int) : Int) > 300)) (true) (longB ((el l v6).fAttr))) (1000) (hvyIS_L0 rec l depth n0 (v5 + ((weiI ((el l v6).fLine) 0) + (rec ((el l v6).fKids) (depth + 1)))) (v6 + 1))) (v5)
def hvyIS (rec : (List DBlock) → Int → Int) (l : List DBlock) (depth : Int) : Int := cond (cond (decide ((depth : Int) > 20)) (true) (decide ((((lenM aBlock l : Nat) : Int) : Int) > 200))) (1000) (hvyIS_L0 rec l depth ((List.length l - (0)) + 1) (((lenM aBlock l : Nat) : Int)) 0)
set_option maxRecDepth 100000 in
set_option maxHeartbeats 4000000 in
theorem hvyI_st (rec : (List DBlock) → Int → Int) (l : List DBlock) (depth : Int) (hl : wl wBlock l ≤ 1073741824) (hd : 0 ≤ depth) (hd2 : depth ≤ 21) (hrec : ∀ (l' : List DBlock) (depth' : Int), wl wBlock l' < wl wBlock l → wl wBlock l' ≤ 1073741824 → 0 ≤ depth' → depth' ≤ 21 → CallTo Tryz.prog 14 [(jL ((l').map aBlock)), (jI (depth'))] [] [] (jI (rec l' depth')) [] []) (hrb : ∀ (l' : List DBlock) (depth' : Int), wl wBlock l' < wl wBlock l → wl wBlock l' ≤ 1073741824 → 0 ≤ depth' → depth' ≤ 21 → 0 ≤ (rec l' depth') ∧ (rec l' depth') ≤ (22 - depth') * 1000000000000) : CallTo Tryz.prog 14 [(jL (l.map aBlock)), (jI (depth))] [] [] (jI (hvyIS rec l depth)) [] [] := by
  have hw_0 := wl_len (w := wBlock) wBlock_pos l
  refine BEG (fun r : Int => (jI (r))) (hvyIS rec l depth) Tryz.func14 (by kernel_rfl) ?_
  refine UF (hvyIS.eq_1 ..) ?_
  refine GO (tn 7 (kj (decide ((depth : Int) > 20)) z (tn 2 z) z)) (by kernel_rfl) ?_
  refine CS (fun h1 => ?_) (fun h1 => ?_)
  · have := lenM_eq aBlock l
    refine GO (kb h1 (tn 1 z)) (by kernel_rfl) ?_
    exact EN (by kernel_rfl)
  · have := lenM_eq aBlock l
    obtain ⟨h1a, h1o⟩ := cond_tt h1
    have h1ap := of_decide_eq_false h1a
    have := lenM_eq aBlock l
    have h1op := of_decide_eq_false h1o
    refine GO (kb h1 (tn 1 z)) (by kernel_rfl) ?_
    refine LP (fun N M S => ∃ v5 : Int, ∃ v6 : Nat, (0 ≤ v5) ∧ (v5 ≤ (22 - depth) * 1000000000000) ∧ (List.length l - v6 < N) ∧ M = hvyIS_L0 rec l depth N v5 v6 ∧ S = (sx 63 [(0, (jL (l.map aBlock))), (1, (jI (depth))), (5, (jI (v5))), (6, (jI (((v6 : Nat) : Int))))] [] [])) (by kernel_rfl) ⟨_, _, by first | omega | assumption | (simp only [lenM_eq]; omega) | (simp; done) | (simp; omega), by first | omega | assumption | (simp only [lenM_eq]; omega) | (simp; done) | (simp; omega), by omega, rfl, rfl⟩ (WK (by kernel_rfl)) ?_
    rintro n0 M S ⟨v5, v6, hv, hv2, hF0, rfl, rfl⟩
    obtain ⟨n0, rfl⟩ : ∃ k, n0 = k + 1 := ⟨n0 - 1, by omega⟩
    refine UF (hvyIS_L0.eq_2 ..) ?_
    refine GO (tn 5 (kj (decide ((((v6 : Nat) : Int) : Int) < ((lenM aBlock l : Nat) : Int))) (tn 2 z) z z)) (by kernel_rfl) ?_
    refine CS (fun h2 => ?_) (fun h2 => ?_)
    · have := lenM_eq aBlock l
      obtain ⟨h2a, h2o⟩ := cond_ff h2
      have := lenM_eq aBlock l
      have h2ap := of_decide_eq_true h2a
      have hce := wl_el (w := wBlock) (l := l) (i := v6) (by omega)
      have hcw := wBlock_eq (el l v6)
      simp only [wStr, w1] at hcw
      have h2op := of_decide_eq_true h2o
      refine GO (kb h2 (tn 2 (ke (el_aBlock l v6 (by first | omega | (simp only [lenM_eq, true_and]; omega))) (tn 9 (kn (wrE ((((ByteArray.size ((el l v6).fText) : Nat) : Int)) + (((ByteArray.size ((el l v6).fInfo) : Nat) : Int))) (((ByteArray.size ((el l v6).fText) + ByteArray.size ((el l v6).fInfo) : Nat) : Int)) (by omega)) (tn 3 (kn (wrE ((((ByteArray.size ((el l v6).fText) + ByteArray.size ((el l v6).fInfo) : Nat) : Int)) + (((ByteArray.size ((el l v6).fDest) : Nat) : Int))) (((ByteArray.size ((el l v6).fText) + ByteArray.size ((el l v6).fInfo) + ByteArray.size ((el l v6).fDest) : Nat) : Int)) (by omega)) (tn 3 (kn (wrE ((((ByteArray.size ((el l v6).fText) + ByteArray.size ((el l v6).fInfo) + ByteArray.size ((el l v6).fDest) : Nat) : Int)) + (((ByteArray.size ((el l v6).fTitle) : Nat) : Int))) (((ByteArray.size ((el l v6).fText) + ByteArray.size ((el l v6).fInfo) + ByteArray.size ((el l v6).fDest) + ByteArray.size ((el l v6).fTitle) : Nat) : Int)) (by omega)) (tn 2 (kj (decide ((((ByteArray.size ((el l v6).fText) + ByteArray.size ((el l v6).fInfo) + ByteArray.size ((el l v6).fDest) + ByteArray.size ((el l v6).fTitle) : Nat) : Int) : Int) > 300)) z (tn 2 (hc (fun h => by have j0 := h.2; have j0p := of_decide_eq_false j0; exact (longB_to ((el l v6).fAttr) (by first | assumption | omega | decide | (simp; done) | (simp; omega)))) z)) z))))))))))) (by kernel_rfl) ?_
      refine CS (fun h3 => ?_) (fun h3 => ?_)
      · refine GO (kb h3 (tn 1 z)) (by kernel_rfl) ?_
        refine OUT z (by kernel_rfl) ?_
        exact EN (by kernel_rfl)
      · obtain ⟨h3a, h3o⟩ := cond_tt h3
        have h3ap := of_decide_eq_false h3a
        refine GO (kb h3 z) (by kernel_rfl) ?_
        have := weiI_bd ((el l v6).fLine) 0 (by first | assumption | omega | decide | (simp; done) | (simp; omega)) (by first | assumption | omega | decide | (simp; done) | (simp; omega)) (by first | assumption | omega | decide | (simp; done) | (simp; omega))
        have := hrb ((el l v6).fKids) (depth + 1) (by first | assumption | omega | decide | (simp; done) | (simp; omega)) (by first | assumption | omega | decide | (simp; done) | (simp; omega)) (by first | assumption | omega | decide | (simp; done) | (simp; omega)) (by first | assumption | omega | decide | (simp; done) | (simp; omega))
        have d4 := (weiI_to ((el l v6).fLine) 0 (by first | assumption | omega | decide | (simp; done) | (simp; omega)) (by first | assumption | omega | decide | (simp; done) | (simp; omega)) (by first | assumption | omega | decide | (simp; done) | (simp; omega)))
        have d5 := wrE ((depth) + 1) (depth + 1) (by omega)
        have d6 := (hrec ((el l v6).fKids) (depth + 1) (by first | assumption | omega | decide | (simp; done) | (simp; omega)) (by first | assumption | omega | decide | (simp; done) | (simp; omega)) (by first | assumption | omega | decide | (simp; done) | (simp; omega)) (by first | assumption | omega | decide | (simp; done) | (simp; omega)))
        have d7 := wrE ((weiI ((el l v6).fLine) 0) + (rec ((el l v6).fKids) (depth + 1))) ((weiI ((el l v6).fLine) 0) + (rec ((el l v6).fKids) (depth + 1))) (by omega)
        have d8 := wrE ((v5) + ((weiI ((el l v6).fLine) 0) + (rec ((el l v6).fKids) (depth + 1)))) (v5 + ((weiI ((el l v6).fLine) 0) + (rec ((el l v6).fKids) (depth + 1)))) (by omega)
        refine DR3 (tn 3 (ko (cO d4) (kp d4 (tn 4 (ko (nO d5) (kp d5 (ko (cO d6) (kp d6 (tn 1 (ko (nO d7) (kp d7 (ko (nO d8) (kp d8 (tn 2 (kn (wrE ((((v6 : Nat) : Int)) + 1) (((v6 + 1 : Nat) : Int)) (by omega)) (tn 1 z)))))))))))))))) (by kernel_rfl) (by kernel_rfl) (by kernel_rfl) ?_
        exact AG ⟨_, _, by first | omega | assumption | (simp only [lenM_eq]; omega) | (simp; done) | (simp; omega), by first | omega | assumption | (simp only [lenM_eq]; omega) | (simp; done) | (simp; omega), by omega, rfl, rfl⟩ (WK (by kernel_rfl)) (by kernel_rfl) (Nat.lt_succ_self _)
    · have := lenM_eq aBlock l
      refine GO (kb h2 z) (by kernel_rfl) ?_
      refine OUT (tn 2 z) (by kernel_rfl) ?_
      exact EN (by kernel_rfl)
def hvyIN : Nat → (List DBlock) → Int → Int
  | 0, _, _ => default
  | n + 1, l, depth => hvyIS (hvyIN n) l depth
theorem hvyIS_L0_bd (rec : (List DBlock) → Int → Int) (l : List DBlock) (depth : Int) (hl : wl wBlock l ≤ 1073741824) (hd : 0 ≤ depth) (hd2 : depth ≤ 20) (hr : ∀ l' : List DBlock, wl wBlock l' < wl wBlock l → 0 ≤ rec l' (depth + 1) ∧ rec l' (depth + 1) ≤ (22 - (depth + 1)) * 1000000000000) :
    ∀ (n : Nat) (v5 : Int) (v6 : Nat), 0 ≤ v5 → v5 ≤ (22 - depth) * 1000000000000 → 0 ≤ hvyIS_L0 rec l depth n v5 v6 ∧ hvyIS_L0 rec l depth n v5 v6 ≤ (22 - depth) * 1000000000000 := by
  intro n
  induction n with
  | zero => intro v5 v6 h1 h2; rw [hvyIS_L0]; exact ⟨Int.le_refl 0, show (0 : Int) ≤ (22 - depth) * 1000000000000 by omega⟩
  | succ n ih =>
    intro v5 v6 h1 h2
    rw [hvyIS_L0]
    have hlm := lenM_eq aBlock l
    refine condP (fun r : Int => 0 ≤ r ∧ r ≤ (22 - depth) * 1000000000000) (fun q => condP (fun r : Int => 0 ≤ r ∧ r ≤ (22 - depth) * 1000000000000) (fun _ => by show (0 : Int) ≤ 1000 ∧ (1000 : Int) ≤ _; omega) (fun q2 => ?_)) (fun q => ⟨h1, h2⟩)
    have q1 := of_decide_eq_true (cond_ff q).1
    have q3 := of_decide_eq_true (cond_ff q).2
    have hce := wl_el (w := wBlock) (l := l) (i := v6) (by omega)
    have hcw := wBlock_eq (el l v6)
    have hq := hr (el l v6).fKids (by omega)
    have hq2 := weiI_bd (el l v6).fLine 0 (by omega) (by omega) (by omega)
    exact ih _ _ (by omega) (by omega)
theorem hvyIN_bd : ∀ (n : Nat) (l : List DBlock) (depth : Int), wl wBlock l < n → wl wBlock l ≤ 1073741824 → 0 ≤ depth → depth ≤ 21 → 0 ≤ hvyIN n l depth ∧ hvyIN n l depth ≤ (22 - depth) * 1000000000000
  | 0, l, depth, h, _, _, _ => by omega
  | n + 1, l, depth, h, hl, hd, hd2 => by
    have hw_0 := wl_len (w := wBlock) wBlock_pos l
    rw [hvyIN, hvyIS]
    refine condP (fun r : Int => 0 ≤ r ∧ r ≤ (22 - depth) * 1000000000000) (fun _ => by show (0 : Int) ≤ 1000 ∧ (1000 : Int) ≤ _; omega) (fun q => ?_)
    have q1 := of_decide_eq_false (cond_tt q).1
    exact hvyIS_L0_bd _ l depth hl hd (by omega) (fun l' q => hvyIN_bd n l' (depth + 1) (by omega) (by omega) (by omega) (by omega)) _ _ _ (by omega) (by simp only [lenM_eq]; omega)
theorem hvyIN_to : ∀ (n : Nat) (l : List DBlock) (depth : Int), wl wBlock l < n → wl wBlock l ≤ 1073741824 → 0 ≤ depth → depth ≤ 21 → CallTo Tryz.prog 14 [(jL (l.map aBlock)), (jI (depth))] [] [] (jI (hvyIN n l depth)) [] []
  | 0, l, depth, h0, _, _, _ => absurd h0 (Nat.not_lt_zero _)
  | n + 1, l, depth, h0, hl, hd, hd2 => by
    exact hvyI_st (hvyIN n) l depth hl hd hd2 (fun l' depth' q1 hl' hd' hd2' => hvyIN_to n l' depth' (by omega) hl' hd' hd2') (fun l' depth' q1 hl' hd' hd2' => hvyIN_bd n l' depth' (by omega) hl' hd' hd2')
def hvyI (l : List DBlock) (depth : Int) : Int := hvyIN (wl wBlock l + 1) l depth
theorem hvyI_to (l : List DBlock) (depth : Int) (hl : wl wBlock l ≤ 1073741824) (hd : 0 ≤ depth) (hd2 : depth ≤ 21) : CallTo Tryz.prog 14 [(jL (l.map aBlock)), (jI (depth))] [] [] (jI (hvyI l depth)) [] [] := hvyIN_to _ l depth (Nat.lt_succ_self _) hl hd hd2
theorem hvyI_bd (l : List DBlock) (depth : Int) (hl : wl wBlock l ≤ 1073741824) (hd : 0 ≤ depth) (hd2 : depth ≤ 21) : 0 ≤ (hvyI l depth) ∧ (hvyI l depth) ≤ (22 - depth) * 1000000000000 := hvyIN_bd _ l depth (Nat.lt_succ_self _) hl hd hd2
def smlD_L0 (d : DDoc) : Nat → Nat → Bool
  | 0, _ => default
  | n0 + 1, v3 => cond (decide ((((v3 : Nat) : Int) : Int) < ((lenM aPair d.fMeta : Nat) : Int))) (cond (decide ((((ByteArray.size ((el d.fMeta v3).fKey) + ByteArray.size ((el d.fMeta v3).fValue) : Nat) : Int) : Int) > 300)) (false) (smlD_L0 d n0 (v3 + 1))) (decide ((hvyI d.fBlocks 0 : Int) ≤ 120))
def smlD (d : DDoc) : Bool := cond (decide ((((lenM aPair d.fMeta : Nat) : Int) : Int) > 70)) (false) (smlD_L0 d ((List.length d.fMeta - (0)) + 1) 0)
set_option maxRecDepth 100000 in
set_option maxHeartbeats 4000000 in
theorem smlD_to (d : DDoc) (hd : wDoc d ≤ 1073741824) : CallTo Tryz.prog 6 [(.av (cDoc d))] [] [] (jB (smlD d)) [] [] := by
  have hwd := wDoc_eq d
  have hw_0 := wl_len (w := wPair) wPair_pos d.fMeta
  refine BEG (fun r : Bool => (jB (r))) (smlD d) Tryz.func6 (by kernel_rfl) ?_
  refine UF (smlD.eq_1 ..) ?_
  refine GO (tn 6 z) (by kernel_rfl) ?_
  refine CSd (fun h1p h1 => ?_) (fun h1p h1 => ?_)
  · have := lenM_eq aPair d.fMeta
    refine GO (kb h1 (tn 1 z)) (by kernel_rfl) ?_
    exact EN (by kernel_rfl)
  · have := lenM_eq aPair d.fMeta
    refine GO (kb h1 (tn 1 z)) (by kernel_rfl) ?_
    refine LP (fun N M S => ∃ v3 : Nat, (List.length d.fMeta - v3 < N) ∧ M = smlD_L0 d N v3 ∧ S = (sx 35 [(1, (.ptr 1 0)), (3, (jI (((v3 : Nat) : Int))))] [(1, (.cells 25 (sDoc d)))] [])) (by kernel_rfl) ⟨_, by omega, rfl, rfl⟩ (WK (by kernel_rfl)) ?_
    rintro n0 M S ⟨v3, hF0, rfl, rfl⟩
    obtain ⟨n0, rfl⟩ : ∃ k, n0 = k + 1 := ⟨n0 - 1, by omega⟩
    refine UF (smlD_L0.eq_2 ..) ?_
    refine GO (tn 5 z) (by kernel_rfl) ?_
    refine CSd (fun h2p h2 => ?_) (fun h2p h2 => ?_)
    · have := lenM_eq aPair d.fMeta
      have hce := wl_el (w := wPair) (l := d.fMeta) (i := v3) (by omega)
      simp only [wPair, wStr] at hce
      refine GO (kb h2 z) (by kernel_rfl) ?_
      have d3 := (el_aPair d.fMeta v3 (by first | omega | (simp only [lenM_eq, true_and]; omega)))
      have d4 := (el_aPair d.fMeta v3 (by first | omega | (simp only [lenM_eq, true_and]; omega)))
      have d5 := wrE ((((ByteArray.size ((el d.fMeta v3).fKey) : Nat) : Int)) + (((ByteArray.size ((el d.fMeta v3).fValue) : Nat) : Int))) (((ByteArray.size ((el d.fMeta v3).fKey) + ByteArray.size ((el d.fMeta v3).fValue) : Nat) : Int)) (by omega)
      refine DR3 (tn 3 (ko (eO d3) (kp d3 (tn 6 (ko (eO d4) (kp d4 (tn 3 (ko (nO d5) (kp d5 (tn 1 z)))))))))) (by kernel_rfl) (by kernel_rfl) (by kernel_rfl) ?_
      refine CSd (fun h6p h6 => ?_) (fun h6p h6 => ?_)
      · refine GO (kb h6 (tn 1 z)) (by kernel_rfl) ?_
        refine OUT z (by kernel_rfl) ?_
        exact EN (by kernel_rfl)
      · refine GO (kb h6 (tn 1 (kn (wrE ((((v3 : Nat) : Int)) + 1) (((v3 + 1 : Nat) : Int)) (by omega)) (tn 1 z)))) (by kernel_rfl) ?_
        exact AG ⟨_, by omega, rfl, rfl⟩ (WK (by kernel_rfl)) (by kernel_rfl) (Nat.lt_succ_self _)
    · have := lenM_eq aPair d.fMeta
      refine GO (kb h2 z) (by kernel_rfl) ?_
      have := hvyI_bd d.fBlocks 0 (by first | assumption | omega | decide | (simp; done) | (simp; omega)) (by first | assumption | omega | decide | (simp; done) | (simp; omega)) (by first | assumption | omega | decide | (simp; done) | (simp; omega))
      refine OUT (tn 2 (kc (hvyI_to d.fBlocks 0 (by first | assumption | omega | decide | (simp; done) | (simp; omega)) (by first | assumption | omega | decide | (simp; done) | (simp; omega)) (by first | assumption | omega | decide | (simp; done) | (simp; omega))) (tn 2 z))) (by kernel_rfl) ?_
      exact EN (by kernel_rfl)
end Go.Proofs.YtdaglbjgdakmcaaGreat
