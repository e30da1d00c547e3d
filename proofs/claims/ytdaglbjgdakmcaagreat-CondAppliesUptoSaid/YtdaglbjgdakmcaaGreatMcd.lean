/- Texts joined by a program (merge.py). -/
import Derived.Test.YtdaglbjgdakmcaaGreatMcc
import Derived.KernelRfl
import Derived.Test.YtdaglbjgdakmcaaGreatMcb
set_option linter.unusedSimpArgs false
set_option linter.unusedVariables false
set_option maxRecDepth 100000
set_option maxHeartbeats 4000000
namespace Go.Proofs.YtdaglbjgdakmcaaGreat
open Go Go.Eng
def itmQ (s : ByteArray) (r : DAttr × Int × Int) : Prop := r.1.fClasses.length ≤ 32 ∧ r.1.fPairs.length ≤ 32 ∧ 0 ≤ r.2.1 ∧ r.2.1 ≤ s.size + 1
theorem itemA_bd (a : DAttr) (s : ByteArray) (i : Int) (h0 : 0 ≤ i) (h1 : i < s.size) (ha : a.fClasses.length ≤ 32) (hp : a.fPairs.length ≤ 32) : (itemA a s i).1.fClasses.length ≤ 32 ∧ (itemA a s i).1.fPairs.length ≤ 32 ∧ 0 ≤ (itemA a s i).2.1 ∧ (itemA a s i).2.1 ≤ s.size + 1 := by
 have hc := cond_or (aPQ s i) (i + 1) i
 have hw := wordI_bd s (cond (aPQ s i) (i + 1) i) (by omega)
 show itmQ s (itemA a s i)
 have er : ∀ e : Int, itmQ s (a, 0, e) := fun e => ⟨ha, hp, Int.le_refl 0, (show (0 : Int) ≤ s.size + 1 by omega)⟩
 unfold itemA
 refine condP (itmQ s) (fun _ => er _) (fun _ => condP (itmQ s) (fun _ => condP (itmQ s) (fun _ => er _) (fun _ => ⟨ha, hp, by simp only; omega, by simp only; omega⟩)) (fun _ => condP (itmQ s) (fun _ => ?_) (fun _ => condP (itmQ s) (fun _ => er _) (fun k => condP (itmQ s) (fun _ => er _) (fun _ => condP (itmQ s) (fun _ => er _) (fun _ => condP (itmQ s) (fun _ => er _) (fun k2 => ?_)))))))
 ·have hcl := clsA_bd a (s.extract (cond (aPQ s i) (i + 1) i).toNat (wordI s (cond (aPQ s i) (i + 1) i)).toNat) ha
  exact ⟨hcl.1, by rw [hcl.2]; exact hp, by simp only; omega, by simp only; omega⟩
 ·have hv := vluR_bd s (wordI s (cond (aPQ s i) (i + 1) i) + 1) (by omega) (by have := of_decide_eq_false (cond_tt k).1; omega)
  have k3 := of_decide_eq_false k2
  exact ⟨ha, by simp; omega, hv.1, hv.2.1⟩
def parR_L1 (s : ByteArray) (i : Int) (v8 : Int) (v9 : Nat) (vb7_0 : ByteArray) (vb7_1 : List ByteArray) (vb7_2 : List DPair) (k0 : Int → Nat → ByteArray → (List ByteArray) → (List DPair) → (DAttr × Int × Int)) : Nat → Int → (DAttr × Int × Int)
 | 0, _ => default
 | n1 + 1, w10 => cond (cond (decide ((w10 : Int) < ((ByteArray.size s : Nat) : Int))) (((byt s (Int.toNat w10) : Nat) : Int) == 32) false) (parR_L1 s i v8 v9 vb7_0 vb7_1 vb7_2 k0 n1 (w10 + 1)) (cond (cond (decide ((w10 : Int) < ((ByteArray.size s : Nat) : Int))) (((byt s (Int.toNat w10) : Nat) : Int) == 125) false) (DAttr.mk vb7_0 vb7_1 vb7_2, w10 + 1, 0) (cond (cond (decide ((w10 : Int) ≥ ((ByteArray.size s : Nat) : Int))) true (cond (decide (((v9 : Nat) : Int) > 0)) ((w10 : Int) == v8) false)) (DAttr.mk (⟨#[]⟩) ([]) ([]), 0, 5) (cond (((itemA (DAttr.mk vb7_0 vb7_1 vb7_2) s w10).2.2 : Int) != 0) (DAttr.mk (⟨#[]⟩) ([]) ([]), 0, (itemA (DAttr.mk vb7_0 vb7_1 vb7_2) s w10).2.2) (k0 ((itemA (DAttr.mk vb7_0 vb7_1 vb7_2) s w10).2.1) (v9 + 1) (((itemA (DAttr.mk vb7_0 vb7_1 vb7_2) s w10).1).fID) (((itemA (DAttr.mk vb7_0 vb7_1 vb7_2) s w10).1).fClasses) (((itemA (DAttr.mk vb7_0 vb7_1 vb7_2) s w10).1).fPairs)))))
def parR_L0 (s : ByteArray) (i : Int) : Nat → Int → Nat → ByteArray → (List ByteArray) → (List DPair) → (DAttr × Int × Int)
 | 0, _, _, _, _, _ => default
 | n0 + 1, v8, v9, vb7_0, vb7_1, vb7_2 => cond (decide (((v9 : Nat) : Int) ≤ ((ByteArray.size s : Nat) : Int))) (parR_L1 s i v8 v9 vb7_0 vb7_1 vb7_2 (parR_L0 s i n0) ((s.size - Int.toNat v8) + 1) v8) (DAttr.mk (⟨#[]⟩) ([]) ([]), 0, 5)
def parR (s : ByteArray) (i : Int) : (DAttr × Int × Int) := cond (cond (cond (decide ((i : Int) < 0)) true (decide ((i : Int) ≥ ((ByteArray.size s : Nat) : Int)))) true (((byt s (Int.toNat i) : Nat) : Int) != 123)) (DAttr.mk (⟨#[]⟩) ([]) ([]), 0, 5) (parR_L0 s i ((s.size + 1 - 0) + 1) (i + 1) 0 (⟨#[]⟩) ([]) ([]))
theorem parR_to (s : ByteArray) (i : Int) (hs : s.size ≤ 1073741824) : CallTo Tryz.prog 115 [(jS s), (jI i)] [] [] (.av (.tup [(cAttr ((parR s i).1)), (vI ((parR s i).2.1)), (vI ((parR s i).2.2))])) [] [] := by
 refine CallTo_of_body (n := 92) Tryz.func115 rfl (by kernel_rfl) Tryz.ntmps115 (by simp) (by simp) (by simp) (by simp [OkSV, SV.keys, ABox.svs, PV.keys]) (by simp) (by simp [OkSV, SV.keys, ABox.svs, PV.keys]) (by simp) rfl rfl ?_
 refine W_eq (sx 92 [(0, (jS s)), (1, (jI i))] [] []) (by kernel_rfl) ?_
 refine W_seq ?_
 refine W_runX [] .normal 92 [(0, (jS s)), (1, (jI i)), (4, (.ptr 4 0))] [(4, (.cells 38 [(jS (⟨#[]⟩)), .nil, .nil]))] [] (akn 3 an) (by kernel_rfl) ?_
 show W _ _ _ _
 refine W_seq ?_
 refine W_seq ?_
 refine W_regionO ?_
 refine WO_split 8 (S' := (sx 92 [(0, (jS s)), (1, (jI i)), (4, (.ptr 4 0)), (21, (jB (cond (decide ((i : Int) < 0)) true (decide ((i : Int) ≥ ((ByteArray.size s : Nat) : Int))))))] [(4, (.cells 38 [(jS (⟨#[]⟩)), .nil, .nil]))] [])) ?_ ?_
 ·rcases Bool.eq_false_or_eq_true (decide ((i : Int) < 0)) with hb1 | hb1
  ·have hb1p := of_decide_eq_true hb1
   refine WO_runX (rp 5 oT []) 92 [(0, (jS s)), (1, (jI i)), (4, (.ptr 4 0)), (21, (jB true))] [(4, (.cells 38 [(jS (⟨#[]⟩)), .nil, .nil]))] [] (akn 3 (acn 5 hb1 an)) (by kernel_rfl) ?_
   exact (weak_sx (show WkX _ _ _ from ⟨rfl, rfl, rfl, (show ((jB true) : SV) = (jB (cond (decide ((i : Int) < 0)) true (decide ((i : Int) ≥ ((ByteArray.size s : Nat) : Int))))) from by rw [hb1, cond_true]), trivial⟩) (show WkBx _ _ from ⟨⟨rfl, ⟨rfl, rfl, rfl, trivial⟩⟩, trivial⟩) (show WkG _ _ _ from trivial))
  ·have hb1p := of_decide_eq_false hb1
   refine WO_runX (rp 5 oF []) 92 [(0, (jS s)), (1, (jI i)), (4, (.ptr 4 0)), (21, (jB (decide ((i : Int) ≥ ((ByteArray.size s : Nat) : Int)))))] [(4, (.cells 38 [(jS (⟨#[]⟩)), .nil, .nil]))] [] (akn 3 (apn 4 hb1 (ac hb1 an))) (by kernel_rfl) ?_
   exact (weak_sx (show WkX _ _ _ from ⟨rfl, rfl, rfl, (show ((jB (decide ((i : Int) ≥ ((ByteArray.size s : Nat) : Int)))) : SV) = (jB (cond (decide ((i : Int) < 0)) true (decide ((i : Int) ≥ ((ByteArray.size s : Nat) : Int))))) from by rw [hb1, cond_false]), trivial⟩) (show WkBx _ _ from ⟨⟨rfl, ⟨rfl, rfl, rfl, trivial⟩⟩, trivial⟩) (show WkG _ _ _ from trivial))
 refine WO_split 6 (S' := (sx 92 [(0, (jS s)), (1, (jI i)), (4, (.ptr 4 0)), (27, (jB (cond (cond (decide ((i : Int) < 0)) true (decide ((i : Int) ≥ ((ByteArray.size s : Nat) : Int)))) true (((byt s (Int.toNat i) : Nat) : Int) != 123))))] [(4, (.cells 38 [(jS (⟨#[]⟩)), .nil, .nil]))] [])) ?_ ?_
 ·rcases Bool.eq_false_or_eq_true (cond (decide ((i : Int) < 0)) true (decide ((i : Int) ≥ ((ByteArray.size s : Nat) : Int)))) with hb2 | hb2
  ·refine WO_runX (rp 5 oT []) 92 [(0, (jS s)), (1, (jI i)), (4, (.ptr 4 0)), (27, (jB true))] [(4, (.cells 38 [(jS (⟨#[]⟩)), .nil, .nil]))] [] (ak (acn 5 hb2 an)) (by kernel_rfl) ?_
   exact (weak_sx (show WkX _ _ _ from ⟨rfl, rfl, rfl, (show ((jB true) : SV) = (jB (cond (cond (decide ((i : Int) < 0)) true (decide ((i : Int) ≥ ((ByteArray.size s : Nat) : Int)))) true (((byt s (Int.toNat i) : Nat) : Int) != 123))) from by rw [hb2, cond_true]), trivial⟩) (show WkBx _ _ from ⟨⟨rfl, ⟨rfl, rfl, rfl, trivial⟩⟩, trivial⟩) (show WkG _ _ _ from trivial))
  ·obtain ⟨hb2a, hb2o⟩ := cond_tt hb2
   have hb2ap := of_decide_eq_false hb2a
   have hb2op := of_decide_eq_false hb2o
   refine WO_runX (rp 5 oF []) 92 [(0, (jS s)), (1, (jI i)), (4, (.ptr 4 0)), (27, (jB (((byt s (Int.toNat i) : Nat) : Int) != 123)))] [(4, (.cells 38 [(jS (⟨#[]⟩)), .nil, .nil]))] [] (ak (apn 2 hb2 (ac hb2 (ac (show 0 ≤ (i : Int) ∧ (i : Int) < ((ByteArray.size s : Nat) : Int) from (by omega)) (ac hb2 (ak (ac hb2 an))))))) (by kernel_rfl) ?_
   exact (weak_sx (show WkX _ _ _ from ⟨rfl, rfl, rfl, (show ((jB (((byt s (Int.toNat i) : Nat) : Int) != 123)) : SV) = (jB (cond (cond (decide ((i : Int) < 0)) true (decide ((i : Int) ≥ ((ByteArray.size s : Nat) : Int)))) true (((byt s (Int.toNat i) : Nat) : Int) != 123))) from by rw [hb2, cond_false]), trivial⟩) (show WkBx _ _ from ⟨⟨rfl, ⟨rfl, rfl, rfl, trivial⟩⟩, trivial⟩) (show WkG _ _ _ from trivial))
 refine WO_nil (by kernel_rfl) ?_
 show W _ _ _ _
 rcases Bool.eq_false_or_eq_true (cond (cond (decide ((i : Int) < 0)) true (decide ((i : Int) ≥ ((ByteArray.size s : Nat) : Int)))) true (((byt s (Int.toNat i) : Nat) : Int) != 123)) with hb3 | hb3
 ·refine W_condT (b := cond (cond (decide ((i : Int) < 0)) true (decide ((i : Int) ≥ ((ByteArray.size s : Nat) : Int)))) true (((byt s (Int.toNat i) : Nat) : Int) != 123)) (by kernel_rfl) hb3 ?_
  refine W_runX [] .ret 92 [(4, (.ptr 4 0)), (5, (jI 0)), (6, (jI 5))] [(4, (.cells 38 [(jS (⟨#[]⟩)), .nil, .nil]))] [] (akn 4 an) (by kernel_rfl) ?_
  refine skipS ?_ (by simp)
  exact ends (r := (.av (.tup [(.agg [(vS (⟨#[]⟩)), (.sl []), (.sl [])]), (vI 0), (vI 5)]))) (by simp) (by kernel_rfl) (by rw [show parR s i = (DAttr.mk (⟨#[]⟩) ([]) ([]), 0, 5) from by rw [parR]; exact (cT hb3)]; first | done | first | rfl | (simp [strAV, vU, aPair_eq, aAttr_eq, aCited_eq, aInline_eq, aBlock_eq, aDoc_eq, aPoint_eq, aRange_eq, cPair, cAttr, cCited, cInline, cBlock, cDoc, cPoint, cRange]; done)) (by simp) (by simp)
 ·refine W_condF (b := cond (cond (decide ((i : Int) < 0)) true (decide ((i : Int) ≥ ((ByteArray.size s : Nat) : Int)))) true (((byt s (Int.toNat i) : Nat) : Int) != 123)) (by kernel_rfl) hb3 ?_
  obtain ⟨hb3a, hb3o⟩ := cond_tt hb3
  obtain ⟨hb3aa, hb3ao⟩ := cond_tt hb3a
  have hb3aap := of_decide_eq_false hb3aa
  have hb3aop := of_decide_eq_false hb3ao
  have hb3op := eq_of_bne_false hb3o
  refine W_runX [] .normal 92 [(0, (jS s)), (1, (jI i)), (4, (.ptr 4 0))] [(4, (.cells 38 [(jS (⟨#[]⟩)), .nil, .nil]))] [] an (by kernel_rfl) ?_
  show W _ _ _ _
  refine W_seq ?_
  refine W_runX [] .normal 92 [(0, (jS s)), (1, (jI i)), (4, (.ptr 4 0)), (7, (.ptr 7 0))] [(7, (.cells 38 [(jS (⟨#[]⟩)), .nil, .nil])), (4, (.cells 38 [(jS (⟨#[]⟩)), .nil, .nil]))] [] (ak an) (by kernel_rfl) ?_
  show W _ _ _ _
  refine W_seq ?_
  refine W_runX [.n (i + 1)] .normal 92 [(0, (jS s)), (4, (.ptr 4 0)), (7, (.ptr 7 0)), (8, (jI (i + 1)))] [(7, (.cells 38 [(jS (⟨#[]⟩)), .nil, .nil])), (4, (.cells 38 [(jS (⟨#[]⟩)), .nil, .nil]))] [] (ak (ac (wrE (i + 1) (i + 1) (by omega)) (ak an))) (by kernel_rfl) ?_
  show W _ _ _ _
  refine W_seq ?_
  refine W_seq ?_
  refine W_runX [] .normal 92 [(0, (jS s)), (4, (.ptr 4 0)), (7, (.ptr 7 0)), (8, (jI (i + 1))), (9, (jI 0))] [(7, (.cells 38 [(jS (⟨#[]⟩)), .nil, .nil])), (4, (.cells 38 [(jS (⟨#[]⟩)), .nil, .nil]))] [] (ak an) (by kernel_rfl) ?_
  show W _ _ _ _
  refine W_block ?_
  refine W_loop (I := fun N S => ∃ n0 : Nat, ∃ v8 : Int, ∃ v9 : Nat, ∃ vb7_0 : ByteArray, ∃ gvb7_1 : Nat, ∃ vb7_1 : List ByteArray, ∃ gvb7_2 : Nat, ∃ vb7_2 : List DPair, (s.size + 1 - v9 < n0) ∧ (0 ≤ v8) ∧ (v8 ≤ s.size + 2) ∧ (vb7_1.length ≤ 32) ∧ (vb7_2.length ≤ 32) ∧ (parR_L0 s i n0 v8 v9 vb7_0 vb7_1 vb7_2 = parR s i) ∧ N = n0 ∧ S = (sx 92 [(0, (jS s)), (4, (.ptr 4 0)), (7, (.ptr 7 0)), (8, (jI v8)), (9, (jI ((v9 : Nat) : Int)))] [(7, (.cells 38 [(jS vb7_0), (.own (1001, 10) gvb7_1 1 (vb7_1.map strAV)), (.own (1002, 44) gvb7_2 2 (vb7_2.map aPair))])), (4, (.cells 38 [(jS (⟨#[]⟩)), .nil, .nil]))] [((1001, 10), gvb7_1), ((1002, 44), gvb7_2)])) (n := (s.size + 1 - 0) + 1) (S0 := (sx 92 [(0, (jS s)), (4, (.ptr 4 0)), (7, (.ptr 7 0)), (8, (jI (i + 1))), (9, (jI ((0 : Nat) : Int)))] [(7, (.cells 38 [(jS (⟨#[]⟩)), (.own (1001, 10) 0 1 (([]).map strAV)), (.own (1002, 44) 0 2 (([]).map aPair))])), (4, (.cells 38 [(jS (⟨#[]⟩)), .nil, .nil]))] [((1001, 10), 0), ((1002, 44), 0)])) (weak_sx (show WkX _ _ _ from ⟨rfl, rfl, rfl, (by rfl), (by rfl), trivial⟩) (show WkBx _ _ from ⟨⟨rfl, ⟨(by rfl), ⟨rfl, by decide, rfl⟩, ⟨rfl, by decide, rfl⟩, trivial⟩⟩, ⟨rfl, ⟨rfl, rfl, rfl, trivial⟩⟩, trivial⟩) (show WkG _ _ _ from ⟨(by rfl), (by rfl), trivial⟩)) ⟨(s.size + 1 - 0) + 1, i + 1, 0, ⟨#[]⟩, 0, [], 0, [], Nat.lt_succ_self _, by first | omega | assumption | (simp only [lenM_eq]; omega) | (simp; done) | (simp; omega), by first | omega | assumption | (simp only [lenM_eq]; omega) | (simp; done) | (simp; omega), by first | omega | assumption | (simp only [lenM_eq]; omega) | (simp; done) | (simp; omega), by first | omega | assumption | (simp only [lenM_eq]; omega) | (simp; done) | (simp; omega), by rw [parR]; exact (cF hb3).symm, rfl, rfl⟩ ?_
  rintro N S ⟨n0, v8, v9, vb7_0, gvb7_1, vb7_1, gvb7_2, vb7_2, hF0, hv, hv2, hl1, hl2, hE0, hN0, rfl⟩
  obtain ⟨n0, rfl⟩ : ∃ k, n0 = k + 1 := ⟨n0 - 1, by omega⟩
  refine W_seq ?_
  refine W_seq ?_
  refine W_runX [] .normal 92 [(0, (jS s)), (4, (.ptr 4 0)), (7, (.ptr 7 0)), (8, (jI v8)), (9, (jI ((v9 : Nat) : Int))), (34, (jB (decide (((v9 : Nat) : Int) ≤ ((ByteArray.size s : Nat) : Int)))))] [(7, (.cells 38 [(jS vb7_0), (.own (1001, 10) gvb7_1 1 (vb7_1.map strAV)), (.own (1002, 44) gvb7_2 2 (vb7_2.map aPair))])), (4, (.cells 38 [(jS (⟨#[]⟩)), .nil, .nil]))] [((1001, 10), gvb7_1), ((1002, 44), gvb7_2)] (akn 4 an) (by kernel_rfl) ?_
  show W _ _ _ _
  rcases Bool.eq_false_or_eq_true (decide (((v9 : Nat) : Int) ≤ ((ByteArray.size s : Nat) : Int))) with hb4 | hb4
  ·refine W_condT (b := decide (((v9 : Nat) : Int) ≤ ((ByteArray.size s : Nat) : Int))) (by kernel_rfl) hb4 ?_
   have hb4p := of_decide_eq_true hb4
   refine W_runX [] .normal 92 [(0, (jS s)), (4, (.ptr 4 0)), (7, (.ptr 7 0)), (8, (jI v8)), (9, (jI ((v9 : Nat) : Int)))] [(7, (.cells 38 [(jS vb7_0), (.own (1001, 10) gvb7_1 1 (vb7_1.map strAV)), (.own (1002, 44) gvb7_2 2 (vb7_2.map aPair))])), (4, (.cells 38 [(jS (⟨#[]⟩)), .nil, .nil]))] [((1001, 10), gvb7_1), ((1002, 44), gvb7_2)] an (by kernel_rfl) ?_
   show W _ _ _ _
   refine W_seq ?_
   refine W_block ?_
   refine W_seq ?_
   refine W_runX [] .normal 92 [(0, (jS s)), (4, (.ptr 4 0)), (7, (.ptr 7 0)), (8, (jI v8)), (9, (jI ((v9 : Nat) : Int))), (10, (jI v8))] [(7, (.cells 38 [(jS vb7_0), (.own (1001, 10) gvb7_1 1 (vb7_1.map strAV)), (.own (1002, 44) gvb7_2 2 (vb7_2.map aPair))])), (4, (.cells 38 [(jS (⟨#[]⟩)), .nil, .nil]))] [((1001, 10), gvb7_1), ((1002, 44), gvb7_2)] (akn 2 an) (by kernel_rfl) ?_
   show W _ _ _ _
   refine W_seq ?_
   refine W_block ?_
   refine W_loop (I := fun N S => ∃ n1 : Nat, ∃ w10 : Int, (s.size - Int.toNat w10 < n1) ∧ (0 ≤ w10) ∧ (w10 ≤ s.size + 2) ∧ (parR_L1 s i v8 v9 vb7_0 vb7_1 vb7_2 (parR_L0 s i n0) n1 w10 = parR s i) ∧ N = n1 ∧ S = (sx 92 [(0, (jS s)), (4, (.ptr 4 0)), (7, (.ptr 7 0)), (8, (jI v8)), (9, (jI ((v9 : Nat) : Int))), (10, (jI w10))] [(7, (.cells 38 [(jS vb7_0), (.own (1001, 10) gvb7_1 1 (vb7_1.map strAV)), (.own (1002, 44) gvb7_2 2 (vb7_2.map aPair))])), (4, (.cells 38 [(jS (⟨#[]⟩)), .nil, .nil]))] [((1001, 10), gvb7_1), ((1002, 44), gvb7_2)])) (n := (s.size - Int.toNat v8) + 1) (S0 := (sx 92 [(0, (jS s)), (4, (.ptr 4 0)), (7, (.ptr 7 0)), (8, (jI v8)), (9, (jI ((v9 : Nat) : Int))), (10, (jI v8))] [(7, (.cells 38 [(jS vb7_0), (.own (1001, 10) gvb7_1 1 (vb7_1.map strAV)), (.own (1002, 44) gvb7_2 2 (vb7_2.map aPair))])), (4, (.cells 38 [(jS (⟨#[]⟩)), .nil, .nil]))] [((1001, 10), gvb7_1), ((1002, 44), gvb7_2)])) (weak_sx (show WkX _ _ _ from ⟨rfl, rfl, rfl, rfl, rfl, (by rfl), trivial⟩) (show WkBx _ _ from ⟨⟨rfl, ⟨rfl, ⟨rfl, rfl, rfl, rfl⟩, ⟨rfl, rfl, rfl, rfl⟩, trivial⟩⟩, ⟨rfl, ⟨rfl, rfl, rfl, trivial⟩⟩, trivial⟩) (show WkG _ _ _ from ⟨rfl, rfl, rfl, rfl, trivial⟩)) ⟨(s.size - Int.toNat v8) + 1, v8, Nat.lt_succ_self _, by first | omega | assumption | (simp only [lenM_eq]; omega) | (simp; done) | (simp; omega), by first | omega | assumption | (simp only [lenM_eq]; omega) | (simp; done) | (simp; omega), by rw [← hE0]; rw [parR_L0]; exact (cT hb4).symm, rfl, rfl⟩ ?_
   rintro N S ⟨n1, w10, hF1, hw, hw2, hE1, hN1, rfl⟩
   obtain ⟨n1, rfl⟩ : ∃ k, n1 = k + 1 := ⟨n1 - 1, by omega⟩
   refine W_seq ?_
   refine W_mid (S' := (sx 92 [(0, (jS s)), (4, (.ptr 4 0)), (7, (.ptr 7 0)), (8, (jI v8)), (9, (jI ((v9 : Nat) : Int))), (10, (jI w10)), (47, (jB (cond (decide ((w10 : Int) < ((ByteArray.size s : Nat) : Int))) (((byt s (Int.toNat w10) : Nat) : Int) == 32) false)))] [(7, (.cells 38 [(jS vb7_0), (.own (1001, 10) gvb7_1 1 (vb7_1.map strAV)), (.own (1002, 44) gvb7_2 2 (vb7_2.map aPair))])), (4, (.cells 38 [(jS (⟨#[]⟩)), .nil, .nil]))] [((1001, 10), gvb7_1), ((1002, 44), gvb7_2)])) ?_ ?_
   ·rcases Bool.eq_false_or_eq_true (decide ((w10 : Int) < ((ByteArray.size s : Nat) : Int))) with hb5 | hb5
    ·have hb5p := of_decide_eq_true hb5
     refine W_runX (rp 5 oT []) .normal 92 [(0, (jS s)), (4, (.ptr 4 0)), (7, (.ptr 7 0)), (8, (jI v8)), (9, (jI ((v9 : Nat) : Int))), (10, (jI w10)), (47, (jB (((byt s (Int.toNat w10) : Nat) : Int) == 32)))] [(7, (.cells 38 [(jS vb7_0), (.own (1001, 10) gvb7_1 1 (vb7_1.map strAV)), (.own (1002, 44) gvb7_2 2 (vb7_2.map aPair))])), (4, (.cells 38 [(jS (⟨#[]⟩)), .nil, .nil]))] [((1001, 10), gvb7_1), ((1002, 44), gvb7_2)] (akn 5 (apn 2 hb5 (ac hb5 (ac (show 0 ≤ (w10 : Int) ∧ (w10 : Int) < ((ByteArray.size s : Nat) : Int) from (by omega)) (ac hb5 (ak (ac hb5 an))))))) (by kernel_rfl) ?_
     exact ⟨rfl, (weak_sx (show WkX _ _ _ from ⟨rfl, rfl, rfl, rfl, rfl, rfl, (show ((jB (((byt s (Int.toNat w10) : Nat) : Int) == 32)) : SV) = (jB (cond (decide ((w10 : Int) < ((ByteArray.size s : Nat) : Int))) (((byt s (Int.toNat w10) : Nat) : Int) == 32) false)) from by rw [hb5, cond_true]), trivial⟩) (show WkBx _ _ from ⟨⟨rfl, ⟨rfl, ⟨rfl, rfl, rfl, rfl⟩, ⟨rfl, rfl, rfl, rfl⟩, trivial⟩⟩, ⟨rfl, ⟨rfl, rfl, rfl, trivial⟩⟩, trivial⟩) (show WkG _ _ _ from ⟨rfl, rfl, rfl, rfl, trivial⟩))⟩
    ·have hb5p := of_decide_eq_false hb5
     refine W_runX (rp 5 oF []) .normal 92 [(0, (jS s)), (4, (.ptr 4 0)), (7, (.ptr 7 0)), (8, (jI v8)), (9, (jI ((v9 : Nat) : Int))), (10, (jI w10)), (47, (jB false))] [(7, (.cells 38 [(jS vb7_0), (.own (1001, 10) gvb7_1 1 (vb7_1.map strAV)), (.own (1002, 44) gvb7_2 2 (vb7_2.map aPair))])), (4, (.cells 38 [(jS (⟨#[]⟩)), .nil, .nil]))] [((1001, 10), gvb7_1), ((1002, 44), gvb7_2)] (akn 5 (acn 5 hb5 an)) (by kernel_rfl) ?_
     exact ⟨rfl, (weak_sx (show WkX _ _ _ from ⟨rfl, rfl, rfl, rfl, rfl, rfl, (show ((jB false) : SV) = (jB (cond (decide ((w10 : Int) < ((ByteArray.size s : Nat) : Int))) (((byt s (Int.toNat w10) : Nat) : Int) == 32) false)) from by rw [hb5, cond_false]), trivial⟩) (show WkBx _ _ from ⟨⟨rfl, ⟨rfl, ⟨rfl, rfl, rfl, rfl⟩, ⟨rfl, rfl, rfl, rfl⟩, trivial⟩⟩, ⟨rfl, ⟨rfl, rfl, rfl, trivial⟩⟩, trivial⟩) (show WkG _ _ _ from ⟨rfl, rfl, rfl, rfl, trivial⟩))⟩
   rcases Bool.eq_false_or_eq_true (cond (decide ((w10 : Int) < ((ByteArray.size s : Nat) : Int))) (((byt s (Int.toNat w10) : Nat) : Int) == 32) false) with hb6 | hb6
   ·refine W_condT (b := cond (decide ((w10 : Int) < ((ByteArray.size s : Nat) : Int))) (((byt s (Int.toNat w10) : Nat) : Int) == 32) false) (by kernel_rfl) hb6 ?_
    obtain ⟨hb6a, hb6o⟩ := cond_ff hb6
    have hb6ap := of_decide_eq_true hb6a
    have hb6op := eq_of_beq hb6o
    refine W_runX [] .normal 92 [(0, (jS s)), (4, (.ptr 4 0)), (7, (.ptr 7 0)), (8, (jI v8)), (9, (jI ((v9 : Nat) : Int))), (10, (jI w10))] [(7, (.cells 38 [(jS vb7_0), (.own (1001, 10) gvb7_1 1 (vb7_1.map strAV)), (.own (1002, 44) gvb7_2 2 (vb7_2.map aPair))])), (4, (.cells 38 [(jS (⟨#[]⟩)), .nil, .nil]))] [((1001, 10), gvb7_1), ((1002, 44), gvb7_2)] an (by kernel_rfl) ?_
    show W _ _ _ _
    refine W_runX [.n (w10 + 1)] .normal 92 [(0, (jS s)), (4, (.ptr 4 0)), (7, (.ptr 7 0)), (8, (jI v8)), (9, (jI ((v9 : Nat) : Int))), (10, (jI (w10 + 1)))] [(7, (.cells 38 [(jS vb7_0), (.own (1001, 10) gvb7_1 1 (vb7_1.map strAV)), (.own (1002, 44) gvb7_2 2 (vb7_2.map aPair))])), (4, (.cells 38 [(jS (⟨#[]⟩)), .nil, .nil]))] [((1001, 10), gvb7_1), ((1002, 44), gvb7_2)] (ak (ac (wrE (w10 + 1) (w10 + 1) (by omega)) (ak an))) (by kernel_rfl) ?_
    exact ⟨n1, (sx 92 [(0, (jS s)), (4, (.ptr 4 0)), (7, (.ptr 7 0)), (8, (jI v8)), (9, (jI ((v9 : Nat) : Int))), (10, (jI (w10 + 1)))] [(7, (.cells 38 [(jS vb7_0), (.own (1001, 10) gvb7_1 1 (vb7_1.map strAV)), (.own (1002, 44) gvb7_2 2 (vb7_2.map aPair))])), (4, (.cells 38 [(jS (⟨#[]⟩)), .nil, .nil]))] [((1001, 10), gvb7_1), ((1002, 44), gvb7_2)]), by omega, (weak_sx (show WkX _ _ _ from ⟨rfl, rfl, rfl, rfl, rfl, (by rfl), trivial⟩) (show WkBx _ _ from ⟨⟨rfl, ⟨rfl, ⟨rfl, rfl, rfl, rfl⟩, ⟨rfl, rfl, rfl, rfl⟩, trivial⟩⟩, ⟨rfl, ⟨rfl, rfl, rfl, trivial⟩⟩, trivial⟩) (show WkG _ _ _ from ⟨rfl, rfl, rfl, rfl, trivial⟩)), ⟨n1, w10 + 1, by first | omega | assumption | (simp only [lenM_eq]; omega) | (simp; done) | (simp; omega), by first | omega | assumption | (simp only [lenM_eq]; omega) | (simp; done) | (simp; omega), by first | omega | assumption | (simp only [lenM_eq]; omega) | (simp; done) | (simp; omega), by rw [← hE1]; rw [parR_L1]; exact (cT hb6).symm, rfl, rfl⟩⟩
   ·refine W_condF (b := cond (decide ((w10 : Int) < ((ByteArray.size s : Nat) : Int))) (((byt s (Int.toNat w10) : Nat) : Int) == 32) false) (by kernel_rfl) hb6 ?_
    refine W_runX [] (.exit 2) 92 [(0, (jS s)), (4, (.ptr 4 0)), (7, (.ptr 7 0)), (8, (jI v8)), (9, (jI ((v9 : Nat) : Int))), (10, (jI w10))] [(7, (.cells 38 [(jS vb7_0), (.own (1001, 10) gvb7_1 1 (vb7_1.map strAV)), (.own (1002, 44) gvb7_2 2 (vb7_2.map aPair))])), (4, (.cells 38 [(jS (⟨#[]⟩)), .nil, .nil]))] [((1001, 10), gvb7_1), ((1002, 44), gvb7_2)] an (by kernel_rfl) ?_
    refine skipS ?_ (by simp)
    refine skipS ?_ (by simp)
    refine hit ?_
    show W _ _ _ _
    refine W_seq ?_
    refine W_mid (S' := (sx 92 [(0, (jS s)), (4, (.ptr 4 0)), (7, (.ptr 7 0)), (8, (jI v8)), (9, (jI ((v9 : Nat) : Int))), (10, (jI w10)), (59, (jB (cond (decide ((w10 : Int) < ((ByteArray.size s : Nat) : Int))) (((byt s (Int.toNat w10) : Nat) : Int) == 125) false)))] [(7, (.cells 38 [(jS vb7_0), (.own (1001, 10) gvb7_1 1 (vb7_1.map strAV)), (.own (1002, 44) gvb7_2 2 (vb7_2.map aPair))])), (4, (.cells 38 [(jS (⟨#[]⟩)), .nil, .nil]))] [((1001, 10), gvb7_1), ((1002, 44), gvb7_2)])) ?_ ?_
    ·rcases Bool.eq_false_or_eq_true (decide ((w10 : Int) < ((ByteArray.size s : Nat) : Int))) with hb7 | hb7
     ·have hb7p := of_decide_eq_true hb7
      refine W_runX (rp 5 oT []) .normal 92 [(0, (jS s)), (4, (.ptr 4 0)), (7, (.ptr 7 0)), (8, (jI v8)), (9, (jI ((v9 : Nat) : Int))), (10, (jI w10)), (59, (jB (((byt s (Int.toNat w10) : Nat) : Int) == 125)))] [(7, (.cells 38 [(jS vb7_0), (.own (1001, 10) gvb7_1 1 (vb7_1.map strAV)), (.own (1002, 44) gvb7_2 2 (vb7_2.map aPair))])), (4, (.cells 38 [(jS (⟨#[]⟩)), .nil, .nil]))] [((1001, 10), gvb7_1), ((1002, 44), gvb7_2)] (akn 5 (apn 2 hb7 (ac hb7 (ac (show 0 ≤ (w10 : Int) ∧ (w10 : Int) < ((ByteArray.size s : Nat) : Int) from (by omega)) (ac hb7 (ak (ac hb7 an))))))) (by kernel_rfl) ?_
      exact ⟨rfl, (weak_sx (show WkX _ _ _ from ⟨rfl, rfl, rfl, rfl, rfl, rfl, (show ((jB (((byt s (Int.toNat w10) : Nat) : Int) == 125)) : SV) = (jB (cond (decide ((w10 : Int) < ((ByteArray.size s : Nat) : Int))) (((byt s (Int.toNat w10) : Nat) : Int) == 125) false)) from by rw [hb7, cond_true]), trivial⟩) (show WkBx _ _ from ⟨⟨rfl, ⟨rfl, ⟨rfl, rfl, rfl, rfl⟩, ⟨rfl, rfl, rfl, rfl⟩, trivial⟩⟩, ⟨rfl, ⟨rfl, rfl, rfl, trivial⟩⟩, trivial⟩) (show WkG _ _ _ from ⟨rfl, rfl, rfl, rfl, trivial⟩))⟩
     ·have hb7p := of_decide_eq_false hb7
      refine W_runX (rp 5 oF []) .normal 92 [(0, (jS s)), (4, (.ptr 4 0)), (7, (.ptr 7 0)), (8, (jI v8)), (9, (jI ((v9 : Nat) : Int))), (10, (jI w10)), (59, (jB false))] [(7, (.cells 38 [(jS vb7_0), (.own (1001, 10) gvb7_1 1 (vb7_1.map strAV)), (.own (1002, 44) gvb7_2 2 (vb7_2.map aPair))])), (4, (.cells 38 [(jS (⟨#[]⟩)), .nil, .nil]))] [((1001, 10), gvb7_1), ((1002, 44), gvb7_2)] (akn 5 (acn 5 hb7 an)) (by kernel_rfl) ?_
      exact ⟨rfl, (weak_sx (show WkX _ _ _ from ⟨rfl, rfl, rfl, rfl, rfl, rfl, (show ((jB false) : SV) = (jB (cond (decide ((w10 : Int) < ((ByteArray.size s : Nat) : Int))) (((byt s (Int.toNat w10) : Nat) : Int) == 125) false)) from by rw [hb7, cond_false]), trivial⟩) (show WkBx _ _ from ⟨⟨rfl, ⟨rfl, ⟨rfl, rfl, rfl, rfl⟩, ⟨rfl, rfl, rfl, rfl⟩, trivial⟩⟩, ⟨rfl, ⟨rfl, rfl, rfl, trivial⟩⟩, trivial⟩) (show WkG _ _ _ from ⟨rfl, rfl, rfl, rfl, trivial⟩))⟩
    rcases Bool.eq_false_or_eq_true (cond (decide ((w10 : Int) < ((ByteArray.size s : Nat) : Int))) (((byt s (Int.toNat w10) : Nat) : Int) == 125) false) with hb8 | hb8
    ·refine W_condT (b := cond (decide ((w10 : Int) < ((ByteArray.size s : Nat) : Int))) (((byt s (Int.toNat w10) : Nat) : Int) == 125) false) (by kernel_rfl) hb8 ?_
     obtain ⟨hb8a, hb8o⟩ := cond_ff hb8
     have hb8ap := of_decide_eq_true hb8a
     have hb8op := eq_of_beq hb8o
     refine W_runX [.n (w10 + 1)] .ret 92 [(4, (.ptr 4 0)), (5, (jI (w10 + 1))), (6, (jI 0))] [(4, (.cells 38 [(jS vb7_0), (.own (1001, 10) gvb7_1 1 (vb7_1.map strAV)), (.own (1002, 44) gvb7_2 2 (vb7_2.map aPair))]))] [((1001, 10), gvb7_1), ((1002, 44), gvb7_2)] (akn 2 (ac (wrE (w10 + 1) (w10 + 1) (by omega)) (akn 3 an))) (by kernel_rfl) ?_
     refine skipS ?_ (by simp)
     refine pass ?_ (by simp)
     refine skipS ?_ (by simp)
     refine skipS ?_ (by simp)
     refine pass ?_ (by simp)
     refine skipS ?_ (by simp)
     exact ends (r := (.av (.tup [(.agg [(vS vb7_0), (.sl (vb7_1.map strAV)), (.sl (vb7_2.map aPair))]), (vI (w10 + 1)), (vI 0)]))) (by simp) (by kernel_rfl) (by rw [show parR s i = (DAttr.mk vb7_0 vb7_1 vb7_2, w10 + 1, 0) from by rw [← hE1]; rw [parR_L1]; exact (cF hb6).trans (cT hb8)]; first | done | first | rfl | (simp [strAV, vU, aPair_eq, aAttr_eq, aCited_eq, aInline_eq, aBlock_eq, aDoc_eq, aPoint_eq, aRange_eq, cPair, cAttr, cCited, cInline, cBlock, cDoc, cPoint, cRange]; done)) (by simp) (by simp)
    ·refine W_condF (b := cond (decide ((w10 : Int) < ((ByteArray.size s : Nat) : Int))) (((byt s (Int.toNat w10) : Nat) : Int) == 125) false) (by kernel_rfl) hb8 ?_
     refine W_runX [] .normal 92 [(0, (jS s)), (4, (.ptr 4 0)), (7, (.ptr 7 0)), (8, (jI v8)), (9, (jI ((v9 : Nat) : Int))), (10, (jI w10))] [(7, (.cells 38 [(jS vb7_0), (.own (1001, 10) gvb7_1 1 (vb7_1.map strAV)), (.own (1002, 44) gvb7_2 2 (vb7_2.map aPair))])), (4, (.cells 38 [(jS (⟨#[]⟩)), .nil, .nil]))] [((1001, 10), gvb7_1), ((1002, 44), gvb7_2)] an (by kernel_rfl) ?_
     show W _ _ _ _
     refine W_seq ?_
     refine W_mid (S' := (sx 92 [(0, (jS s)), (4, (.ptr 4 0)), (7, (.ptr 7 0)), (9, (jI ((v9 : Nat) : Int))), (10, (jI w10)), (75, (jB (cond (decide ((w10 : Int) ≥ ((ByteArray.size s : Nat) : Int))) true (cond (decide (((v9 : Nat) : Int) > 0)) ((w10 : Int) == v8) false))))] [(7, (.cells 38 [(jS vb7_0), (.own (1001, 10) gvb7_1 1 (vb7_1.map strAV)), (.own (1002, 44) gvb7_2 2 (vb7_2.map aPair))])), (4, (.cells 38 [(jS (⟨#[]⟩)), .nil, .nil]))] [((1001, 10), gvb7_1), ((1002, 44), gvb7_2)])) ?_ ?_
     ·rcases Bool.eq_false_or_eq_true (decide ((w10 : Int) ≥ ((ByteArray.size s : Nat) : Int))) with hb9 | hb9
      ·have hb9p := of_decide_eq_true hb9
       refine W_runX (rp 5 oT []) .normal 92 [(0, (jS s)), (4, (.ptr 4 0)), (7, (.ptr 7 0)), (9, (jI ((v9 : Nat) : Int))), (10, (jI w10)), (75, (jB true))] [(7, (.cells 38 [(jS vb7_0), (.own (1001, 10) gvb7_1 1 (vb7_1.map strAV)), (.own (1002, 44) gvb7_2 2 (vb7_2.map aPair))])), (4, (.cells 38 [(jS (⟨#[]⟩)), .nil, .nil]))] [((1001, 10), gvb7_1), ((1002, 44), gvb7_2)] (akn 5 (acn 5 hb9 an)) (by kernel_rfl) ?_
       exact ⟨rfl, (weak_sx (show WkX _ _ _ from ⟨rfl, rfl, rfl, rfl, rfl, (show ((jB true) : SV) = (jB (cond (decide ((w10 : Int) ≥ ((ByteArray.size s : Nat) : Int))) true (cond (decide (((v9 : Nat) : Int) > 0)) ((w10 : Int) == v8) false))) from by rw [hb9, cond_true]), trivial⟩) (show WkBx _ _ from ⟨⟨rfl, ⟨rfl, ⟨rfl, rfl, rfl, rfl⟩, ⟨rfl, rfl, rfl, rfl⟩, trivial⟩⟩, ⟨rfl, ⟨rfl, rfl, rfl, trivial⟩⟩, trivial⟩) (show WkG _ _ _ from ⟨rfl, rfl, rfl, rfl, trivial⟩))⟩
      ·have hb9p := of_decide_eq_false hb9
       rcases Bool.eq_false_or_eq_true (decide (((v9 : Nat) : Int) > 0)) with hb10 | hb10
       ·have hb10p := of_decide_eq_true hb10
        refine W_runX [oF, oF, oF, oT, oT, oT, oF, oT, oF] .normal 92 [(0, (jS s)), (4, (.ptr 4 0)), (7, (.ptr 7 0)), (9, (jI ((v9 : Nat) : Int))), (10, (jI w10)), (75, (jB ((w10 : Int) == v8)))] [(7, (.cells 38 [(jS vb7_0), (.own (1001, 10) gvb7_1 1 (vb7_1.map strAV)), (.own (1002, 44) gvb7_2 2 (vb7_2.map aPair))])), (4, (.cells 38 [(jS (⟨#[]⟩)), .nil, .nil]))] [((1001, 10), gvb7_1), ((1002, 44), gvb7_2)] (akn 5 (apn 3 hb9 (apn 3 hb10 (ac hb9 (ac hb10 (ac hb9 an)))))) (by kernel_rfl) ?_
        exact ⟨rfl, (weak_sx (show WkX _ _ _ from ⟨rfl, rfl, rfl, rfl, rfl, (show ((jB ((w10 : Int) == v8)) : SV) = (jB (cond (decide ((w10 : Int) ≥ ((ByteArray.size s : Nat) : Int))) true (cond (decide (((v9 : Nat) : Int) > 0)) ((w10 : Int) == v8) false))) from by rw [hb9, cond_false, hb10, cond_true]), trivial⟩) (show WkBx _ _ from ⟨⟨rfl, ⟨rfl, ⟨rfl, rfl, rfl, rfl⟩, ⟨rfl, rfl, rfl, rfl⟩, trivial⟩⟩, ⟨rfl, ⟨rfl, rfl, rfl, trivial⟩⟩, trivial⟩) (show WkG _ _ _ from ⟨rfl, rfl, rfl, rfl, trivial⟩))⟩
       ·have hb10p := of_decide_eq_false hb10
        refine W_runX (rp 9 oF []) .normal 92 [(0, (jS s)), (4, (.ptr 4 0)), (7, (.ptr 7 0)), (9, (jI ((v9 : Nat) : Int))), (10, (jI w10)), (75, (jB false))] [(7, (.cells 38 [(jS vb7_0), (.own (1001, 10) gvb7_1 1 (vb7_1.map strAV)), (.own (1002, 44) gvb7_2 2 (vb7_2.map aPair))])), (4, (.cells 38 [(jS (⟨#[]⟩)), .nil, .nil]))] [((1001, 10), gvb7_1), ((1002, 44), gvb7_2)] (akn 5 (apn 3 hb9 (acn 3 hb10 (ac hb9 (ac hb10 (ac hb9 an)))))) (by kernel_rfl) ?_
        exact ⟨rfl, (weak_sx (show WkX _ _ _ from ⟨rfl, rfl, rfl, rfl, rfl, (show ((jB false) : SV) = (jB (cond (decide ((w10 : Int) ≥ ((ByteArray.size s : Nat) : Int))) true (cond (decide (((v9 : Nat) : Int) > 0)) ((w10 : Int) == v8) false))) from by rw [hb9, cond_false, hb10, cond_false]), trivial⟩) (show WkBx _ _ from ⟨⟨rfl, ⟨rfl, ⟨rfl, rfl, rfl, rfl⟩, ⟨rfl, rfl, rfl, rfl⟩, trivial⟩⟩, ⟨rfl, ⟨rfl, rfl, rfl, trivial⟩⟩, trivial⟩) (show WkG _ _ _ from ⟨rfl, rfl, rfl, rfl, trivial⟩))⟩
     rcases Bool.eq_false_or_eq_true (cond (decide ((w10 : Int) ≥ ((ByteArray.size s : Nat) : Int))) true (cond (decide (((v9 : Nat) : Int) > 0)) ((w10 : Int) == v8) false)) with hb11 | hb11
     ·refine W_condT (b := cond (decide ((w10 : Int) ≥ ((ByteArray.size s : Nat) : Int))) true (cond (decide (((v9 : Nat) : Int) > 0)) ((w10 : Int) == v8) false)) (by kernel_rfl) hb11 ?_
      refine W_runX [] .ret 92 [(4, (.ptr 4 0)), (5, (jI 0)), (6, (jI 5))] [(4, (.cells 38 [(jS (⟨#[]⟩)), .nil, .nil]))] [((1001, 10), gvb7_1), ((1002, 44), gvb7_2)] (akn 4 an) (by kernel_rfl) ?_
      refine skipS ?_ (by simp)
      refine pass ?_ (by simp)
      refine skipS ?_ (by simp)
      refine skipS ?_ (by simp)
      refine pass ?_ (by simp)
      refine skipS ?_ (by simp)
      exact ends (r := (.av (.tup [(.agg [(vS (⟨#[]⟩)), (.sl []), (.sl [])]), (vI 0), (vI 5)]))) (by simp) (by kernel_rfl) (by rw [show parR s i = (DAttr.mk (⟨#[]⟩) ([]) ([]), 0, 5) from by rw [← hE1]; rw [parR_L1]; exact (cF hb6).trans ((cF hb8).trans (cT hb11))]; first | done | first | rfl | (simp [strAV, vU, aPair_eq, aAttr_eq, aCited_eq, aInline_eq, aBlock_eq, aDoc_eq, aPoint_eq, aRange_eq, cPair, cAttr, cCited, cInline, cBlock, cDoc, cPoint, cRange]; done)) (by simp) (by simp)
     ·refine W_condF (b := cond (decide ((w10 : Int) ≥ ((ByteArray.size s : Nat) : Int))) true (cond (decide (((v9 : Nat) : Int) > 0)) ((w10 : Int) == v8) false)) (by kernel_rfl) hb11 ?_
      obtain ⟨hb11a, hb11o⟩ := cond_tt hb11
      have hb11ap := of_decide_eq_false hb11a
      refine W_runX [] .normal 92 [(0, (jS s)), (4, (.ptr 4 0)), (7, (.ptr 7 0)), (9, (jI ((v9 : Nat) : Int))), (10, (jI w10))] [(7, (.cells 38 [(jS vb7_0), (.own (1001, 10) gvb7_1 1 (vb7_1.map strAV)), (.own (1002, 44) gvb7_2 2 (vb7_2.map aPair))])), (4, (.cells 38 [(jS (⟨#[]⟩)), .nil, .nil]))] [((1001, 10), gvb7_1), ((1002, 44), gvb7_2)] an (by kernel_rfl) ?_
      show W _ _ _ _
      refine W_seq ?_
      have := itemA_bd (DAttr.mk vb7_0 vb7_1 vb7_2) s w10 (by omega) (by omega) (by omega) (by omega)
      refine W_runX [.c (.tp [(.a [(.av (vS (((itemA (DAttr.mk vb7_0 vb7_1 vb7_2) s w10).1).fID))), (.own (1001, 10) (gvb7_1 + 1) 1 ((((itemA (DAttr.mk vb7_0 vb7_1 vb7_2) s w10).1).fClasses).map strAV)), (.own (1002, 44) (gvb7_2 + 1) 2 ((((itemA (DAttr.mk vb7_0 vb7_1 vb7_2) s w10).1).fPairs).map aPair))]), (.c (.av (vI ((itemA (DAttr.mk vb7_0 vb7_1 vb7_2) s w10).2.1)))), (.c (.av (vI ((itemA (DAttr.mk vb7_0 vb7_1 vb7_2) s w10).2.2))))]) [] [((1001, 10), gvb7_1), ((1002, 44), gvb7_2)] [((1001, 10), gvb7_1 + 1), ((1002, 44), gvb7_2 + 1)]] .normal 92 [(0, (jS s)), (4, (.ptr 4 0)), (7, (.ptr 7 0)), (9, (jI ((v9 : Nat) : Int))), (11, (.ptr 11 0)), (12, (jI ((itemA (DAttr.mk vb7_0 vb7_1 vb7_2) s w10).2.1))), (13, (jI ((itemA (DAttr.mk vb7_0 vb7_1 vb7_2) s w10).2.2)))] [(11, (.cells 38 [(jS (((itemA (DAttr.mk vb7_0 vb7_1 vb7_2) s w10).1).fID)), (.own (1001, 10) (gvb7_1 + 1) 1 ((((itemA (DAttr.mk vb7_0 vb7_1 vb7_2) s w10).1).fClasses).map strAV)), (.own (1002, 44) (gvb7_2 + 1) 2 ((((itemA (DAttr.mk vb7_0 vb7_1 vb7_2) s w10).1).fPairs).map aPair))])), (7, (.cells 38 [(jS vb7_0), (.own (1001, 10) gvb7_1 1 (vb7_1.map strAV)), (.own (1002, 44) gvb7_2 2 (vb7_2.map aPair))])), (4, (.cells 38 [(jS (⟨#[]⟩)), .nil, .nil]))] [((1001, 10), gvb7_1 + 1), ((1002, 44), gvb7_2 + 1)] (akn 3 (ac (itemA_to (DAttr.mk vb7_0 vb7_1 vb7_2) s w10 gvb7_1 gvb7_2 (by omega) (by omega) (by omega) (by omega) (by omega)) (ac (show (gvb7_1 : Nat) = gvb7_1 ∧ (gvb7_2 : Nat) = gvb7_2 ∧ True from ⟨rfl, rfl, trivial⟩) (akn 8 an)))) (by kernel_rfl) ?_
      show W _ _ _ _
      refine W_seq ?_
      refine W_seq ?_
      refine W_runX [] .normal 92 [(0, (jS s)), (4, (.ptr 4 0)), (7, (.ptr 7 0)), (9, (jI ((v9 : Nat) : Int))), (11, (.ptr 11 0)), (12, (jI ((itemA (DAttr.mk vb7_0 vb7_1 vb7_2) s w10).2.1))), (13, (jI ((itemA (DAttr.mk vb7_0 vb7_1 vb7_2) s w10).2.2))), (86, (jB (((itemA (DAttr.mk vb7_0 vb7_1 vb7_2) s w10).2.2 : Int) != 0)))] [(11, (.cells 38 [(jS (((itemA (DAttr.mk vb7_0 vb7_1 vb7_2) s w10).1).fID)), (.own (1001, 10) (gvb7_1 + 1) 1 ((((itemA (DAttr.mk vb7_0 vb7_1 vb7_2) s w10).1).fClasses).map strAV)), (.own (1002, 44) (gvb7_2 + 1) 2 ((((itemA (DAttr.mk vb7_0 vb7_1 vb7_2) s w10).1).fPairs).map aPair))])), (7, (.cells 38 [(jS vb7_0), (.own (1001, 10) gvb7_1 1 (vb7_1.map strAV)), (.own (1002, 44) gvb7_2 2 (vb7_2.map aPair))])), (4, (.cells 38 [(jS (⟨#[]⟩)), .nil, .nil]))] [((1001, 10), gvb7_1 + 1), ((1002, 44), gvb7_2 + 1)] (akn 2 an) (by kernel_rfl) ?_
      show W _ _ _ _
      rcases Bool.eq_false_or_eq_true (((itemA (DAttr.mk vb7_0 vb7_1 vb7_2) s w10).2.2 : Int) != 0) with hb12 | hb12
      ·refine W_condT (b := (((itemA (DAttr.mk vb7_0 vb7_1 vb7_2) s w10).2.2 : Int) != 0)) (by kernel_rfl) hb12 ?_
       have hb12p := bne_iff_ne.1 hb12
       refine W_runX [] .ret 92 [(4, (.ptr 4 0)), (5, (jI 0)), (6, (jI ((itemA (DAttr.mk vb7_0 vb7_1 vb7_2) s w10).2.2)))] [(4, (.cells 38 [(jS (⟨#[]⟩)), .nil, .nil]))] [((1001, 10), gvb7_1 + 1), ((1002, 44), gvb7_2 + 1)] (akn 5 an) (by kernel_rfl) ?_
       refine skipS ?_ (by simp)
       refine pass ?_ (by simp)
       refine skipS ?_ (by simp)
       refine skipS ?_ (by simp)
       refine pass ?_ (by simp)
       refine skipS ?_ (by simp)
       exact ends (r := (.av (.tup [(.agg [(vS (⟨#[]⟩)), (.sl []), (.sl [])]), (vI 0), (vI ((itemA (DAttr.mk vb7_0 vb7_1 vb7_2) s w10).2.2))]))) (by simp) (by kernel_rfl) (by rw [show parR s i = (DAttr.mk (⟨#[]⟩) ([]) ([]), 0, (itemA (DAttr.mk vb7_0 vb7_1 vb7_2) s w10).2.2) from by rw [← hE1]; rw [parR_L1]; exact (cF hb6).trans ((cF hb8).trans ((cF hb11).trans (cT hb12)))]; first | done | first | rfl | (simp [strAV, vU, aPair_eq, aAttr_eq, aCited_eq, aInline_eq, aBlock_eq, aDoc_eq, aPoint_eq, aRange_eq, cPair, cAttr, cCited, cInline, cBlock, cDoc, cPoint, cRange]; done)) (by simp) (by simp)
      ·refine W_condF (b := (((itemA (DAttr.mk vb7_0 vb7_1 vb7_2) s w10).2.2 : Int) != 0)) (by kernel_rfl) hb12 ?_
       have hb12p := eq_of_bne_false hb12
       refine W_runX [] .normal 92 [(0, (jS s)), (4, (.ptr 4 0)), (7, (.ptr 7 0)), (9, (jI ((v9 : Nat) : Int))), (11, (.ptr 11 0)), (12, (jI ((itemA (DAttr.mk vb7_0 vb7_1 vb7_2) s w10).2.1)))] [(11, (.cells 38 [(jS (((itemA (DAttr.mk vb7_0 vb7_1 vb7_2) s w10).1).fID)), (.own (1001, 10) (gvb7_1 + 1) 1 ((((itemA (DAttr.mk vb7_0 vb7_1 vb7_2) s w10).1).fClasses).map strAV)), (.own (1002, 44) (gvb7_2 + 1) 2 ((((itemA (DAttr.mk vb7_0 vb7_1 vb7_2) s w10).1).fPairs).map aPair))])), (7, (.cells 38 [(jS vb7_0), (.own (1001, 10) gvb7_1 1 (vb7_1.map strAV)), (.own (1002, 44) gvb7_2 2 (vb7_2.map aPair))])), (4, (.cells 38 [(jS (⟨#[]⟩)), .nil, .nil]))] [((1001, 10), gvb7_1 + 1), ((1002, 44), gvb7_2 + 1)] an (by kernel_rfl) ?_
       show W _ _ _ _
       refine W_runX [] .normal 92 [(0, (jS s)), (4, (.ptr 4 0)), (7, (.ptr 7 0)), (8, (jI ((itemA (DAttr.mk vb7_0 vb7_1 vb7_2) s w10).2.1))), (9, (jI ((v9 : Nat) : Int)))] [(7, (.cells 38 [(jS (((itemA (DAttr.mk vb7_0 vb7_1 vb7_2) s w10).1).fID)), (.own (1001, 10) (gvb7_1 + 1) 1 ((((itemA (DAttr.mk vb7_0 vb7_1 vb7_2) s w10).1).fClasses).map strAV)), (.own (1002, 44) (gvb7_2 + 1) 2 ((((itemA (DAttr.mk vb7_0 vb7_1 vb7_2) s w10).1).fPairs).map aPair))])), (4, (.cells 38 [(jS (⟨#[]⟩)), .nil, .nil]))] [((1001, 10), gvb7_1 + 1), ((1002, 44), gvb7_2 + 1)] (akn 4 an) (by kernel_rfl) ?_
       refine pass ?_ (by simp)
       show W _ _ _ _
       refine W_runX [.n ((v9 + 1 : Nat) : Int)] .normal 92 [(0, (jS s)), (4, (.ptr 4 0)), (7, (.ptr 7 0)), (8, (jI ((itemA (DAttr.mk vb7_0 vb7_1 vb7_2) s w10).2.1))), (9, (jI ((v9 + 1 : Nat) : Int)))] [(7, (.cells 38 [(jS (((itemA (DAttr.mk vb7_0 vb7_1 vb7_2) s w10).1).fID)), (.own (1001, 10) (gvb7_1 + 1) 1 ((((itemA (DAttr.mk vb7_0 vb7_1 vb7_2) s w10).1).fClasses).map strAV)), (.own (1002, 44) (gvb7_2 + 1) 2 ((((itemA (DAttr.mk vb7_0 vb7_1 vb7_2) s w10).1).fPairs).map aPair))])), (4, (.cells 38 [(jS (⟨#[]⟩)), .nil, .nil]))] [((1001, 10), gvb7_1 + 1), ((1002, 44), gvb7_2 + 1)] (ak (ac (wrE (((v9 : Nat) : Int) + 1) ((v9 + 1 : Nat) : Int) (by omega)) (ak an))) (by kernel_rfl) ?_
       exact ⟨n0, (sx 92 [(0, (jS s)), (4, (.ptr 4 0)), (7, (.ptr 7 0)), (8, (jI ((itemA (DAttr.mk vb7_0 vb7_1 vb7_2) s w10).2.1))), (9, (jI (((v9 + 1) : Nat) : Int)))] [(7, (.cells 38 [(jS (((itemA (DAttr.mk vb7_0 vb7_1 vb7_2) s w10).1).fID)), (.own (1001, 10) (gvb7_1 + 1) 1 ((((itemA (DAttr.mk vb7_0 vb7_1 vb7_2) s w10).1).fClasses).map strAV)), (.own (1002, 44) (gvb7_2 + 1) 2 ((((itemA (DAttr.mk vb7_0 vb7_1 vb7_2) s w10).1).fPairs).map aPair))])), (4, (.cells 38 [(jS (⟨#[]⟩)), .nil, .nil]))] [((1001, 10), (gvb7_1 + 1)), ((1002, 44), (gvb7_2 + 1))]), by omega, (weak_sx (show WkX _ _ _ from ⟨rfl, rfl, rfl, (by rfl), (by rfl), trivial⟩) (show WkBx _ _ from ⟨⟨rfl, ⟨(by rfl), ⟨rfl, (by omega), rfl, rfl⟩, ⟨rfl, (by omega), rfl, rfl⟩, trivial⟩⟩, ⟨rfl, ⟨rfl, rfl, rfl, trivial⟩⟩, trivial⟩) (show WkG _ _ _ from ⟨(by omega), (by omega), (by omega), (by omega), trivial⟩)), ⟨n0, (itemA (DAttr.mk vb7_0 vb7_1 vb7_2) s w10).2.1, v9 + 1, ((itemA (DAttr.mk vb7_0 vb7_1 vb7_2) s w10).1).fID, gvb7_1 + 1, ((itemA (DAttr.mk vb7_0 vb7_1 vb7_2) s w10).1).fClasses, gvb7_2 + 1, ((itemA (DAttr.mk vb7_0 vb7_1 vb7_2) s w10).1).fPairs, by first | omega | assumption | (simp only [lenM_eq]; omega) | (simp; done) | (simp; omega), by first | omega | assumption | (simp only [lenM_eq]; omega) | (simp; done) | (simp; omega), by first | omega | assumption | (simp only [lenM_eq]; omega) | (simp; done) | (simp; omega), by first | omega | assumption | (simp only [lenM_eq]; omega) | (simp; done) | (simp; omega), by first | omega | assumption | (simp only [lenM_eq]; omega) | (simp; done) | (simp; omega), by rw [← hE1]; rw [parR_L1]; exact ((cF hb6).trans ((cF hb8).trans ((cF hb11).trans (cF hb12)))).symm, rfl, rfl⟩⟩
  ·refine W_condF (b := decide (((v9 : Nat) : Int) ≤ ((ByteArray.size s : Nat) : Int))) (by kernel_rfl) hb4 ?_
   have hb4p := of_decide_eq_false hb4
   refine W_runX [] (.exit 0) 92 [(4, (.ptr 4 0))] [(4, (.cells 38 [(jS (⟨#[]⟩)), .nil, .nil]))] [((1001, 10), gvb7_1), ((1002, 44), gvb7_2)] an (by kernel_rfl) ?_
   refine skipS ?_ (by simp)
   refine skipS ?_ (by simp)
   refine hit ?_
   show W _ _ _ _
   refine W_runX [] .ret 92 [(4, (.ptr 4 0)), (5, (jI 0)), (6, (jI 5))] [(4, (.cells 38 [(jS (⟨#[]⟩)), .nil, .nil]))] [((1001, 10), gvb7_1), ((1002, 44), gvb7_2)] (akn 4 an) (by kernel_rfl) ?_
   exact ends (r := (.av (.tup [(.agg [(vS (⟨#[]⟩)), (.sl []), (.sl [])]), (vI 0), (vI 5)]))) (by simp) (by kernel_rfl) (by rw [show parR s i = (DAttr.mk (⟨#[]⟩) ([]) ([]), 0, 5) from by rw [← hE0]; rw [parR_L0]; exact (cF hb4)]; first | done | first | rfl | (simp [strAV, vU, aPair_eq, aAttr_eq, aCited_eq, aInline_eq, aBlock_eq, aDoc_eq, aPoint_eq, aRange_eq, cPair, cAttr, cCited, cInline, cBlock, cDoc, cPoint, cRange]; done)) (by simp) (by simp)
end Go.Proofs.YtdaglbjgdakmcaaGreat
namespace Go.Proofs.YtdaglbjgdakmcaaGreat
open Go Go.Eng
def parQ (s : ByteArray) (r : DAttr × Int × Int) : Prop := 0 ≤ r.2.1 ∧ r.2.1 ≤ s.size + 1
theorem parQ_err (s : ByteArray) (e : Int) : parQ s (DAttr.mk (⟨#[]⟩) ([]) ([]), 0, e) := ⟨Int.le_refl 0, (show (0 : Int) ≤ s.size + 1 by omega)⟩
theorem parR_L1_bd (s : ByteArray) (i v8 : Int) (v9 : Nat) (a0 : ByteArray) (a1 : List ByteArray) (a2 : List DPair) (k0 : Int → Nat → ByteArray → (List ByteArray) → (List DPair) → (DAttr × Int × Int)) (h1 : a1.length ≤ 32) (h2 : a2.length ≤ 32)
  (hk : ∀ (p : Int) b1 b2 b3, 0 ≤ p → p ≤ s.size + 2 → b2.length ≤ 32 → b3.length ≤ 32 → parQ s (k0 p (v9 + 1) b1 b2 b3)) : ∀ (n : Nat) (w : Int), 0 ≤ w → s.size - w.toNat < n → parQ s (parR_L1 s i v8 v9 a0 a1 a2 k0 n w)
 | 0, w, h0, h => by omega
 | n + 1, w, h0, h => by
  rw [parR_L1]
  refine condP (parQ s) (fun q1 => ?_) (fun _ => condP (parQ s) (fun q1 => ?_) (fun _ => condP (parQ s) (fun _ => parQ_err s _) (fun q1 => condP (parQ s) (fun _ => parQ_err s _) (fun _ => ?_))))
  ·have := of_decide_eq_true (cond_ff q1).1
   exact parR_L1_bd s i v8 v9 a0 a1 a2 k0 h1 h2 hk n _ (by omega) (by omega)
  ·have := of_decide_eq_true (cond_ff q1).1
   exact ⟨(show (0 : Int) ≤ w + 1 by omega), (show w + 1 ≤ s.size + 1 by omega)⟩
  ·have := of_decide_eq_false (cond_tt q1).1
   have hb := itemA_bd (DAttr.mk a0 a1 a2) s w (by omega) (by omega) h1 h2
   generalize itemA (DAttr.mk a0 a1 a2) s w = r at hb ⊢
   obtain ⟨b1, b2, b3, b4⟩ := hb
   exact hk _ _ _ _ b3 (Int.le_trans b4 (show (s.size : Int) + 1 ≤ s.size + 2 by omega)) b1 b2
theorem parR_L0_bd (s : ByteArray) (i : Int) : ∀ (n : Nat) (v8 : Int) (v9 : Nat) (a0 : ByteArray) (a1 : List ByteArray) (a2 : List DPair), 0 ≤ v8 → a1.length ≤ 32 → a2.length ≤ 32 → s.size + 1 - v9 < n → parQ s (parR_L0 s i n v8 v9 a0 a1 a2)
 | 0, v8, v9, a0, a1, a2, h0, h1, h2, h => by omega
 | n + 1, v8, v9, a0, a1, a2, h0, h1, h2, h => by
  rw [parR_L0]
  refine condP (parQ s) (fun q1 => ?_) (fun _ => parQ_err s _)
  have := of_decide_eq_true q1
  exact parR_L1_bd s i v8 v9 a0 a1 a2 _ h1 h2 (fun p b1 b2 b3 p1 p2 p3 p4 => parR_L0_bd s i n p _ b1 b2 b3 p1 p3 p4 (by omega)) _ _ h0 (by omega)
theorem parR_bd (s : ByteArray) (i : Int) : 0 ≤ (parR s i).2.1 ∧ (parR s i).2.1 ≤ s.size + 1 := by
 show parQ s (parR s i)
 unfold parR
 refine condP (parQ s) (fun _ => parQ_err s _) (fun q => ?_)
 have := of_decide_eq_false (cond_tt (cond_tt q).1).1
 exact parR_L0_bd s i _ _ _ _ _ _ (by omega) (by simp) (by simp) (by omega)
def endB_L2 (s : ByteArray) (v3 : Nat) (w3 : Nat) (k0 : Nat → Bool) (k1 : Nat → Bool) : Nat → Int → Bool
 | 0, _ => default
 | n2 + 1, x5 => cond (cond (decide ((x5 : Int) < ((ByteArray.size s : Nat) : Int))) (((byt s (Int.toNat x5) : Nat) : Int) == 32) false) (endB_L2 s v3 w3 k0 k1 n2 (x5 + 1)) (decide ((x5 : Int) ≥ ((ByteArray.size s : Nat) : Int)))
def endB_L1 (s : ByteArray) (v3 : Nat) (k0 : Nat → Bool) : Nat → Nat → Bool
 | 0, _ => default
 | n1 + 1, w3 => cond (cond (decide (((w3 : Nat) : Int) < ((ByteArray.size s : Nat) : Int))) (((byt s w3 : Nat) : Int) == 32) false) (endB_L1 s v3 k0 n1 (w3 + 1)) (cond (((w3 : Nat) : Int) == ((ByteArray.size s : Nat) : Int)) true (cond (((parR s ((w3 : Nat) : Int)).2.2 : Int) != 0) false (endB_L2 s v3 w3 k0 (endB_L1 s v3 k0 n1) ((s.size - Int.toNat ((parR s ((w3 : Nat) : Int)).2.1)) + 1) ((parR s ((w3 : Nat) : Int)).2.1))))
def endB_L0 (s : ByteArray) : Nat → Nat → Bool
 | 0, _ => default
 | n0 + 1, v3 => cond (cond (decide (((v3 : Nat) : Int) < ((ByteArray.size s : Nat) : Int))) (((byt s v3 : Nat) : Int) == 32) false) (endB_L0 s n0 (v3 + 1)) (cond (cond (cond (decide (((v3 : Nat) : Int) > 3)) true (decide (((ByteArray.size s : Nat) : Int) < ((v3 + 2 : Nat) : Int)))) true (!eqs (ByteArray.extract s v3 (v3 + 2)) (⟨#[36, 36]⟩))) false (endB_L1 s v3 (endB_L0 s n0) ((s.size - (v3 + 2)) + 1) (v3 + 2)))
def endB (s : ByteArray) : Bool := endB_L0 s ((s.size - 0) + 1) 0
theorem endB_to (s : ByteArray) (hs : s.size ≤ 1073741824) : CallTo Tryz.prog 98 [(jS s)] [] [] (jB (endB s)) [] [] := by
 refine BEG (fun r : Bool => (jB r)) (endB s) Tryz.func98 (by kernel_rfl) ?_
 refine UF (endB.eq_1 ..) ?_
 refine GO (tn 2 z) (by kernel_rfl) ?_
 refine LP (fun N M S => ∃ v3 : Nat, (v3 ≤ s.size) ∧ (s.size - v3 < N) ∧ M = endB_L0 s N v3 ∧ S = (sx 79 [(0, (jS s)), (3, (jI ((v3 : Nat) : Int)))] [] [])) (by kernel_rfl) ⟨_, by first | omega | assumption | (simp only [lenM_eq]; omega) | (simp; done) | (simp; omega), by omega, rfl, rfl⟩ (WK (by kernel_rfl)) ?_
 rintro n0 M S ⟨v3, hv, hF0, rfl, rfl⟩
 obtain ⟨n0, rfl⟩ : ∃ k, n0 = k + 1 := ⟨n0 - 1, by omega⟩
 refine UF (endB_L0.eq_2 ..) ?_
 refine GO (tn 5 (kj (decide (((v3 : Nat) : Int) < ((ByteArray.size s : Nat) : Int))) (tn 2 (hp (fun h => by have j0 := h.2; have j0p := of_decide_eq_true j0; exact (ib s ((v3 : Nat) : Int) (by omega))) (tn 1 z))) z z)) (by kernel_rfl) ?_
 refine CS (fun h1 => ?_) (fun h1 => ?_)
 ·obtain ⟨h1a, h1o⟩ := cond_ff h1
  have h1ap := of_decide_eq_true h1a
  have h1op := eq_of_beq h1o
  refine GO (kb h1 (tn 1 (kn (wrE (((v3 : Nat) : Int) + 1) ((v3 + 1 : Nat) : Int) (by omega)) (tn 1 z)))) (by kernel_rfl) ?_
  exact AG ⟨_, by first | omega | assumption | (simp only [lenM_eq]; omega) | (simp; done) | (simp; omega), by omega, rfl, rfl⟩ (WK (by kernel_rfl)) (by kernel_rfl) (Nat.lt_succ_self _)
 ·refine GO (kb h1 z) (by kernel_rfl) ?_
  refine OUT (tn 3 (kj (decide (((v3 : Nat) : Int) > 3)) z (tn 3 (hn (fun h => by have j0 := h.2; have j0p := of_decide_eq_false j0; exact (wrE (((v3 : Nat) : Int) + 2) ((v3 + 2 : Nat) : Int) (by omega))) (tn 1 z))) (tn 1 (kj (cond (decide (((v3 : Nat) : Int) > 3)) true (decide (((ByteArray.size s : Nat) : Int) < ((v3 + 2 : Nat) : Int)))) z (tn 3 (hn (fun h => by have j0 := h.2; obtain ⟨j0a, j0o⟩ := cond_tt j0; have j0ap := of_decide_eq_false j0a; have j0op := of_decide_eq_false j0o; exact (wrE (((v3 : Nat) : Int) + 2) ((v3 + 2 : Nat) : Int) (by omega))) (hp (fun h => by have j0 := h.2; obtain ⟨j0a, j0o⟩ := cond_tt j0; have j0ap := of_decide_eq_false j0a; have j0op := of_decide_eq_false j0o; have := size_ext s v3 (v3 + 2); exact (show 0 ≤ ((v3 : Nat) : Int) ∧ ((v3 : Nat) : Int) ≤ ((v3 + 2 : Nat) : Int) ∧ ((v3 + 2 : Nat) : Int) ≤ ((ByteArray.size s : Nat) : Int) from (by omega))) (tn 1 z)))) z)))) (by kernel_rfl) ?_
  refine CS (fun h2 => ?_) (fun h2 => ?_)
  ·refine GO (kb h2 (tn 1 z)) (by kernel_rfl) ?_
   exact EN (by kernel_rfl)
  ·obtain ⟨h2a, h2o⟩ := cond_tt h2
   obtain ⟨h2aa, h2ao⟩ := cond_tt h2a
   have h2aap := of_decide_eq_false h2aa
   have h2aop := of_decide_eq_false h2ao
   have h2on := notf h2o
   refine GO (kb h2 (tn 1 (kn (wrE (((v3 : Nat) : Int) + 2) ((v3 + 2 : Nat) : Int) (by omega)) (tn 1 z)))) (by kernel_rfl) ?_
   refine LP (fun N M S => ∃ w3 : Nat, (w3 ≤ s.size) ∧ (s.size - w3 < N) ∧ M = endB_L1 s v3 (endB_L0 s n0) N w3 ∧ S = (sx 79 [(0, (jS s)), (3, (jI ((w3 : Nat) : Int)))] [] [])) (by kernel_rfl) ⟨_, by first | omega | assumption | (simp only [lenM_eq]; omega) | (simp; done) | (simp; omega), by omega, rfl, rfl⟩ (WK (by kernel_rfl)) ?_
   rintro n1 M S ⟨w3, hw, hF1, rfl, rfl⟩
   obtain ⟨n1, rfl⟩ : ∃ k, n1 = k + 1 := ⟨n1 - 1, by omega⟩
   refine UF (endB_L1.eq_2 ..) ?_
   refine GO (tn 5 (kj (decide (((w3 : Nat) : Int) < ((ByteArray.size s : Nat) : Int))) (tn 2 (hp (fun h => by have j0 := h.2; have j0p := of_decide_eq_true j0; exact (ib s ((w3 : Nat) : Int) (by omega))) (tn 1 z))) z z)) (by kernel_rfl) ?_
   refine CS (fun h3 => ?_) (fun h3 => ?_)
   ·obtain ⟨h3a, h3o⟩ := cond_ff h3
    have h3ap := of_decide_eq_true h3a
    have h3op := eq_of_beq h3o
    refine GO (kb h3 (tn 1 (kn (wrE (((w3 : Nat) : Int) + 1) ((w3 + 1 : Nat) : Int) (by omega)) (tn 1 z)))) (by kernel_rfl) ?_
    exact AG ⟨_, by first | omega | assumption | (simp only [lenM_eq]; omega) | (simp; done) | (simp; omega), by omega, rfl, rfl⟩ (WK (by kernel_rfl)) (by kernel_rfl) (Nat.lt_succ_self _)
   ·refine GO (kb h3 z) (by kernel_rfl) ?_
    refine OUT (tn 4 z) (by kernel_rfl) ?_
    refine CSe (fun h4p h4 => ?_) (fun h4p h4 => ?_)
    ·refine GO (kb h4 (tn 1 z)) (by kernel_rfl) ?_
     exact EN (by kernel_rfl)
    ·have := parR_bd s ((w3 : Nat) : Int)
     refine GO (kb h4 (tn 2 (kc (parR_to s ((w3 : Nat) : Int) (by omega)) (tn 10 z)))) (by kernel_rfl) ?_
     refine CSn (fun h5p h5 => ?_) (fun h5p h5 => ?_)
     ·refine GO (kb h5 (tn 1 z)) (by kernel_rfl) ?_
      exact EN (by kernel_rfl)
     ·refine GO (kb h5 z) (by kernel_rfl) ?_
      refine LP (fun N M S => ∃ x5 : Int, (0 ≤ x5) ∧ (x5 ≤ s.size + 1) ∧ (s.size - Int.toNat x5 < N) ∧ M = endB_L2 s v3 w3 (endB_L0 s n0) (endB_L1 s v3 (endB_L0 s n0) n1) N x5 ∧ S = (sx 79 [(0, (jS s)), (5, (jI x5))] [] [])) (by kernel_rfl) ⟨_, by first | omega | assumption | (simp only [lenM_eq]; omega) | (simp; done) | (simp; omega), by first | omega | assumption | (simp only [lenM_eq]; omega) | (simp; done) | (simp; omega), by omega, rfl, rfl⟩ (WK (by kernel_rfl)) ?_
      rintro n2 M S ⟨x5, hx, hx2, hF2, rfl, rfl⟩
      obtain ⟨n2, rfl⟩ : ∃ k, n2 = k + 1 := ⟨n2 - 1, by omega⟩
      refine UF (endB_L2.eq_2 ..) ?_
      refine GO (tn 5 (kj (decide ((x5 : Int) < ((ByteArray.size s : Nat) : Int))) (tn 2 (hp (fun h => by have j0 := h.2; have j0p := of_decide_eq_true j0; exact (ib s x5 (by omega))) (tn 1 z))) z z)) (by kernel_rfl) ?_
      refine CS (fun h6 => ?_) (fun h6 => ?_)
      ·obtain ⟨h6a, h6o⟩ := cond_ff h6
       have h6ap := of_decide_eq_true h6a
       have h6op := eq_of_beq h6o
       refine GO (kb h6 (tn 1 (kn (wrE (x5 + 1) (x5 + 1) (by omega)) (tn 1 z)))) (by kernel_rfl) ?_
       exact AG ⟨_, by first | omega | assumption | (simp only [lenM_eq]; omega) | (simp; done) | (simp; omega), by first | omega | assumption | (simp only [lenM_eq]; omega) | (simp; done) | (simp; omega), by omega, rfl, rfl⟩ (WK (by kernel_rfl)) (by kernel_rfl) (Nat.lt_succ_self _)
      ·refine GO (kb h6 z) (by kernel_rfl) ?_
       refine OUT (tn 5 z) (by kernel_rfl) ?_
       exact EN (by kernel_rfl)
def closB_L0 (s : ByteArray) : Nat → Nat → Nat → Bool
 | 0, _, _ => default
 | n0 + 1, v3, v4 => cond (decide (((v4 : Nat) : Int) < ((ByteArray.size s : Nat) : Int))) (cond (((byt s v4 : Nat) : Int) == 10) (cond (endB (ByteArray.extract s v3 v4)) true (closB_L0 s n0 (v4 + 1) (v4 + 1))) (closB_L0 s n0 v3 (v4 + 1))) false
def closB (s : ByteArray) : Bool := closB_L0 s ((ByteArray.size s - 0) + 1) 0 0
theorem closB_to (s : ByteArray) (hs : s.size ≤ 1073741824) : CallTo Tryz.prog 79 [(jS s)] [] [] (jB (closB s)) [] [] := by
 refine BEG (fun r : Bool => (jB r)) (closB s) Tryz.func79 (by kernel_rfl) ?_
 refine UF (closB.eq_1 ..) ?_
 refine GO (tn 3 z) (by kernel_rfl) ?_
 refine LP (fun N M S => ∃ v3 : Nat, ∃ v4 : Nat, (v3 ≤ v4) ∧ (v4 ≤ s.size) ∧ (ByteArray.size s - v4 < N) ∧ M = closB_L0 s N v3 v4 ∧ S = (sx 22 [(0, (jS s)), (3, (jI ((v3 : Nat) : Int))), (4, (jI ((v4 : Nat) : Int)))] [] [])) (by kernel_rfl) ⟨_, _, by first | omega | assumption | (simp only [lenM_eq]; omega) | (simp; done) | (simp; omega), by first | omega | assumption | (simp only [lenM_eq]; omega) | (simp; done) | (simp; omega), by omega, rfl, rfl⟩ (WK (by kernel_rfl)) ?_
 rintro n0 M S ⟨v3, v4, hv, hv2, hF0, rfl, rfl⟩
 obtain ⟨n0, rfl⟩ : ∃ k, n0 = k + 1 := ⟨n0 - 1, by omega⟩
 refine UF (closB_L0.eq_2 ..) ?_
 refine GO (tn 4 z) (by kernel_rfl) ?_
 refine CSd (fun h1p h1 => ?_) (fun h1p h1 => ?_)
 ·refine GO (kb h1 (tn 2 (kp (ib s ((v4 : Nat) : Int) (by omega)) (tn 1 z)))) (by kernel_rfl) ?_
  refine CSe (fun h2p h2 => ?_) (fun h2p h2 => ?_)
  ·have := size_ext s v3 v4
   refine GO (kb h2 (tn 3 (kp (show 0 ≤ ((v3 : Nat) : Int) ∧ ((v3 : Nat) : Int) ≤ ((v4 : Nat) : Int) ∧ ((v4 : Nat) : Int) ≤ ((ByteArray.size s : Nat) : Int) from (by omega)) (kc (endB_to (ByteArray.extract s v3 v4) (by omega)) z)))) (by kernel_rfl) ?_
   refine CS (fun h3 => ?_) (fun h3 => ?_)
   ·refine GO (kb h3 (tn 1 z)) (by kernel_rfl) ?_
    refine OUT z (by kernel_rfl) ?_
    exact EN (by kernel_rfl)
   ·refine GO (kb h3 (tn 1 (kn (wrE (((v4 : Nat) : Int) + 1) ((v4 + 1 : Nat) : Int) (by omega)) (tn 2 (kn (wrE (((v4 : Nat) : Int) + 1) ((v4 + 1 : Nat) : Int) (by omega)) (tn 1 z)))))) (by kernel_rfl) ?_
    exact AG ⟨_, _, by first | omega | assumption | (simp only [lenM_eq]; omega) | (simp; done) | (simp; omega), by first | omega | assumption | (simp only [lenM_eq]; omega) | (simp; done) | (simp; omega), by omega, rfl, rfl⟩ (WK (by kernel_rfl)) (by kernel_rfl) (Nat.lt_succ_self _)
  ·refine GO (kb h2 (tn 1 (kn (wrE (((v4 : Nat) : Int) + 1) ((v4 + 1 : Nat) : Int) (by omega)) (tn 1 z)))) (by kernel_rfl) ?_
   exact AG ⟨_, _, by first | omega | assumption | (simp only [lenM_eq]; omega) | (simp; done) | (simp; omega), by first | omega | assumption | (simp only [lenM_eq]; omega) | (simp; done) | (simp; omega), by omega, rfl, rfl⟩ (WK (by kernel_rfl)) (by kernel_rfl) (Nat.lt_succ_self _)
 ·refine GO (kb h1 z) (by kernel_rfl) ?_
  refine OUT (tn 1 z) (by kernel_rfl) ?_
  exact EN (by kernel_rfl)
end Go.Proofs.YtdaglbjgdakmcaaGreat
namespace Go.Proofs.YtdaglbjgdakmcaaGreat
open Go Go.Eng
def tgtE (x : DInline) : Int := cond (cond (!eqs x.fText (⟨#[]⟩)) (cond (!eqs x.fDest (⟨#[]⟩)) true (!eqs x.fTitle (⟨#[]⟩))) false) 5 (cond (cond (!eqs x.fText (⟨#[]⟩)) (!labelB x.fText) false) 6 (cond (cond (!lineB x.fDest) true (!lineB x.fTitle)) 17 (cond (cond ((x.fKind : Int) == 9) (anyE x.fKids false) false) 5 (cond ((x.fKind : Int) == 10) (chkA x.fAttr) 0))))
theorem tgtE_to (x : DInline) (hx : wInline x ≤ 1073741824) : CallTo Tryz.prog 124 [(.av (cInline x))] [] [] (jI (tgtE x)) [] [] := by
 have hwx := wInline_eq x
 have hwxa := wAttr_eq x.fAttr
 simp only [wStr, w1] at hwx
 refine BEG (fun r : Int => (jI r)) (tgtE x) Tryz.func124 (by kernel_rfl) ?_
 refine UF (tgtE.eq_1 ..) ?_
 refine GO (tn 6 (kj (!eqs x.fText (⟨#[]⟩)) (tn 4 (kj (!eqs x.fDest (⟨#[]⟩)) z (tn 3 z) z)) z z)) (by kernel_rfl) ?_
 refine CS (fun h1 => ?_) (fun h1 => ?_)
 ·obtain ⟨h1a, h1o⟩ := cond_ff h1
  have h1an := nott h1a
  have h1az := size_neqs_t h1a
  refine GO (kb h1 (tn 1 z)) (by kernel_rfl) ?_
  exact EN (by kernel_rfl)
 ·refine GO (kb h1 (tn 4 (kj (!eqs x.fText (⟨#[]⟩)) (tn 2 (hc (fun h => by have j0 := h.2; have j0n := nott j0; have j0z := size_neqs_t j0; exact (labelB_to x.fText (by omega))) (tn 1 z))) z z))) (by kernel_rfl) ?_
  refine CS (fun h2 => ?_) (fun h2 => ?_)
  ·obtain ⟨h2a, h2o⟩ := cond_ff h2
   have h2an := nott h2a
   have h2az := size_neqs_t h2a
   have h2on := nott h2o
   refine GO (kb h2 (tn 1 z)) (by kernel_rfl) ?_
   exact EN (by kernel_rfl)
  ·refine GO (kb h2 (tn 2 (kc (lineB_to x.fDest (by omega)) (tn 2 (kj (!lineB x.fDest) z (tn 2 (hc (fun h => by have j0 := h.2; have j0n := notf j0; exact (lineB_to x.fTitle (by omega))) (tn 1 z))) z))))) (by kernel_rfl) ?_
   refine CS (fun h3 => ?_) (fun h3 => ?_)
   ·refine GO (kb h3 (tn 1 z)) (by kernel_rfl) ?_
    exact EN (by kernel_rfl)
   ·obtain ⟨h3a, h3o⟩ := cond_tt h3
    have h3an := notf h3a
    have h3on := notf h3o
    refine GO (kb h3 (tn 4 (kj ((x.fKind : Int) == 9) (tn 2 (hc (fun h => by have j0 := h.2; have j0p := eq_of_beq j0; exact (anyE_to x.fKids false (by omega))) z)) z z))) (by kernel_rfl) ?_
    refine CS (fun h4 => ?_) (fun h4 => ?_)
    ·obtain ⟨h4a, h4o⟩ := cond_ff h4
     have h4ap := eq_of_beq h4a
     refine GO (kb h4 (tn 1 z)) (by kernel_rfl) ?_
     exact EN (by kernel_rfl)
    ·refine GO (kb h4 (tn 3 z)) (by kernel_rfl) ?_
     refine CSe (fun h5p h5 => ?_) (fun h5p h5 => ?_)
     ·refine GO (kb h5 (tn 2 (kc (chkA_to x.fAttr (by omega)) (tn 1 z)))) (by kernel_rfl) ?_
      exact EN (by kernel_rfl)
     ·refine GO (kb h5 (tn 1 z)) (by kernel_rfl) ?_
      exact EN (by kernel_rfl)
def oneE (x : DInline) (before : Int) (first : Bool) (last : Bool) : Int := cond (!inlF x) 5 (cond (cond ((x.fKind : Int) == 1) ((x.fKind : Int) == 1) (cond ((x.fKind : Int) == 4) ((x.fKind : Int) == 4) ((x.fKind : Int) == 5))) (cond (cond (eqs x.fText (⟨#[]⟩)) true (!lineB x.fText)) 17 (cond (cond ((x.fKind : Int) != 5) ((before : Int) == x.fKind) false) 5 0)) (cond ((x.fKind : Int) == 2) (cond (cond (cond (cond ((before : Int) == 2) true ((before : Int) == 3)) true first) true last) 5 0) (cond ((x.fKind : Int) == 3) (cond last 5 0) (cond (cond ((x.fKind : Int) == 6) ((x.fKind : Int) == 6) (cond ((x.fKind : Int) == 7) ((x.fKind : Int) == 7) ((x.fKind : Int) == 8))) (cond (((lenM aInline x.fKids : Nat) : Int) == 0) 8 0) (cond (cond ((x.fKind : Int) == 9) ((x.fKind : Int) == 9) ((x.fKind : Int) == 10)) (tgtE x) (cond ((x.fKind : Int) == 11) (cond (noAttr x.fAttr) 8 (chkA x.fAttr)) (cond (cond ((x.fKind : Int) == 12) ((x.fKind : Int) == 12) (cond ((x.fKind : Int) == 14) ((x.fKind : Int) == 14) ((x.fKind : Int) == 15))) (namedE x) (cond ((x.fKind : Int) == 13) (citesE x.fCites) (cond ((x.fKind : Int) == 16) (cond (!autoB x.fDest) 5 0) 0)))))))))
theorem oneE_to (x : DInline) (before : Int) (first : Bool) (last : Bool) (hx : wInline x ≤ 1073741824) : CallTo Tryz.prog 120 [(.av (cInline x)), (jI before), (jB first), (jB last)] [] [] (jI (oneE x before first last)) [] [] := by
 have hwx := wInline_eq x
 have hwxa := wAttr_eq x.fAttr
 simp only [wStr, w1] at hwx
 refine BEG (fun r : Int => (jI r)) (oneE x before first last) Tryz.func120 (by kernel_rfl) ?_
 refine UF (oneE.eq_1 ..) ?_
 refine GO (tn 3 (kc (inlF_to x) (tn 1 z))) (by kernel_rfl) ?_
 refine CS (fun h1 => ?_) (fun h1 => ?_)
 ·have h1n := nott h1
  refine GO (kb h1 (tn 1 z)) (by kernel_rfl) ?_
  exact EN (by kernel_rfl)
 ·have h1n := notf h1
  refine GO (kb h1 (tn 4 (ks ((x.fKind : Int) == 1) [14] z (tn 2 (ks ((x.fKind : Int) == 4) [14] z (tn 2 z) z)) z))) (by kernel_rfl) ?_
  refine CS (fun h2 => ?_) (fun h2 => ?_)
  ·refine GO (kb h2 (tn 4 (kj (eqs x.fText (⟨#[]⟩)) z (tn 2 (hc (fun h => by have j0 := h.2; have j0z := size_eqs_f j0; exact (lineB_to x.fText (by omega))) (tn 1 z))) z))) (by kernel_rfl) ?_
   refine CS (fun h3 => ?_) (fun h3 => ?_)
   ·refine GO (kb h3 (tn 1 z)) (by kernel_rfl) ?_
    exact EN (by kernel_rfl)
   ·obtain ⟨h3a, h3o⟩ := cond_tt h3
    have h3az := size_eqs_f h3a
    have h3on := notf h3o
    refine GO (kb h3 (tn 4 (kj ((x.fKind : Int) != 5) (tn 4 z) z z))) (by kernel_rfl) ?_
    refine CS (fun h4 => ?_) (fun h4 => ?_)
    ·obtain ⟨h4a, h4o⟩ := cond_ff h4
     have h4ap := bne_iff_ne.1 h4a
     have h4op := eq_of_beq h4o
     refine GO (kb h4 (tn 1 z)) (by kernel_rfl) ?_
     exact EN (by kernel_rfl)
    ·refine GO (kb h4 (tn 1 z)) (by kernel_rfl) ?_
     exact EN (by kernel_rfl)
  ·refine GO (kb h2 (tn 2 z)) (by kernel_rfl) ?_
   refine CSe (fun h5p h5 => ?_) (fun h5p h5 => ?_)
   ·refine GO (kb h5 (tn 3 (kj ((before : Int) == 2) z (tn 2 z) (tn 1 (kj (cond ((before : Int) == 2) true ((before : Int) == 3)) z (tn 1 z) (tn 1 (kj (cond (cond ((before : Int) == 2) true ((before : Int) == 3)) true first) z (tn 1 z) z))))))) (by kernel_rfl) ?_
    refine CS (fun h6 => ?_) (fun h6 => ?_)
    ·refine GO (kb h6 (tn 1 z)) (by kernel_rfl) ?_
     exact EN (by kernel_rfl)
    ·obtain ⟨h6a, h6o⟩ := cond_tt h6
     obtain ⟨h6aa, h6ao⟩ := cond_tt h6a
     obtain ⟨h6aaa, h6aao⟩ := cond_tt h6aa
     have h6aaap := ne_of_beq_false h6aaa
     have h6aaop := ne_of_beq_false h6aao
     refine GO (kb h6 (tn 1 z)) (by kernel_rfl) ?_
     exact EN (by kernel_rfl)
   ·refine GO (kb h5 (tn 2 z)) (by kernel_rfl) ?_
    refine CSe (fun h7p h7 => ?_) (fun h7p h7 => ?_)
    ·refine GO (kb h7 (tn 1 z)) (by kernel_rfl) ?_
     refine CS (fun h8 => ?_) (fun h8 => ?_)
     ·refine GO (kb h8 (tn 1 z)) (by kernel_rfl) ?_
      exact EN (by kernel_rfl)
     ·refine GO (kb h8 (tn 1 z)) (by kernel_rfl) ?_
      exact EN (by kernel_rfl)
    ·refine GO (kb h7 (tn 2 (ks ((x.fKind : Int) == 6) [53] z (tn 2 (ks ((x.fKind : Int) == 7) [53] z (tn 2 z) z)) z))) (by kernel_rfl) ?_
     refine CS (fun h9 => ?_) (fun h9 => ?_)
     ·refine GO (kb h9 (tn 4 z)) (by kernel_rfl) ?_
      refine CSe (fun h10p h10 => ?_) (fun h10p h10 => ?_)
      ·have := lenM_eq aInline x.fKids
       refine GO (kb h10 (tn 1 z)) (by kernel_rfl) ?_
       exact EN (by kernel_rfl)
      ·have := lenM_eq aInline x.fKids
       refine GO (kb h10 (tn 1 z)) (by kernel_rfl) ?_
       exact EN (by kernel_rfl)
     ·refine GO (kb h9 (tn 2 (ks ((x.fKind : Int) == 9) [61] z (tn 2 z) z))) (by kernel_rfl) ?_
      refine CS (fun h11 => ?_) (fun h11 => ?_)
      ·refine GO (kb h11 (tn 1 (kc (tgtE_to x (by omega)) (tn 1 z)))) (by kernel_rfl) ?_
       exact EN (by kernel_rfl)
      ·refine GO (kb h11 (tn 2 z)) (by kernel_rfl) ?_
       refine CSe (fun h12p h12 => ?_) (fun h12p h12 => ?_)
       ·refine GO (kb h12 (tn 2 (kc (noAttr_to x.fAttr) z))) (by kernel_rfl) ?_
        refine CS (fun h13 => ?_) (fun h13 => ?_)
        ·refine GO (kb h13 (tn 1 z)) (by kernel_rfl) ?_
         exact EN (by kernel_rfl)
        ·refine GO (kb h13 (tn 2 (kc (chkA_to x.fAttr (by omega)) (tn 1 z)))) (by kernel_rfl) ?_
         exact EN (by kernel_rfl)
       ·refine GO (kb h12 (tn 2 (ks ((x.fKind : Int) == 12) [74] z (tn 2 (ks ((x.fKind : Int) == 14) [74] z (tn 2 z) z)) z))) (by kernel_rfl) ?_
        refine CS (fun h14 => ?_) (fun h14 => ?_)
        ·refine GO (kb h14 (tn 1 (kc (namedE_to x (by omega)) (tn 1 z)))) (by kernel_rfl) ?_
         exact EN (by kernel_rfl)
        ·refine GO (kb h14 (tn 2 z)) (by kernel_rfl) ?_
         refine CSe (fun h15p h15 => ?_) (fun h15p h15 => ?_)
         ·refine GO (kb h15 (tn 2 (kc (citesE_to x.fCites (by omega)) (tn 1 z)))) (by kernel_rfl) ?_
          exact EN (by kernel_rfl)
         ·refine GO (kb h15 (tn 2 z)) (by kernel_rfl) ?_
          refine CSe (fun h16p h16 => ?_) (fun h16p h16 => ?_)
          ·refine GO (kb h16 (tn 2 (kc (autoB_to x.fDest (by omega)) (tn 1 z)))) (by kernel_rfl) ?_
           refine CS (fun h17 => ?_) (fun h17 => ?_)
           ·have h17n := nott h17
            refine GO (kb h17 (tn 1 z)) (by kernel_rfl) ?_
            exact EN (by kernel_rfl)
           ·have h17n := notf h17
            refine GO (kb h17 (tn 1 z)) (by kernel_rfl) ?_
            exact EN (by kernel_rfl)
          ·refine GO (kb h16 (tn 1 z)) (by kernel_rfl) ?_
           exact EN (by kernel_rfl)
end Go.Proofs.YtdaglbjgdakmcaaGreat
namespace Go.Proofs.YtdaglbjgdakmcaaGreat
open Go Go.Eng
def listES_L0 (rec : (List DInline) → Int → Int) (l : List DInline) (depth : Int) : Nat → Int → Nat → Int
 | 0, _, _ => default
 | n0 + 1, v5, v6 => cond (decide (((v6 : Nat) : Int) < ((lenM aInline l : Nat) : Int))) (cond (decide ((depth : Int) > 15)) 11 (cond ((oneE (el l v6) v5 (cond ((depth : Int) == 0) (((v6 : Nat) : Int) == 0) false) (cond ((depth : Int) == 0) (((v6 : Nat) : Int) == ((lenM aInline l : Nat) : Int) - 1) false) : Int) != 0) (oneE (el l v6) v5 (cond ((depth : Int) == 0) (((v6 : Nat) : Int) == 0) false) (cond ((depth : Int) == 0) (((v6 : Nat) : Int) == ((lenM aInline l : Nat) : Int) - 1) false)) (cond ((rec ((el l v6).fKids) (depth + 1) : Int) != 0) (rec ((el l v6).fKids) (depth + 1)) (listES_L0 rec l depth n0 ((el l v6).fKind) (v6 + 1))))) 0
def listES (rec : (List DInline) → Int → Int) (l : List DInline) (depth : Int) : Int := listES_L0 rec l depth ((List.length l - 0) + 1) 0 0
theorem listE_st (rec : (List DInline) → Int → Int) (l : List DInline) (depth : Int) (hl : wl wInline l ≤ 1073741824) (hd : 0 ≤ depth) (hd2 : depth ≤ 20) (hrec : ∀ (l' : List DInline) (depth' : Int), wl wInline l' < wl wInline l → wl wInline l' ≤ 1073741824 → 0 ≤ depth' → depth' ≤ 20 → CallTo Tryz.prog 114 [(jL ((l').map aInline)), (jI depth')] [] [] (jI (rec l' depth')) [] []) : CallTo Tryz.prog 114 [(jL (l.map aInline)), (jI depth)] [] [] (jI (listES rec l depth)) [] [] := by
 have hw_0 := wl_len (w := wInline) wInline_pos l
 refine BEG (fun r : Int => (jI r)) (listES rec l depth) Tryz.func114 (by kernel_rfl) ?_
 refine UF (listES.eq_1 ..) ?_
 refine GO (tn 3 z) (by kernel_rfl) ?_
 refine LP (fun N M S => ∃ v5 : Int, ∃ v6 : Nat, (List.length l - v6 < N) ∧ M = listES_L0 rec l depth N v5 v6 ∧ S = (sx 56 [(0, (jL (l.map aInline))), (1, (jI depth)), (5, (jI v5)), (6, (jI ((v6 : Nat) : Int)))] [] [])) (by kernel_rfl) ⟨_, _, by omega, rfl, rfl⟩ (WK (by kernel_rfl)) ?_
 rintro n0 M S ⟨v5, v6, hF0, rfl, rfl⟩
 obtain ⟨n0, rfl⟩ : ∃ k, n0 = k + 1 := ⟨n0 - 1, by omega⟩
 refine UF (listES_L0.eq_2 ..) ?_
 refine GO (tn 4 z) (by kernel_rfl) ?_
 refine CSd (fun h1p h1 => ?_) (fun h1p h1 => ?_)
 ·have := lenM_eq aInline l
  have hce := wl_el (w := wInline) (l := l) (i := v6) (by omega)
  have hcw := wInline_eq (el l v6)
  simp only [wStr, w1] at hcw
  refine GO (kb h1 (tn 2 z)) (by kernel_rfl) ?_
  refine CSd (fun h2p h2 => ?_) (fun h2p h2 => ?_)
  ·refine GO (kb h2 (tn 1 z)) (by kernel_rfl) ?_
   refine OUT z (by kernel_rfl) ?_
   exact EN (by kernel_rfl)
  ·refine GO (kb h2 (tn 2 (ke (el_aInline l v6 (by omega)) (tn 5 (kj ((depth : Int) == 0) (tn 2 z) z (tn 3 (kj ((depth : Int) == 0) (tn 3 (hn (fun h => by have j0 := h.2; have j0p := eq_of_beq j0; exact (wrE (((lenM aInline l : Nat) : Int) - 1) (((lenM aInline l : Nat) : Int) - 1) (by omega))) (tn 1 z))) z (kc (oneE_to (el l v6) v5 (cond ((depth : Int) == 0) (((v6 : Nat) : Int) == 0) false) (cond ((depth : Int) == 0) (((v6 : Nat) : Int) == ((lenM aInline l : Nat) : Int) - 1) false) (by omega)) (tn 3 z))))))))) (by kernel_rfl) ?_
   refine CSn (fun h3p h3 => ?_) (fun h3p h3 => ?_)
   ·have := lenM_eq aInline l
    refine GO (kb h3 (tn 2 z)) (by kernel_rfl) ?_
    refine OUT z (by kernel_rfl) ?_
    exact EN (by kernel_rfl)
   ·have := lenM_eq aInline l
    refine GO (kb h3 (tn 2 (ke (el_aInline l v6 (by omega)) (tn 3 (kn (wrE (depth + 1) (depth + 1) (by omega)) (kc (hrec ((el l v6).fKids) (depth + 1) (by omega) (by omega) (by omega) (by omega)) (tn 3 z))))))) (by kernel_rfl) ?_
    refine CSn (fun h4p h4 => ?_) (fun h4p h4 => ?_)
    ·refine GO (kb h4 (tn 2 z)) (by kernel_rfl) ?_
     refine OUT z (by kernel_rfl) ?_
     exact EN (by kernel_rfl)
    ·refine GO (kb h4 (tn 2 (ke (el_aInline l v6 (by omega)) (tn 4 (kn (wrE (((v6 : Nat) : Int) + 1) ((v6 + 1 : Nat) : Int) (by omega)) (tn 1 z)))))) (by kernel_rfl) ?_
     exact AG ⟨_, _, by omega, rfl, rfl⟩ (WK (by kernel_rfl)) (by kernel_rfl) (Nat.lt_succ_self _)
 ·have := lenM_eq aInline l
  refine GO (kb h1 z) (by kernel_rfl) ?_
  refine OUT (tn 1 z) (by kernel_rfl) ?_
  exact EN (by kernel_rfl)
def listEN : Nat → (List DInline) → Int → Int
 | 0, _, _ => default
 | n + 1, l, depth => listES (listEN n) l depth
theorem listEN_to : ∀ (n : Nat) (l : List DInline) (depth : Int), wl wInline l < n → wl wInline l ≤ 1073741824 → 0 ≤ depth → depth ≤ 20 → CallTo Tryz.prog 114 [(jL (l.map aInline)), (jI depth)] [] [] (jI (listEN n l depth)) [] []
 | 0, l, depth, h0, _, _, _ => absurd h0 (Nat.not_lt_zero _)
 | n + 1, l, depth, h0, hl, hd, hd2 => by
  exact listE_st (listEN n) l depth hl hd hd2 (fun l' depth' q1 hl' hd' hd2' => listEN_to n l' depth' (by omega) hl' hd' hd2')
def listE (l : List DInline) (depth : Int) : Int := listEN (wl wInline l + 1) l depth
theorem listE_to (l : List DInline) (depth : Int) (hl : wl wInline l ≤ 1073741824) (hd : 0 ≤ depth) (hd2 : depth ≤ 20) : CallTo Tryz.prog 114 [(jL (l.map aInline)), (jI depth)] [] [] (jI (listE l depth)) [] [] := listEN_to _ l depth (Nat.lt_succ_self _) hl hd hd2
def lineE (l : List DInline) : Int := listE l 0
theorem lineE_to (l : List DInline) (hl : wl wInline l ≤ 1073741824) : CallTo Tryz.prog 97 [(jL (l.map aInline))] [] [] (jI (lineE l)) [] [] := by
 refine BEG (fun r : Int => (jI r)) (lineE l) Tryz.func97 (by kernel_rfl) ?_
 refine UF (lineE.eq_1 ..) ?_
 refine GO (tn 2 (kc (listE_to l 0 (by omega) (by omega) (by omega)) (tn 1 z))) (by kernel_rfl) ?_
 exact EN (by kernel_rfl)
end Go.Proofs.YtdaglbjgdakmcaaGreat
namespace Go.Proofs.YtdaglbjgdakmcaaGreat
open Go Go.Eng
def tabE_L1 (b : DBlock) (v3 : Nat) (k0 : Nat → Int) : Nat → Nat → Int
 | 0, _ => default
 | n1 + 1, w4 => cond (decide (((w4 : Nat) : Int) < ((lenM aBlock b.fKids : Nat) : Int))) (cond (((lenM aBlock ((el b.fKids w4).fKids) : Nat) : Int) != ((ByteArray.size b.fInfo : Nat) : Int)) 15 (tabE_L1 b v3 k0 n1 (w4 + 1))) 0
def tabE_L0 (b : DBlock) : Nat → Nat → Int
 | 0, _ => default
 | n0 + 1, v3 => cond (decide (((v3 : Nat) : Int) < ((ByteArray.size b.fInfo : Nat) : Int))) (cond (!hasB (ByteArray.extract b.fInfo v3 (v3 + 1)) (⟨#[45, 108, 99, 114]⟩)) 5 (tabE_L0 b n0 (v3 + 1))) (cond (((lenM aBlock b.fKids : Nat) : Int) == 0) 8 (tabE_L1 b v3 (tabE_L0 b n0) ((List.length b.fKids - 0) + 1) 0))
def tabE (b : DBlock) : Int := cond (decide (((ByteArray.size b.fInfo : Nat) : Int) > 32)) 3 (cond (eqs b.fInfo (⟨#[]⟩)) 5 (tabE_L0 b ((ByteArray.size b.fInfo - 0) + 1) 0))
theorem tabE_to (b : DBlock) (hb : wBlock b ≤ 1073741824) : CallTo Tryz.prog 81 [(.av (cBlock b))] [] [] (jI (tabE b)) [] [] := by
 have hwb := wBlock_eq b
 simp only [wStr, w1] at hwb
 have hw_0 := wl_len (w := wBlock) wBlock_pos b.fKids
 refine BEG (fun r : Int => (jI r)) (tabE b) Tryz.func81 (by kernel_rfl) ?_
 refine UF (tabE.eq_1 ..) ?_
 refine GO (tn 6 z) (by kernel_rfl) ?_
 refine CSd (fun h1p h1 => ?_) (fun h1p h1 => ?_)
 ·refine GO (kb h1 (tn 1 z)) (by kernel_rfl) ?_
  exact EN (by kernel_rfl)
 ·refine GO (kb h1 (tn 3 z)) (by kernel_rfl) ?_
  refine CS (fun h2 => ?_) (fun h2 => ?_)
  ·have h2z := size_eqs_t h2
   refine GO (kb h2 (tn 1 z)) (by kernel_rfl) ?_
   exact EN (by kernel_rfl)
  ·have h2z := size_eqs_f h2
   refine GO (kb h2 (tn 1 z)) (by kernel_rfl) ?_
   refine LP (fun N M S => ∃ v3 : Nat, (ByteArray.size b.fInfo - v3 < N) ∧ M = tabE_L0 b N v3 ∧ S = (sx 49 [(1, (.ptr 1 0)), (3, (jI ((v3 : Nat) : Int)))] [(1, (.cells 65 (sBlock b)))] [])) (by kernel_rfl) ⟨_, by omega, rfl, rfl⟩ (WK (by kernel_rfl)) ?_
   rintro n0 M S ⟨v3, hF0, rfl, rfl⟩
   obtain ⟨n0, rfl⟩ : ∃ k, n0 = k + 1 := ⟨n0 - 1, by omega⟩
   refine UF (tabE_L0.eq_2 ..) ?_
   refine GO (tn 5 z) (by kernel_rfl) ?_
   refine CSd (fun h3p h3 => ?_) (fun h3p h3 => ?_)
   ·have := size_ext b.fInfo v3 (v3 + 1)
    refine GO (kb h3 (tn 4 (kn (wrE (((v3 : Nat) : Int) + 1) ((v3 + 1 : Nat) : Int) (by omega)) (kp (show 0 ≤ ((v3 : Nat) : Int) ∧ ((v3 : Nat) : Int) ≤ ((v3 + 1 : Nat) : Int) ∧ ((v3 + 1 : Nat) : Int) ≤ ((ByteArray.size b.fInfo : Nat) : Int) from (by omega)) (kc (hasB_to (ByteArray.extract b.fInfo v3 (v3 + 1)) (⟨#[45, 108, 99, 114]⟩) (by omega) (by decide)) (tn 1 z)))))) (by kernel_rfl) ?_
    refine CS (fun h4 => ?_) (fun h4 => ?_)
    ·have h4n := nott h4
     refine GO (kb h4 (tn 1 z)) (by kernel_rfl) ?_
     refine OUT z (by kernel_rfl) ?_
     exact EN (by kernel_rfl)
    ·have h4n := notf h4
     refine GO (kb h4 (tn 1 (kn (wrE (((v3 : Nat) : Int) + 1) ((v3 + 1 : Nat) : Int) (by omega)) (tn 1 z)))) (by kernel_rfl) ?_
     exact AG ⟨_, by omega, rfl, rfl⟩ (WK (by kernel_rfl)) (by kernel_rfl) (Nat.lt_succ_self _)
   ·refine GO (kb h3 z) (by kernel_rfl) ?_
    refine OUT (tn 4 z) (by kernel_rfl) ?_
    refine CSe (fun h5p h5 => ?_) (fun h5p h5 => ?_)
    ·have := lenM_eq aBlock b.fKids
     refine GO (kb h5 (tn 1 z)) (by kernel_rfl) ?_
     exact EN (by kernel_rfl)
    ·have := lenM_eq aBlock b.fKids
     refine GO (kb h5 (tn 1 z)) (by kernel_rfl) ?_
     refine LP (fun N M S => ∃ w4 : Nat, (List.length b.fKids - w4 < N) ∧ M = tabE_L1 b v3 (tabE_L0 b n0) N w4 ∧ S = (sx 49 [(1, (.ptr 1 0)), (4, (jI ((w4 : Nat) : Int)))] [(1, (.cells 65 (sBlock b)))] [])) (by kernel_rfl) ⟨_, by omega, rfl, rfl⟩ (WK (by kernel_rfl)) ?_
     rintro n1 M S ⟨w4, hF1, rfl, rfl⟩
     obtain ⟨n1, rfl⟩ : ∃ k, n1 = k + 1 := ⟨n1 - 1, by omega⟩
     refine UF (tabE_L1.eq_2 ..) ?_
     refine GO (tn 5 z) (by kernel_rfl) ?_
     refine CSd (fun h6p h6 => ?_) (fun h6p h6 => ?_)
     ·have := lenM_eq aBlock b.fKids
      have hce := wl_el (w := wBlock) (l := b.fKids) (i := w4) (by omega)
      have hcw := wBlock_eq (el b.fKids w4)
      simp only [wStr, w1] at hcw
      refine GO (kb h6 z) (by kernel_rfl) ?_
      have d7 := (el_aBlock b.fKids w4 (by omega))
      refine DR3 (tn 3 (ko (eO d7) (kp d7 (tn 7 z)))) (by kernel_rfl) (by kernel_rfl) (by kernel_rfl) ?_
      refine CSn (fun h8p h8 => ?_) (fun h8p h8 => ?_)
      ·have := lenM_eq aBlock ((el b.fKids w4).fKids)
       refine GO (kb h8 (tn 1 z)) (by kernel_rfl) ?_
       refine OUT z (by kernel_rfl) ?_
       exact EN (by kernel_rfl)
      ·have := lenM_eq aBlock ((el b.fKids w4).fKids)
       refine GO (kb h8 (tn 1 (kn (wrE (((w4 : Nat) : Int) + 1) ((w4 + 1 : Nat) : Int) (by omega)) (tn 1 z)))) (by kernel_rfl) ?_
       exact AG ⟨_, by omega, rfl, rfl⟩ (WK (by kernel_rfl)) (by kernel_rfl) (Nat.lt_succ_self _)
     ·have := lenM_eq aBlock b.fKids
      refine GO (kb h6 z) (by kernel_rfl) ?_
      refine OUT (tn 1 z) (by kernel_rfl) ?_
      exact EN (by kernel_rfl)
def wriE (b : DBlock) : Int := cond (cond ((b.fKind : Int) == 1) (((lenM aInline b.fLine : Nat) : Int) == 0) false) 8 (cond ((b.fKind : Int) == 2) (cond (cond (decide ((b.fLevel : Int) < 1)) true (decide ((b.fLevel : Int) > 6))) 9 (cond ((chkA b.fAttr : Int) != 0) (chkA b.fAttr) (cond (cond ((b.fKind : Int) != 1) (anyE b.fLine true) false) 5 (lineE b.fLine)))) (cond (cond ((b.fKind : Int) != 1) (anyE b.fLine true) false) 5 (lineE b.fLine)))
theorem wriE_to (b : DBlock) (hb : wBlock b ≤ 1073741824) : CallTo Tryz.prog 77 [(.av (cBlock b))] [] [] (jI (wriE b)) [] [] := by
 have hwb := wBlock_eq b
 simp only [wStr, w1] at hwb
 refine BEG (fun r : Int => (jI r)) (wriE b) Tryz.func77 (by kernel_rfl) ?_
 refine UF (wriE.eq_1 ..) ?_
 refine GO (tn 6 (kj ((b.fKind : Int) == 1) (tn 4 z) z z)) (by kernel_rfl) ?_
 refine CS (fun h1 => ?_) (fun h1 => ?_)
 ·have := lenM_eq aInline b.fLine
  obtain ⟨h1a, h1o⟩ := cond_ff h1
  have h1ap := eq_of_beq h1a
  have := lenM_eq aInline b.fLine
  have h1op := eq_of_beq h1o
  refine GO (kb h1 (tn 1 z)) (by kernel_rfl) ?_
  exact EN (by kernel_rfl)
 ·have := lenM_eq aInline b.fLine
  refine GO (kb h1 (tn 3 z)) (by kernel_rfl) ?_
  refine CSe (fun h2p h2 => ?_) (fun h2p h2 => ?_)
  ·refine GO (kb h2 (tn 4 (kj (decide ((b.fLevel : Int) < 1)) z (tn 3 z) z))) (by kernel_rfl) ?_
   refine CS (fun h3 => ?_) (fun h3 => ?_)
   ·refine GO (kb h3 (tn 1 z)) (by kernel_rfl) ?_
    exact EN (by kernel_rfl)
   ·obtain ⟨h3a, h3o⟩ := cond_tt h3
    have h3ap := of_decide_eq_false h3a
    have h3op := of_decide_eq_false h3o
    refine GO (kb h3 (tn 2 (kc (chkA_to b.fAttr (by omega)) (tn 3 z)))) (by kernel_rfl) ?_
    refine CSn (fun h4p h4 => ?_) (fun h4p h4 => ?_)
    ·refine GO (kb h4 (tn 2 z)) (by kernel_rfl) ?_
     exact EN (by kernel_rfl)
    ·refine GO (kb h4 (tn 4 (kj ((b.fKind : Int) != 1) (tn 2 (hc (fun h => by have j0 := h.2; have j0p := bne_iff_ne.1 j0; exact (anyE_to b.fLine true (by omega))) z)) z z))) (by kernel_rfl) ?_
     refine CS (fun h5 => ?_) (fun h5 => ?_)
     ·obtain ⟨h5a, h5o⟩ := cond_ff h5
      have h5ap := bne_iff_ne.1 h5a
      refine GO (kb h5 (tn 1 z)) (by kernel_rfl) ?_
      exact EN (by kernel_rfl)
     ·refine GO (kb h5 (tn 2 (kc (lineE_to b.fLine (by omega)) (tn 1 z)))) (by kernel_rfl) ?_
      exact EN (by kernel_rfl)
  ·refine GO (kb h2 (tn 4 (kj ((b.fKind : Int) != 1) (tn 2 (hc (fun h => by have j0 := h.2; have j0p := bne_iff_ne.1 j0; exact (anyE_to b.fLine true (by omega))) z)) z z))) (by kernel_rfl) ?_
   refine CS (fun h6 => ?_) (fun h6 => ?_)
   ·obtain ⟨h6a, h6o⟩ := cond_ff h6
    have h6ap := bne_iff_ne.1 h6a
    refine GO (kb h6 (tn 1 z)) (by kernel_rfl) ?_
    exact EN (by kernel_rfl)
   ·refine GO (kb h6 (tn 2 (kc (lineE_to b.fLine (by omega)) (tn 1 z)))) (by kernel_rfl) ?_
    exact EN (by kernel_rfl)
def itsE (b : DBlock) : Int := cond (cond ((b.fKind : Int) == 1) ((b.fKind : Int) == 1) (cond ((b.fKind : Int) == 2) ((b.fKind : Int) == 2) ((b.fKind : Int) == 12))) (wriE b) (cond ((b.fKind : Int) == 3) (cond (cond (cond (!lineB b.fInfo) true (!trimB b.fInfo)) true (!bodyB b.fText)) 17 0) (cond ((b.fKind : Int) == 4) (cond (!bodyB b.fText) 17 (cond (closB b.fText) 5 (chkA b.fAttr))) (cond (cond ((b.fKind : Int) == 7) ((b.fKind : Int) == 7) ((b.fKind : Int) == 8)) (cond (((lenM aBlock b.fKids : Nat) : Int) == 0) 8 (cond (cond ((b.fKind : Int) == 8) (cond (decide ((b.fLevel : Int) < 0)) true (decide ((b.fLevel : Int) > 999999999))) false) 9 0)) (cond ((b.fKind : Int) == 10) (tabE b) (cond (cond ((b.fKind : Int) == 13) ((b.fKind : Int) == 13) ((b.fKind : Int) == 14)) (cond (!nameB b.fInfo) 6 (chkA b.fAttr)) (cond ((b.fKind : Int) == 15) (cond (!labelB b.fInfo) 6 (cond (cond (!lineB b.fDest) true (!lineB b.fTitle)) 17 0)) 0))))))
theorem itsE_to (b : DBlock) (hb : wBlock b ≤ 1073741824) : CallTo Tryz.prog 59 [(.av (cBlock b))] [] [] (jI (itsE b)) [] [] := by
 have hwb := wBlock_eq b
 simp only [wStr, w1] at hwb
 refine BEG (fun r : Int => (jI r)) (itsE b) Tryz.func59 (by kernel_rfl) ?_
 refine UF (itsE.eq_1 ..) ?_
 refine GO (tn 6 (ks ((b.fKind : Int) == 1) [5] z (tn 2 (ks ((b.fKind : Int) == 2) [5] z (tn 2 z) z)) z)) (by kernel_rfl) ?_
 refine CS (fun h1 => ?_) (fun h1 => ?_)
 ·refine GO (kb h1 (tn 1 (kc (wriE_to b (by omega)) (tn 1 z)))) (by kernel_rfl) ?_
  exact EN (by kernel_rfl)
 ·refine GO (kb h1 (tn 2 z)) (by kernel_rfl) ?_
  refine CSe (fun h2p h2 => ?_) (fun h2p h2 => ?_)
  ·refine GO (kb h2 (tn 2 (kc (lineB_to b.fInfo (by omega)) (tn 2 (kj (!lineB b.fInfo) z (tn 2 (hc (fun h => by have j0 := h.2; have j0n := notf j0; exact (trimB_to b.fInfo (by omega))) (tn 1 z))) (tn 1 (kj (cond (!lineB b.fInfo) true (!trimB b.fInfo)) z (tn 2 (hc (fun h => by have j0 := h.2; obtain ⟨j0a, j0o⟩ := cond_tt j0; have j0an := notf j0a; have j0on := notf j0o; exact (bodyB_to b.fText (by omega))) (tn 1 z))) z))))))) (by kernel_rfl) ?_
   refine CS (fun h3 => ?_) (fun h3 => ?_)
   ·refine GO (kb h3 (tn 1 z)) (by kernel_rfl) ?_
    exact EN (by kernel_rfl)
   ·obtain ⟨h3a, h3o⟩ := cond_tt h3
    obtain ⟨h3aa, h3ao⟩ := cond_tt h3a
    have h3aan := notf h3aa
    have h3aon := notf h3ao
    have h3on := notf h3o
    refine GO (kb h3 (tn 1 z)) (by kernel_rfl) ?_
    exact EN (by kernel_rfl)
  ·refine GO (kb h2 (tn 2 z)) (by kernel_rfl) ?_
   refine CSe (fun h4p h4 => ?_) (fun h4p h4 => ?_)
   ·refine GO (kb h4 (tn 2 (kc (bodyB_to b.fText (by omega)) (tn 1 z)))) (by kernel_rfl) ?_
    refine CS (fun h5 => ?_) (fun h5 => ?_)
    ·have h5n := nott h5
     refine GO (kb h5 (tn 1 z)) (by kernel_rfl) ?_
     exact EN (by kernel_rfl)
    ·have h5n := notf h5
     refine GO (kb h5 (tn 2 (kc (closB_to b.fText (by omega)) z))) (by kernel_rfl) ?_
     refine CS (fun h6 => ?_) (fun h6 => ?_)
     ·refine GO (kb h6 (tn 1 z)) (by kernel_rfl) ?_
      exact EN (by kernel_rfl)
     ·refine GO (kb h6 (tn 2 (kc (chkA_to b.fAttr (by omega)) (tn 1 z)))) (by kernel_rfl) ?_
      exact EN (by kernel_rfl)
   ·refine GO (kb h4 (tn 2 (ks ((b.fKind : Int) == 7) [41] z (tn 2 z) z))) (by kernel_rfl) ?_
    refine CS (fun h7 => ?_) (fun h7 => ?_)
    ·refine GO (kb h7 (tn 4 z)) (by kernel_rfl) ?_
     refine CSe (fun h8p h8 => ?_) (fun h8p h8 => ?_)
     ·have := lenM_eq aBlock b.fKids
      refine GO (kb h8 (tn 1 z)) (by kernel_rfl) ?_
      exact EN (by kernel_rfl)
     ·have := lenM_eq aBlock b.fKids
      refine GO (kb h8 (tn 4 (kj ((b.fKind : Int) == 8) (tn 4 (kj (decide ((b.fLevel : Int) < 0)) z (tn 3 z) z)) z z))) (by kernel_rfl) ?_
      refine CS (fun h9 => ?_) (fun h9 => ?_)
      ·obtain ⟨h9a, h9o⟩ := cond_ff h9
       have h9ap := eq_of_beq h9a
       refine GO (kb h9 (tn 1 z)) (by kernel_rfl) ?_
       exact EN (by kernel_rfl)
      ·refine GO (kb h9 (tn 1 z)) (by kernel_rfl) ?_
       exact EN (by kernel_rfl)
    ·refine GO (kb h7 (tn 2 z)) (by kernel_rfl) ?_
     refine CSe (fun h10p h10 => ?_) (fun h10p h10 => ?_)
     ·refine GO (kb h10 (tn 1 (kc (tabE_to b (by omega)) (tn 1 z)))) (by kernel_rfl) ?_
      exact EN (by kernel_rfl)
     ·refine GO (kb h10 (tn 2 (ks ((b.fKind : Int) == 13) [65] z (tn 2 z) z))) (by kernel_rfl) ?_
      refine CS (fun h11 => ?_) (fun h11 => ?_)
      ·refine GO (kb h11 (tn 2 (kc (rName_to b.fInfo (by unfold maxLen; omega)) (tn 1 z)))) (by kernel_rfl) ?_
       refine CS (fun h12 => ?_) (fun h12 => ?_)
       ·have h12n := nott h12
        refine GO (kb h12 (tn 1 z)) (by kernel_rfl) ?_
        exact EN (by kernel_rfl)
       ·have h12n := notf h12
        refine GO (kb h12 (tn 2 (kc (chkA_to b.fAttr (by omega)) (tn 1 z)))) (by kernel_rfl) ?_
        exact EN (by kernel_rfl)
      ·refine GO (kb h11 (tn 2 z)) (by kernel_rfl) ?_
       refine CSe (fun h13p h13 => ?_) (fun h13p h13 => ?_)
       ·refine GO (kb h13 (tn 2 (kc (labelB_to b.fInfo (by omega)) (tn 1 z)))) (by kernel_rfl) ?_
        refine CS (fun h14 => ?_) (fun h14 => ?_)
        ·have h14n := nott h14
         refine GO (kb h14 (tn 1 z)) (by kernel_rfl) ?_
         exact EN (by kernel_rfl)
        ·have h14n := notf h14
         refine GO (kb h14 (tn 2 (kc (lineB_to b.fDest (by omega)) (tn 2 (kj (!lineB b.fDest) z (tn 2 (hc (fun h => by have j0 := h.2; have j0n := notf j0; exact (lineB_to b.fTitle (by omega))) (tn 1 z))) z))))) (by kernel_rfl) ?_
         refine CS (fun h15 => ?_) (fun h15 => ?_)
         ·refine GO (kb h15 (tn 1 z)) (by kernel_rfl) ?_
          exact EN (by kernel_rfl)
         ·obtain ⟨h15a, h15o⟩ := cond_tt h15
          have h15an := notf h15a
          have h15on := notf h15o
          refine GO (kb h15 (tn 1 z)) (by kernel_rfl) ?_
          exact EN (by kernel_rfl)
       ·refine GO (kb h13 (tn 1 z)) (by kernel_rfl) ?_
        exact EN (by kernel_rfl)
end Go.Proofs.YtdaglbjgdakmcaaGreat
namespace Go.Proofs.YtdaglbjgdakmcaaGreat
open Go Go.Eng
theorem wl_take {α : Type} [Inhabited α] {w : α → Nat} : ∀ {l : List α} {i : Nat}, i < l.length → wl w (l.take (i + 1)) = wl w (l.take i) + w (el l i) ∧ wl w (l.take (i + 1)) ≤ wl w l
 | x :: l, 0, _ => by simp [wl, el]
 | x :: l, i + 1, h => by
  have := wl_take (w := w) (l := l) (i := i) (by simpa using h)
  have e : el (x :: l) (i + 1) = el l i := by simp [el]
  simp only [List.take_succ_cons, wl, e]; omega
theorem wl_take_le {α : Type} {w : α → Nat} : ∀ (l : List α) (i : Nat), wl w (l.take i) ≤ wl w l
 | [], i => by simp [wl]
 | x :: l, 0 => by simp [wl]
 | x :: l, i + 1 => by have := wl_take_le (w := w) l i; simp only [List.take_succ_cons, wl]; omega
def cntIS_L0 (rec : (List DInline) → Int) (l : List DInline) : Nat → Int → Nat → Int
 | 0, _, _ => default
 | n0 + 1, v3, v4 => cond (decide (((v4 : Nat) : Int) < ((lenM aInline l : Nat) : Int))) (cntIS_L0 rec l n0 (v3 + (rec ((el l v4).fKids))) (v4 + 1)) v3
def cntIS (rec : (List DInline) → Int) (l : List DInline) : Int := cntIS_L0 rec l ((List.length l - 0) + 1) ((lenM aInline l : Nat) : Int) 0
theorem cntI_st (rec : (List DInline) → Int) (l : List DInline) (hl : wl wInline l ≤ 1073741824) (hrec : ∀ (l' : List DInline), wl wInline l' < wl wInline l → wl wInline l' ≤ 1073741824 → CallTo Tryz.prog 53 [(jL ((l').map aInline))] [] [] (jI (rec l')) [] []) (hrb : ∀ (l' : List DInline), wl wInline l' < wl wInline l → wl wInline l' ≤ 1073741824 → 0 ≤ (rec l') ∧ (rec l') ≤ wl wInline l') : CallTo Tryz.prog 53 [(jL (l.map aInline))] [] [] (jI (cntIS rec l)) [] [] := by
 have hw_0 := wl_len (w := wInline) wInline_pos l
 refine BEG (fun r : Int => (jI r)) (cntIS rec l) Tryz.func53 (by kernel_rfl) ?_
 refine UF (cntIS.eq_1 ..) ?_
 refine GO (tn 5 z) (by kernel_rfl) ?_
 refine LP (fun N M S => ∃ v3 : Int, ∃ v4 : Nat, (0 ≤ v3) ∧ ((v3 : Int) + v4 ≤ l.length + wl wInline (l.take v4)) ∧ (List.length l - v4 < N) ∧ M = cntIS_L0 rec l N v3 v4 ∧ S = (sx 22 [(0, (jL (l.map aInline))), (3, (jI v3)), (4, (jI ((v4 : Nat) : Int)))] [] [])) (by kernel_rfl) ⟨_, _, by first | omega | assumption | (simp only [lenM_eq]; omega) | (simp; done) | (simp; omega), by first | omega | assumption | (simp only [lenM_eq]; omega) | (simp; done) | (simp; omega), by omega, rfl, rfl⟩ (WK (by kernel_rfl)) ?_
 rintro n0 M S ⟨v3, v4, hv, hv2, hF0, rfl, rfl⟩
 obtain ⟨n0, rfl⟩ : ∃ k, n0 = k + 1 := ⟨n0 - 1, by omega⟩
 refine UF (cntIS_L0.eq_2 ..) ?_
 refine GO (tn 4 z) (by kernel_rfl) ?_
 refine CSd (fun h1p h1 => ?_) (fun h1p h1 => ?_)
 ·have := lenM_eq aInline l
  have hce := wl_el (w := wInline) (l := l) (i := v4) (by omega)
  have hcw := wInline_eq (el l v4)
  simp only [wStr, w1] at hcw
  have htk := wl_take (w := wInline) (l := l) (i := v4) (by omega)
  have := hrb ((el l v4).fKids) (by omega) (by omega)
  refine GO (kb h1 (tn 3 (ke (el_aInline l v4 (by omega)) (tn 2 (kc (hrec ((el l v4).fKids) (by omega) (by omega)) (kn (wrE (v3 + (rec ((el l v4).fKids))) (v3 + (rec ((el l v4).fKids))) (by omega)) (tn 2 (kn (wrE (((v4 : Nat) : Int) + 1) ((v4 + 1 : Nat) : Int) (by omega)) (tn 1 z))))))))) (by kernel_rfl) ?_
  exact AG ⟨_, _, by first | omega | assumption | (simp only [lenM_eq]; omega) | (simp; done) | (simp; omega), by first | omega | assumption | (simp only [lenM_eq]; omega) | (simp; done) | (simp; omega), by omega, rfl, rfl⟩ (WK (by kernel_rfl)) (by kernel_rfl) (Nat.lt_succ_self _)
 ·have := lenM_eq aInline l
  refine GO (kb h1 z) (by kernel_rfl) ?_
  refine OUT (tn 2 z) (by kernel_rfl) ?_
  exact EN (by kernel_rfl)
def cntIN : Nat → (List DInline) → Int
 | 0, _ => default
 | n + 1, l => cntIS (cntIN n) l
theorem cntIS_L0_bd (rec : (List DInline) → Int) (l : List DInline) (hr : ∀ l' : List DInline, wl wInline l' < wl wInline l → 0 ≤ rec l' ∧ rec l' ≤ wl wInline l') : ∀ (n : Nat) (v3 : Int) (v4 : Nat), 0 ≤ v3 → v3 + v4 ≤ l.length + wl wInline (l.take v4) → v4 ≤ l.length → 0 ≤ cntIS_L0 rec l n v3 v4 ∧ cntIS_L0 rec l n v3 v4 ≤ wl wInline l
 | 0, v3, v4, h1, h2, h3 => by show (0 : Int) ≤ 0 ∧ (0 : Int) ≤ wl wInline l; omega
 | n + 1, v3, v4, h1, h2, h3 => by
  rw [cntIS_L0]
  have hlm := lenM_eq aInline l
  refine condP (fun r : Int => 0 ≤ r ∧ r ≤ wl wInline l) (fun q => ?_) (fun q => ?_)
  ·have q1 := of_decide_eq_true q
   have hce := wl_el (w := wInline) (l := l) (i := v4) (by omega)
   have hcw := wInline_eq (el l v4)
   have htk := wl_take (w := wInline) (l := l) (i := v4) (by omega)
   have hq := hr (el l v4).fKids (by omega)
   exact cntIS_L0_bd rec l hr n _ _ (by omega) (by omega) (by omega)
  ·have q1 := of_decide_eq_false q
   have hq := wl_take_le (w := wInline) l v4
   omega
theorem cntIN_bd : ∀ (n : Nat) (l : List DInline), wl wInline l < n → wl wInline l ≤ 1073741824 → 0 ≤ cntIN n l ∧ cntIN n l ≤ wl wInline l
 | 0, l, h, _ => by omega
 | n + 1, l, h, hl => by
  rw [cntIN, cntIS]
  exact cntIS_L0_bd _ l (fun l' q => cntIN_bd n l' (by omega) (by omega)) _ _ _ (by omega) (by simp only [lenM_eq]; omega) (by omega)
theorem cntIN_to : ∀ (n : Nat) (l : List DInline), wl wInline l < n → wl wInline l ≤ 1073741824 → CallTo Tryz.prog 53 [(jL (l.map aInline))] [] [] (jI (cntIN n l)) [] []
 | 0, l, h0, _ => absurd h0 (Nat.not_lt_zero _)
 | n + 1, l, h0, hl => by
  exact cntI_st (cntIN n) l hl (fun l' q1 hl' => cntIN_to n l' (by omega) hl') (fun l' q1 hl' => cntIN_bd n l' (by omega) hl')
def cntI (l : List DInline) : Int := cntIN (wl wInline l + 1) l
theorem cntI_to (l : List DInline) (hl : wl wInline l ≤ 1073741824) : CallTo Tryz.prog 53 [(jL (l.map aInline))] [] [] (jI (cntI l)) [] [] := cntIN_to _ l (Nat.lt_succ_self _) hl
theorem cntI_bd (l : List DInline) (hl : wl wInline l ≤ 1073741824) : 0 ≤ (cntI l) ∧ (cntI l) ≤ wl wInline l := cntIN_bd _ l (Nat.lt_succ_self _) hl
def szsIS_L0 (rec : (List DBlock) → Int) (l : List DBlock) : Nat → Int → Nat → Int
 | 0, _, _ => default
 | n0 + 1, v3, v4 => cond (decide (((v4 : Nat) : Int) < ((lenM aBlock l : Nat) : Int))) (szsIS_L0 rec l n0 (v3 + ((cntI ((el l v4).fLine)) + (rec ((el l v4).fKids)))) (v4 + 1)) v3
def szsIS (rec : (List DBlock) → Int) (l : List DBlock) : Int := szsIS_L0 rec l ((List.length l - 0) + 1) ((lenM aBlock l : Nat) : Int) 0
theorem szsI_st (rec : (List DBlock) → Int) (l : List DBlock) (hl : wl wBlock l ≤ 1073741824) (hrec : ∀ (l' : List DBlock), wl wBlock l' < wl wBlock l → wl wBlock l' ≤ 1073741824 → CallTo Tryz.prog 33 [(jL ((l').map aBlock))] [] [] (jI (rec l')) [] []) (hrb : ∀ (l' : List DBlock), wl wBlock l' < wl wBlock l → wl wBlock l' ≤ 1073741824 → 0 ≤ (rec l') ∧ (rec l') ≤ wl wBlock l') : CallTo Tryz.prog 33 [(jL (l.map aBlock))] [] [] (jI (szsIS rec l)) [] [] := by
 have hw_0 := wl_len (w := wBlock) wBlock_pos l
 refine BEG (fun r : Int => (jI r)) (szsIS rec l) Tryz.func33 (by kernel_rfl) ?_
 refine UF (szsIS.eq_1 ..) ?_
 refine GO (tn 5 z) (by kernel_rfl) ?_
 refine LP (fun N M S => ∃ v3 : Int, ∃ v4 : Nat, (0 ≤ v3) ∧ ((v3 : Int) + v4 ≤ l.length + wl wBlock (l.take v4)) ∧ (List.length l - v4 < N) ∧ M = szsIS_L0 rec l N v3 v4 ∧ S = (sx 29 [(0, (jL (l.map aBlock))), (3, (jI v3)), (4, (jI ((v4 : Nat) : Int)))] [] [])) (by kernel_rfl) ⟨_, _, by first | omega | assumption | (simp only [lenM_eq]; omega) | (simp; done) | (simp; omega), by first | omega | assumption | (simp only [lenM_eq]; omega) | (simp; done) | (simp; omega), by omega, rfl, rfl⟩ (WK (by kernel_rfl)) ?_
 rintro n0 M S ⟨v3, v4, hv, hv2, hF0, rfl, rfl⟩
 obtain ⟨n0, rfl⟩ : ∃ k, n0 = k + 1 := ⟨n0 - 1, by omega⟩
 refine UF (szsIS_L0.eq_2 ..) ?_
 refine GO (tn 4 z) (by kernel_rfl) ?_
 refine CSd (fun h1p h1 => ?_) (fun h1p h1 => ?_)
 ·have := lenM_eq aBlock l
  have hce := wl_el (w := wBlock) (l := l) (i := v4) (by omega)
  have hcw := wBlock_eq (el l v4)
  simp only [wStr, w1] at hcw
  have htk := wl_take (w := wBlock) (l := l) (i := v4) (by omega)
  refine GO (kb h1 z) (by kernel_rfl) ?_
  have := cntI_bd ((el l v4).fLine) (by omega)
  have := hrb ((el l v4).fKids) (by omega) (by omega)
  have d2 := (el_aBlock l v4 (by omega))
  have d3 := (cntI_to ((el l v4).fLine) (by omega))
  have d4 := (el_aBlock l v4 (by omega))
  have d5 := (hrec ((el l v4).fKids) (by omega) (by omega))
  have d6 := wrE ((cntI ((el l v4).fLine)) + (rec ((el l v4).fKids))) ((cntI ((el l v4).fLine)) + (rec ((el l v4).fKids))) (by omega)
  have d7 := wrE (v3 + ((cntI ((el l v4).fLine)) + (rec ((el l v4).fKids)))) (v3 + ((cntI ((el l v4).fLine)) + (rec ((el l v4).fKids)))) (by omega)
  refine DR3 (tn 3 (ko (eO d2) (kp d2 (tn 2 (ko (cO d3) (kp d3 (tn 3 (ko (eO d4) (kp d4 (tn 2 (ko (cO d5) (kp d5 (tn 1 (ko (nO d6) (kp d6 (ko (nO d7) (kp d7 (tn 2 (kn (wrE (((v4 : Nat) : Int) + 1) ((v4 + 1 : Nat) : Int) (by omega)) (tn 1 z)))))))))))))))))))) (by kernel_rfl) (by kernel_rfl) (by kernel_rfl) ?_
  exact AG ⟨_, _, by first | omega | assumption | (simp only [lenM_eq]; omega) | (simp; done) | (simp; omega), by first | omega | assumption | (simp only [lenM_eq]; omega) | (simp; done) | (simp; omega), by omega, rfl, rfl⟩ (WK (by kernel_rfl)) (by kernel_rfl) (Nat.lt_succ_self _)
 ·have := lenM_eq aBlock l
  refine GO (kb h1 z) (by kernel_rfl) ?_
  refine OUT (tn 2 z) (by kernel_rfl) ?_
  exact EN (by kernel_rfl)
def szsIN : Nat → (List DBlock) → Int
 | 0, _ => default
 | n + 1, l => szsIS (szsIN n) l
theorem szsIS_L0_bd (rec : (List DBlock) → Int) (l : List DBlock) (hl : wl wBlock l ≤ 1073741824) (hr : ∀ l' : List DBlock, wl wBlock l' < wl wBlock l → 0 ≤ rec l' ∧ rec l' ≤ wl wBlock l') : ∀ (n : Nat) (v3 : Int) (v4 : Nat), 0 ≤ v3 → v3 + v4 ≤ l.length + wl wBlock (l.take v4) → v4 ≤ l.length → 0 ≤ szsIS_L0 rec l n v3 v4 ∧ szsIS_L0 rec l n v3 v4 ≤ wl wBlock l
 | 0, v3, v4, h1, h2, h3 => by show (0 : Int) ≤ 0 ∧ (0 : Int) ≤ wl wBlock l; omega
 | n + 1, v3, v4, h1, h2, h3 => by
  rw [szsIS_L0]
  have hlm := lenM_eq aBlock l
  refine condP (fun r : Int => 0 ≤ r ∧ r ≤ wl wBlock l) (fun q => ?_) (fun q => ?_)
  ·have q1 := of_decide_eq_true q
   have hce := wl_el (w := wBlock) (l := l) (i := v4) (by omega)
   have hcw := wBlock_eq (el l v4)
   have htk := wl_take (w := wBlock) (l := l) (i := v4) (by omega)
   have hq := hr (el l v4).fKids (by omega)
   have hc := cntI_bd (el l v4).fLine (by omega)
   exact szsIS_L0_bd rec l hl hr n _ _ (by omega) (by omega) (by omega)
  ·have q1 := of_decide_eq_false q
   have hq := wl_take_le (w := wBlock) l v4
   omega
theorem szsIN_bd : ∀ (n : Nat) (l : List DBlock), wl wBlock l < n → wl wBlock l ≤ 1073741824 → 0 ≤ szsIN n l ∧ szsIN n l ≤ wl wBlock l
 | 0, l, h, _ => by omega
 | n + 1, l, h, hl => by
  rw [szsIN, szsIS]
  exact szsIS_L0_bd _ l hl (fun l' q => szsIN_bd n l' (by omega) (by omega)) _ _ _ (by omega) (by simp only [lenM_eq]; omega) (by omega)
theorem szsIN_to : ∀ (n : Nat) (l : List DBlock), wl wBlock l < n → wl wBlock l ≤ 1073741824 → CallTo Tryz.prog 33 [(jL (l.map aBlock))] [] [] (jI (szsIN n l)) [] []
 | 0, l, h0, _ => absurd h0 (Nat.not_lt_zero _)
 | n + 1, l, h0, hl => by
  exact szsI_st (szsIN n) l hl (fun l' q1 hl' => szsIN_to n l' (by omega) hl') (fun l' q1 hl' => szsIN_bd n l' (by omega) hl')
def szsI (l : List DBlock) : Int := szsIN (wl wBlock l + 1) l
theorem szsI_to (l : List DBlock) (hl : wl wBlock l ≤ 1073741824) : CallTo Tryz.prog 33 [(jL (l.map aBlock))] [] [] (jI (szsI l)) [] [] := szsIN_to _ l (Nat.lt_succ_self _) hl
theorem szsI_bd (l : List DBlock) (hl : wl wBlock l ≤ 1073741824) : 0 ≤ (szsI l) ∧ (szsI l) ≤ wl wBlock l := szsIN_bd _ l (Nat.lt_succ_self _) hl
def sizeI (d : DDoc) : Int := szsI d.fBlocks
theorem sizeI_to (d : DDoc) (hd : wDoc d ≤ 1073741824) : CallTo Tryz.prog 15 [(.av (cDoc d))] [] [] (jI (sizeI d)) [] [] := by
 have hwd := wDoc_eq d
 refine BEG (fun r : Int => (jI r)) (sizeI d) Tryz.func15 (by kernel_rfl) ?_
 refine UF (sizeI.eq_1 ..) ?_
 have := szsI_bd d.fBlocks (by omega)
 refine GO (tn 4 (kc (szsI_to d.fBlocks (by omega)) (tn 1 z))) (by kernel_rfl) ?_
 exact EN (by kernel_rfl)
def blsES_L0 (rec : (List DBlock) → Int → Int → Int) (l : List DBlock) (inn : Int) (depth : Int) : Nat → Nat → Int
 | 0, _ => default
 | n0 + 1, v7 => cond (decide (((v7 : Nat) : Int) < ((lenM aBlock l : Nat) : Int))) (cond (decide ((depth : Int) > 15)) 11 (cond (cond (!blkF (el l v7)) true (!placeB ((el l v7).fKind) inn)) 5 (cond ((itsE (el l v7) : Int) != 0) (itsE (el l v7)) (cond ((rec ((el l v7).fKids) ((el l v7).fKind) (depth + 1) : Int) != 0) (rec ((el l v7).fKids) ((el l v7).fKind) (depth + 1)) (blsES_L0 rec l inn depth n0 (v7 + 1)))))) 0
def blsES (rec : (List DBlock) → Int → Int → Int) (l : List DBlock) (inn : Int) (depth : Int) : Int := blsES_L0 rec l inn depth ((List.length l - 0) + 1) 0
theorem blsE_st (rec : (List DBlock) → Int → Int → Int) (l : List DBlock) (inn : Int) (depth : Int) (hl : wl wBlock l ≤ 1073741824) (hd : 0 ≤ depth) (hd2 : depth ≤ 100) (hrec : ∀ (l' : List DBlock) (inn' : Int) (depth' : Int), wl wBlock l' < wl wBlock l → wl wBlock l' ≤ 1073741824 → 0 ≤ depth' → depth' ≤ 100 → CallTo Tryz.prog 37 [(jL ((l').map aBlock)), (jI inn'), (jI depth')] [] [] (jI (rec l' inn' depth')) [] []) : CallTo Tryz.prog 37 [(jL (l.map aBlock)), (jI inn), (jI depth)] [] [] (jI (blsES rec l inn depth)) [] [] := by
 have hw_0 := wl_len (w := wBlock) wBlock_pos l
 refine BEG (fun r : Int => (jI r)) (blsES rec l inn depth) Tryz.func37 (by kernel_rfl) ?_
 refine UF (blsES.eq_1 ..) ?_
 refine GO (tn 2 z) (by kernel_rfl) ?_
 refine LP (fun N M S => ∃ v7 : Nat, (List.length l - v7 < N) ∧ M = blsES_L0 rec l inn depth N v7 ∧ S = (sx 47 [(0, (jL (l.map aBlock))), (1, (jI inn)), (2, (jI depth)), (7, (jI ((v7 : Nat) : Int)))] [] [])) (by kernel_rfl) ⟨_, by omega, rfl, rfl⟩ (WK (by kernel_rfl)) ?_
 rintro n0 M S ⟨v7, hF0, rfl, rfl⟩
 obtain ⟨n0, rfl⟩ : ∃ k, n0 = k + 1 := ⟨n0 - 1, by omega⟩
 refine UF (blsES_L0.eq_2 ..) ?_
 refine GO (tn 4 z) (by kernel_rfl) ?_
 refine CSd (fun h1p h1 => ?_) (fun h1p h1 => ?_)
 ·have := lenM_eq aBlock l
  have hce := wl_el (w := wBlock) (l := l) (i := v7) (by omega)
  have hcw := wBlock_eq (el l v7)
  simp only [wStr, w1] at hcw
  refine GO (kb h1 (tn 2 (ke (el_aBlock l v7 (by omega)) (tn 5 z)))) (by kernel_rfl) ?_
  refine CSd (fun h2p h2 => ?_) (fun h2p h2 => ?_)
  ·refine GO (kb h2 (tn 1 z)) (by kernel_rfl) ?_
   refine OUT z (by kernel_rfl) ?_
   exact EN (by kernel_rfl)
  ·refine GO (kb h2 (tn 1 (kc (blkF_to (el l v7)) (tn 2 (kj (!blkF (el l v7)) z (tn 3 (kc (placeB_to ((el l v7).fKind) inn) (tn 1 z))) z))))) (by kernel_rfl) ?_
   refine CS (fun h3 => ?_) (fun h3 => ?_)
   ·refine GO (kb h3 (tn 1 z)) (by kernel_rfl) ?_
    refine OUT z (by kernel_rfl) ?_
    exact EN (by kernel_rfl)
   ·obtain ⟨h3a, h3o⟩ := cond_tt h3
    have h3an := notf h3a
    have h3on := notf h3o
    refine GO (kb h3 (tn 1 (kc (itsE_to (el l v7) (by omega)) (tn 3 z)))) (by kernel_rfl) ?_
    refine CSn (fun h4p h4 => ?_) (fun h4p h4 => ?_)
    ·refine GO (kb h4 (tn 2 z)) (by kernel_rfl) ?_
     refine OUT z (by kernel_rfl) ?_
     exact EN (by kernel_rfl)
    ·refine GO (kb h4 (tn 5 (kn (wrE (depth + 1) (depth + 1) (by omega)) (kc (hrec ((el l v7).fKids) ((el l v7).fKind) (depth + 1) (by omega) (by omega) (by omega) (by omega)) (tn 3 z))))) (by kernel_rfl) ?_
     refine CSn (fun h5p h5 => ?_) (fun h5p h5 => ?_)
     ·refine GO (kb h5 (tn 2 z)) (by kernel_rfl) ?_
      refine OUT z (by kernel_rfl) ?_
      exact EN (by kernel_rfl)
     ·refine GO (kb h5 (tn 1 (kn (wrE (((v7 : Nat) : Int) + 1) ((v7 + 1 : Nat) : Int) (by omega)) (tn 1 z)))) (by kernel_rfl) ?_
      exact AG ⟨_, by omega, rfl, rfl⟩ (WK (by kernel_rfl)) (by kernel_rfl) (Nat.lt_succ_self _)
 ·have := lenM_eq aBlock l
  refine GO (kb h1 z) (by kernel_rfl) ?_
  refine OUT (tn 1 z) (by kernel_rfl) ?_
  exact EN (by kernel_rfl)
def blsEN : Nat → (List DBlock) → Int → Int → Int
 | 0, _, _, _ => default
 | n + 1, l, inn, depth => blsES (blsEN n) l inn depth
theorem blsEN_to : ∀ (n : Nat) (l : List DBlock) (inn : Int) (depth : Int), wl wBlock l < n → wl wBlock l ≤ 1073741824 → 0 ≤ depth → depth ≤ 100 → CallTo Tryz.prog 37 [(jL (l.map aBlock)), (jI inn), (jI depth)] [] [] (jI (blsEN n l inn depth)) [] []
 | 0, l, inn, depth, h0, _, _, _ => absurd h0 (Nat.not_lt_zero _)
 | n + 1, l, inn, depth, h0, hl, hd, hd2 => by
  exact blsE_st (blsEN n) l inn depth hl hd hd2 (fun l' inn' depth' q1 hl' hd' hd2' => blsEN_to n l' inn' depth' (by omega) hl' hd' hd2')
def blsE (l : List DBlock) (inn : Int) (depth : Int) : Int := blsEN (wl wBlock l + 1) l inn depth
theorem blsE_to (l : List DBlock) (inn : Int) (depth : Int) (hl : wl wBlock l ≤ 1073741824) (hd : 0 ≤ depth) (hd2 : depth ≤ 100) : CallTo Tryz.prog 37 [(jL (l.map aBlock)), (jI inn), (jI depth)] [] [] (jI (blsE l inn depth)) [] [] := blsEN_to _ l inn depth (Nat.lt_succ_self _) hl hd hd2
def blksE (l : List DBlock) : Int := blsE l 0 0
theorem blksE_to (l : List DBlock) (hl : wl wBlock l ≤ 1073741824) : CallTo Tryz.prog 19 [(jL (l.map aBlock))] [] [] (jI (blksE l)) [] [] := by
 refine BEG (fun r : Int => (jI r)) (blksE l) Tryz.func19 (by kernel_rfl) ?_
 refine UF (blksE.eq_1 ..) ?_
 refine GO (tn 2 (kc (blsE_to l 0 0 (by omega) (by omega) (by omega)) (tn 1 z))) (by kernel_rfl) ?_
 exact EN (by kernel_rfl)
def chkD_L1 (d : DDoc) (v3 : Nat) (k0 : Nat → Int) : Nat → Nat → Int
 | 0, _ => default
 | n1 + 1, w5 => cond (decide (((w5 : Nat) : Int) < ((v3 : Nat) : Int))) (cond (eqs ((el d.fMeta w5).fKey) ((el d.fMeta v3).fKey)) 7 (chkD_L1 d v3 k0 n1 (w5 + 1))) (k0 (v3 + 1))
def chkD_L0 (d : DDoc) : Nat → Nat → Int
 | 0, _ => default
 | n0 + 1, v3 => cond (decide (((v3 : Nat) : Int) < ((lenM aPair d.fMeta : Nat) : Int))) (cond (!nameB ((el d.fMeta v3).fKey)) 6 (cond (cond (!lineB ((el d.fMeta v3).fValue)) true (!trimB ((el d.fMeta v3).fValue))) 17 (chkD_L1 d v3 (chkD_L0 d n0) ((v3 - 0) + 1) 0))) (blksE d.fBlocks)
def chkD (d : DDoc) : Int := cond (cond (decide ((sizeI d : Int) > 32768)) true (decide (((lenM aPair d.fMeta : Nat) : Int) > 64))) 3 (chkD_L0 d ((List.length d.fMeta - 0) + 1) 0)
theorem chkD_to (d : DDoc) (hd : wDoc d ≤ 1073741824) : CallTo Tryz.prog 7 [(.av (cDoc d))] [] [] (jI (chkD d)) [] [] := by
 have hwd := wDoc_eq d
 have hw_0 := wl_len (w := wPair) wPair_pos d.fMeta
 refine BEG (fun r : Int => (jI r)) (chkD d) Tryz.func7 (by kernel_rfl) ?_
 refine UF (chkD.eq_1 ..) ?_
 refine GO (tn 3 (kc (sizeI_to d (by omega)) (tn 2 (kj (decide ((sizeI d : Int) > 32768)) z (tn 4 z) z)))) (by kernel_rfl) ?_
 refine CS (fun h1 => ?_) (fun h1 => ?_)
 ·have := lenM_eq aPair d.fMeta
  refine GO (kb h1 (tn 1 z)) (by kernel_rfl) ?_
  exact EN (by kernel_rfl)
 ·have := lenM_eq aPair d.fMeta
  obtain ⟨h1a, h1o⟩ := cond_tt h1
  have h1ap := of_decide_eq_false h1a
  have := lenM_eq aPair d.fMeta
  have h1op := of_decide_eq_false h1o
  refine GO (kb h1 (tn 1 z)) (by kernel_rfl) ?_
  refine LP (fun N M S => ∃ v3 : Nat, (List.length d.fMeta - v3 < N) ∧ M = chkD_L0 d N v3 ∧ S = (sx 58 [(1, (.ptr 1 0)), (3, (jI ((v3 : Nat) : Int)))] [(1, (.cells 25 (sDoc d)))] [])) (by kernel_rfl) ⟨_, by omega, rfl, rfl⟩ (WK (by kernel_rfl)) ?_
  rintro n0 M S ⟨v3, hF0, rfl, rfl⟩
  obtain ⟨n0, rfl⟩ : ∃ k, n0 = k + 1 := ⟨n0 - 1, by omega⟩
  refine UF (chkD_L0.eq_2 ..) ?_
  refine GO (tn 5 z) (by kernel_rfl) ?_
  refine CSd (fun h2p h2 => ?_) (fun h2p h2 => ?_)
  ·have := lenM_eq aPair d.fMeta
   have hce := wl_el (w := wPair) (l := d.fMeta) (i := v3) (by omega)
   simp only [wPair, wStr] at hce
   refine GO (kb h2 (tn 3 (ke (el_aPair d.fMeta v3 (by omega)) (tn 5 (kc (rName_to ((el d.fMeta v3).fKey) (by unfold maxLen; omega)) (tn 1 z)))))) (by kernel_rfl) ?_
   refine CS (fun h3 => ?_) (fun h3 => ?_)
   ·have h3n := nott h3
    refine GO (kb h3 (tn 1 z)) (by kernel_rfl) ?_
    refine OUT z (by kernel_rfl) ?_
    exact EN (by kernel_rfl)
   ·have h3n := notf h3
    refine GO (kb h3 (tn 2 (kc (lineB_to ((el d.fMeta v3).fValue) (by omega)) (tn 2 (kj (!lineB ((el d.fMeta v3).fValue)) z (tn 2 (hc (fun h => by have j0 := h.2; have j0n := notf j0; exact (trimB_to ((el d.fMeta v3).fValue) (by omega))) (tn 1 z))) z))))) (by kernel_rfl) ?_
    refine CS (fun h4 => ?_) (fun h4 => ?_)
    ·refine GO (kb h4 (tn 1 z)) (by kernel_rfl) ?_
     refine OUT z (by kernel_rfl) ?_
     exact EN (by kernel_rfl)
    ·obtain ⟨h4a, h4o⟩ := cond_tt h4
     have h4an := notf h4a
     have h4on := notf h4o
     refine GO (kb h4 (tn 1 z)) (by kernel_rfl) ?_
     refine LP (fun N M S => ∃ w5 : Nat, (v3 - w5 < N) ∧ M = chkD_L1 d v3 (chkD_L0 d n0) N w5 ∧ S = (sx 58 [(1, (.ptr 1 0)), (3, (jI ((v3 : Nat) : Int))), (4, (.ptr 4 0)), (5, (jI ((w5 : Nat) : Int)))] [(4, (.cells 43 (sPair (el d.fMeta v3)))), (1, (.cells 25 (sDoc d)))] [])) (by kernel_rfl) ⟨_, by omega, rfl, rfl⟩ (WK (by kernel_rfl)) ?_
     rintro n1 M S ⟨w5, hF1, rfl, rfl⟩
     obtain ⟨n1, rfl⟩ : ∃ k, n1 = k + 1 := ⟨n1 - 1, by omega⟩
     refine UF (chkD_L1.eq_2 ..) ?_
     refine GO (tn 3 z) (by kernel_rfl) ?_
     refine CSd (fun h5p h5 => ?_) (fun h5p h5 => ?_)
     ·refine GO (kb h5 z) (by kernel_rfl) ?_
      have d6 := (el_aPair d.fMeta w5 (by omega))
      refine DR3 (tn 3 (ko (eO d6) (kp d6 (tn 5 z)))) (by kernel_rfl) (by kernel_rfl) (by kernel_rfl) ?_
      refine CS (fun h7 => ?_) (fun h7 => ?_)
      ·refine GO (kb h7 (tn 1 z)) (by kernel_rfl) ?_
       refine OUT z (by kernel_rfl) ?_
       refine OUT z (by kernel_rfl) ?_
       exact EN (by kernel_rfl)
      ·refine GO (kb h7 (tn 1 (kn (wrE (((w5 : Nat) : Int) + 1) ((w5 + 1 : Nat) : Int) (by omega)) (tn 1 z)))) (by kernel_rfl) ?_
       exact AG ⟨_, by omega, rfl, rfl⟩ (WK (by kernel_rfl)) (by kernel_rfl) (Nat.lt_succ_self _)
     ·refine GO (kb h5 z) (by kernel_rfl) ?_
      refine OUT (tn 1 (kn (wrE (((v3 : Nat) : Int) + 1) ((v3 + 1 : Nat) : Int) (by omega)) (tn 1 z))) (by kernel_rfl) ?_
      exact AG ⟨_, by omega, rfl, rfl⟩ (WK (by kernel_rfl)) (by kernel_rfl) (Nat.lt_succ_self _)
  ·have := lenM_eq aPair d.fMeta
   refine GO (kb h2 z) (by kernel_rfl) ?_
   refine OUT (tn 2 (kc (blksE_to d.fBlocks (by omega)) (tn 1 z))) (by kernel_rfl) ?_
   exact EN (by kernel_rfl)
end Go.Proofs.YtdaglbjgdakmcaaGreat
namespace Go.Proofs.YtdaglbjgdakmcaaGreat
open Go Go.Eng
def longB_L1 (a : DAttr) (v3 : Nat) (v4 : Nat) (k0 : Nat → Nat → Bool) : Nat → Nat → Nat → Bool
 | 0, _, _ => default
 | n1 + 1, w3, w5 => cond (decide (((w5 : Nat) : Int) < ((lenM aPair a.fPairs : Nat) : Int))) (longB_L1 a v3 v4 k0 n1 (w3 + ByteArray.size ((el a.fPairs w5).fKey) + ByteArray.size ((el a.fPairs w5).fValue)) (w5 + 1)) (decide (((w3 : Nat) : Int) > 600))
def longB_L0 (a : DAttr) : Nat → Nat → Nat → Bool
 | 0, _, _ => default
 | n0 + 1, v3, v4 => cond (decide (((v4 : Nat) : Int) < ((lenM strAV a.fClasses : Nat) : Int))) (longB_L0 a n0 (v3 + ByteArray.size (el a.fClasses v4)) (v4 + 1)) (longB_L1 a v3 v4 (longB_L0 a n0) ((List.length a.fPairs - 0) + 1) v3 0)
def longB (a : DAttr) : Bool := cond (cond (decide (((lenM strAV a.fClasses : Nat) : Int) > 40)) true (decide (((lenM aPair a.fPairs : Nat) : Int) > 40))) true (longB_L0 a ((List.length a.fClasses - 0) + 1) (ByteArray.size a.fID) 0)
theorem longB_to (a : DAttr) (ha : wAttr a ≤ 1073741824) : CallTo Tryz.prog 31 [(.av (cAttr a))] [] [] (jB (longB a)) [] [] := by
 have hwa := wAttr_eq a
 simp only [wStr] at hwa
 refine BEG (fun r : Bool => (jB r)) (longB a) Tryz.func31 (by kernel_rfl) ?_
 refine UF (longB.eq_1 ..) ?_
 refine GO (tn 11 (kj (decide (((lenM strAV a.fClasses : Nat) : Int) > 40)) z (tn 4 z) z)) (by kernel_rfl) ?_
 refine CS (fun h1 => ?_) (fun h1 => ?_)
 ·have := lenM_eq strAV a.fClasses
  have := lenM_eq aPair a.fPairs
  refine GO (kb h1 (tn 1 z)) (by kernel_rfl) ?_
  exact EN (by kernel_rfl)
 ·have := lenM_eq strAV a.fClasses
  have := lenM_eq aPair a.fPairs
  obtain ⟨h1a, h1o⟩ := cond_tt h1
  have := lenM_eq strAV a.fClasses
  have h1ap := of_decide_eq_false h1a
  have := lenM_eq aPair a.fPairs
  have h1op := of_decide_eq_false h1o
  refine GO (kb h1 (tn 1 z)) (by kernel_rfl) ?_
  refine LP (fun N M S => ∃ v3 : Nat, ∃ v4 : Nat, (v3 ≤ 1073741824 + v4 * 1073741824) ∧ (v4 ≤ a.fClasses.length) ∧ (List.length a.fClasses - v4 < N) ∧ M = longB_L0 a N v3 v4 ∧ S = (sx 60 [(1, (.ptr 1 0)), (3, (jI ((v3 : Nat) : Int))), (4, (jI ((v4 : Nat) : Int)))] [(1, (.cells 38 (sAttr a)))] [])) (by kernel_rfl) ⟨_, _, by first | omega | assumption | (simp only [lenM_eq]; omega) | (simp; done) | (simp; omega), by first | omega | assumption | (simp only [lenM_eq]; omega) | (simp; done) | (simp; omega), by omega, rfl, rfl⟩ (WK (by kernel_rfl)) ?_
  rintro n0 M S ⟨v3, v4, hv, hu, hF0, rfl, rfl⟩
  obtain ⟨n0, rfl⟩ : ∃ k, n0 = k + 1 := ⟨n0 - 1, by omega⟩
  refine UF (longB_L0.eq_2 ..) ?_
  refine GO (tn 5 z) (by kernel_rfl) ?_
  refine CSd (fun h2p h2 => ?_) (fun h2p h2 => ?_)
  ·have := lenM_eq strAV a.fClasses
   have hce := wl_el (w := wStr) (l := a.fClasses) (i := v4) (by omega)
   simp only [wStr] at hce
   refine GO (kb h2 (tn 4 (ke (el_strAV a.fClasses v4 (by omega)) (tn 2 (kn (wrE (((v3 : Nat) : Int) + ((ByteArray.size (el a.fClasses v4) : Nat) : Int)) ((v3 + ByteArray.size (el a.fClasses v4) : Nat) : Int) (by omega)) (tn 2 (kn (wrE (((v4 : Nat) : Int) + 1) ((v4 + 1 : Nat) : Int) (by omega)) (tn 1 z)))))))) (by kernel_rfl) ?_
   exact AG ⟨_, _, by first | omega | assumption | (simp only [lenM_eq]; omega) | (simp; done) | (simp; omega), by first | omega | assumption | (simp only [lenM_eq]; omega) | (simp; done) | (simp; omega), by omega, rfl, rfl⟩ (WK (by kernel_rfl)) (by kernel_rfl) (Nat.lt_succ_self _)
  ·have := lenM_eq strAV a.fClasses
   refine GO (kb h2 z) (by kernel_rfl) ?_
   refine OUT (tn 1 z) (by kernel_rfl) ?_
   refine LP (fun N M S => ∃ w3 : Nat, ∃ w5 : Nat, (w3 ≤ 50 * 1073741824 + w5 * 2147483648) ∧ (List.length a.fPairs - w5 < N) ∧ M = longB_L1 a v3 v4 (longB_L0 a n0) N w3 w5 ∧ S = (sx 60 [(1, (.ptr 1 0)), (3, (jI ((w3 : Nat) : Int))), (5, (jI ((w5 : Nat) : Int)))] [(1, (.cells 38 (sAttr a)))] [])) (by kernel_rfl) ⟨_, _, by first | omega | assumption | (simp only [lenM_eq]; omega) | (simp; done) | (simp; omega), by omega, rfl, rfl⟩ (WK (by kernel_rfl)) ?_
   rintro n1 M S ⟨w3, w5, hw, hF1, rfl, rfl⟩
   obtain ⟨n1, rfl⟩ : ∃ k, n1 = k + 1 := ⟨n1 - 1, by omega⟩
   refine UF (longB_L1.eq_2 ..) ?_
   refine GO (tn 5 z) (by kernel_rfl) ?_
   refine CSd (fun h3p h3 => ?_) (fun h3p h3 => ?_)
   ·have := lenM_eq aPair a.fPairs
    have hce := wl_el (w := wPair) (l := a.fPairs) (i := w5) (by omega)
    simp only [wPair, wStr] at hce
    refine GO (kb h3 z) (by kernel_rfl) ?_
    have d4 := (el_aPair a.fPairs w5 (by omega))
    have d5 := (el_aPair a.fPairs w5 (by omega))
    have d6 := wrE (((ByteArray.size ((el a.fPairs w5).fKey) : Nat) : Int) + ((ByteArray.size ((el a.fPairs w5).fValue) : Nat) : Int)) ((ByteArray.size ((el a.fPairs w5).fKey) + ByteArray.size ((el a.fPairs w5).fValue) : Nat) : Int) (by omega)
    have d7 := wrE (((w3 : Nat) : Int) + ((ByteArray.size ((el a.fPairs w5).fKey) + ByteArray.size ((el a.fPairs w5).fValue) : Nat) : Int)) ((w3 + ByteArray.size ((el a.fPairs w5).fKey) + ByteArray.size ((el a.fPairs w5).fValue) : Nat) : Int) (by omega)
    refine DR3 (tn 4 (ko (eO d4) (kp d4 (tn 6 (ko (eO d5) (kp d5 (tn 3 (ko (nO d6) (kp d6 (ko (nO d7) (kp d7 (tn 2 (kn (wrE (((w5 : Nat) : Int) + 1) ((w5 + 1 : Nat) : Int) (by omega)) (tn 1 z)))))))))))))) (by kernel_rfl) (by kernel_rfl) (by kernel_rfl) ?_
    exact AG ⟨_, _, by first | omega | assumption | (simp only [lenM_eq]; omega) | (simp; done) | (simp; omega), by omega, rfl, rfl⟩ (WK (by kernel_rfl)) (by kernel_rfl) (Nat.lt_succ_self _)
   ·have := lenM_eq aPair a.fPairs
    refine GO (kb h3 z) (by kernel_rfl) ?_
    refine OUT (tn 3 z) (by kernel_rfl) ?_
    exact EN (by kernel_rfl)
def weiIS_L2 (rec : (List DInline) → Int → Int) (l : List DInline) (depth : Int) (v5 : Int) (v6 : Nat) (w5 : Int) (w8 : Nat) (k0 : Int → Nat → Int) (k1 : Int → Nat → Int) : Nat → Int → Nat → Int
 | 0, _, _ => default
 | n2 + 1, x5, x9 => cond (decide (((x9 : Nat) : Int) < ((lenM aCited ((el l v6).fCites) : Nat) : Int))) (weiIS_L2 rec l depth v5 v6 w5 w8 k0 k1 n2 (x5 + (quo .i64 ((ByteArray.size ((el ((el l v6).fCites) x9).fKey) + ByteArray.size ((el ((el l v6).fCites) x9).fPrefix) + ByteArray.size ((el ((el l v6).fCites) x9).fSuffix) : Nat) : Int) 40)) (x9 + 1)) (k0 (x5 + (rec ((el l v6).fKids) (depth + 1))) (v6 + 1))
def weiIS_L1 (rec : (List DInline) → Int → Int) (l : List DInline) (depth : Int) (v5 : Int) (v6 : Nat) (k0 : Int → Nat → Int) : Nat → Int → Nat → Int
 | 0, _, _ => default
 | n1 + 1, w5, w8 => cond (decide (((w8 : Nat) : Int) < ((lenM strAV ((el l v6).fArgs) : Nat) : Int))) (weiIS_L1 rec l depth v5 v6 k0 n1 (w5 + (quo .i64 ((ByteArray.size (el ((el l v6).fArgs) w8) : Nat) : Int) 40)) (w8 + 1)) (weiIS_L2 rec l depth v5 v6 w5 w8 k0 (weiIS_L1 rec l depth v5 v6 k0 n1) ((List.length ((el l v6).fCites) - 0) + 1) w5 0)
def weiIS_L0 (rec : (List DInline) → Int → Int) (l : List DInline) (depth : Int) : Nat → Int → Nat → Int
 | 0, _, _ => default
 | n0 + 1, v5, v6 => cond (cond (decide (((v6 : Nat) : Int) < ((lenM aInline l : Nat) : Int))) (decide ((v5 : Int) < 1000)) false) (cond (cond (cond (cond (decide (((ByteArray.size ((el l v6).fText) + ByteArray.size ((el l v6).fDest) + ByteArray.size ((el l v6).fTitle) : Nat) : Int) > 300)) true (longB ((el l v6).fAttr))) true (decide (((lenM strAV ((el l v6).fArgs) : Nat) : Int) > 9))) true (decide (((lenM aCited ((el l v6).fCites) : Nat) : Int) > 9))) 1000 (weiIS_L1 rec l depth v5 v6 (weiIS_L0 rec l depth n0) ((List.length ((el l v6).fArgs) - 0) + 1) v5 0)) v5
def weiIS (rec : (List DInline) → Int → Int) (l : List DInline) (depth : Int) : Int := cond (cond (decide ((depth : Int) > 20)) true (decide (((lenM aInline l : Nat) : Int) > 200))) 1000 (weiIS_L0 rec l depth ((List.length l - 0) + 1) ((lenM aInline l : Nat) : Int) 0)
theorem weiI_st (rec : (List DInline) → Int → Int) (l : List DInline) (depth : Int) (hl : wl wInline l ≤ 1073741824) (hd : 0 ≤ depth) (hd2 : depth ≤ 21) (hrec : ∀ (l' : List DInline) (depth' : Int), wl wInline l' < wl wInline l → wl wInline l' ≤ 1073741824 → 0 ≤ depth' → depth' ≤ 21 → CallTo Tryz.prog 32 [(jL ((l').map aInline)), (jI depth')] [] [] (jI (rec l' depth')) [] []) (hrb : ∀ (l' : List DInline) (depth' : Int), wl wInline l' < wl wInline l → wl wInline l' ≤ 1073741824 → 0 ≤ depth' → depth' ≤ 21 → 0 ≤ (rec l' depth') ∧ (rec l' depth') ≤ (22 - depth') * 21474836480) : CallTo Tryz.prog 32 [(jL (l.map aInline)), (jI depth)] [] [] (jI (weiIS rec l depth)) [] [] := by
 have hw_0 := wl_len (w := wInline) wInline_pos l
 refine BEG (fun r : Int => (jI r)) (weiIS rec l depth) Tryz.func32 (by kernel_rfl) ?_
 refine UF (weiIS.eq_1 ..) ?_
 refine GO (tn 7 (kj (decide ((depth : Int) > 20)) z (tn 2 z) z)) (by kernel_rfl) ?_
 refine CS (fun h1 => ?_) (fun h1 => ?_)
 ·have := lenM_eq aInline l
  refine GO (kb h1 (tn 1 z)) (by kernel_rfl) ?_
  exact EN (by kernel_rfl)
 ·have := lenM_eq aInline l
  obtain ⟨h1a, h1o⟩ := cond_tt h1
  have h1ap := of_decide_eq_false h1a
  have := lenM_eq aInline l
  have h1op := of_decide_eq_false h1o
  refine GO (kb h1 (tn 1 z)) (by kernel_rfl) ?_
  refine LP (fun N M S => ∃ v5 : Int, ∃ v6 : Nat, (0 ≤ v5) ∧ (v5 ≤ (22 - depth) * 21474836480) ∧ (List.length l - v6 < N) ∧ M = weiIS_L0 rec l depth N v5 v6 ∧ S = (sx 112 [(0, (jL (l.map aInline))), (1, (jI depth)), (5, (jI v5)), (6, (jI ((v6 : Nat) : Int)))] [] [])) (by kernel_rfl) ⟨_, _, by first | omega | assumption | (simp only [lenM_eq]; omega) | (simp; done) | (simp; omega), by first | omega | assumption | (simp only [lenM_eq]; omega) | (simp; done) | (simp; omega), by omega, rfl, rfl⟩ (WK (by kernel_rfl)) ?_
  rintro n0 M S ⟨v5, v6, hv, hv2, hF0, rfl, rfl⟩
  obtain ⟨n0, rfl⟩ : ∃ k, n0 = k + 1 := ⟨n0 - 1, by omega⟩
  refine UF (weiIS_L0.eq_2 ..) ?_
  refine GO (tn 5 (kj (decide (((v6 : Nat) : Int) < ((lenM aInline l : Nat) : Int))) (tn 2 z) z z)) (by kernel_rfl) ?_
  refine CS (fun h2 => ?_) (fun h2 => ?_)
  ·have := lenM_eq aInline l
   obtain ⟨h2a, h2o⟩ := cond_ff h2
   have := lenM_eq aInline l
   have h2ap := of_decide_eq_true h2a
   have hce := wl_el (w := wInline) (l := l) (i := v6) (by omega)
   have hcw := wInline_eq (el l v6)
   simp only [wStr, w1] at hcw
   have h2op := of_decide_eq_true h2o
   refine GO (kb h2 (tn 2 (ke (el_aInline l v6 (by omega)) (tn 9 (kn (wrE (((ByteArray.size ((el l v6).fText) : Nat) : Int) + ((ByteArray.size ((el l v6).fDest) : Nat) : Int)) ((ByteArray.size ((el l v6).fText) + ByteArray.size ((el l v6).fDest) : Nat) : Int) (by omega)) (tn 3 (kn (wrE (((ByteArray.size ((el l v6).fText) + ByteArray.size ((el l v6).fDest) : Nat) : Int) + ((ByteArray.size ((el l v6).fTitle) : Nat) : Int)) ((ByteArray.size ((el l v6).fText) + ByteArray.size ((el l v6).fDest) + ByteArray.size ((el l v6).fTitle) : Nat) : Int) (by omega)) (tn 2 (kj (decide (((ByteArray.size ((el l v6).fText) + ByteArray.size ((el l v6).fDest) + ByteArray.size ((el l v6).fTitle) : Nat) : Int) > 300)) z (tn 2 (hc (fun h => by have j0 := h.2; have j0p := of_decide_eq_false j0; exact (longB_to ((el l v6).fAttr) (by omega))) z)) (tn 1 (kj (cond (decide (((ByteArray.size ((el l v6).fText) + ByteArray.size ((el l v6).fDest) + ByteArray.size ((el l v6).fTitle) : Nat) : Int) > 300)) true (longB ((el l v6).fAttr))) z (tn 4 z) (tn 1 (kj (cond (cond (decide (((ByteArray.size ((el l v6).fText) + ByteArray.size ((el l v6).fDest) + ByteArray.size ((el l v6).fTitle) : Nat) : Int) > 300)) true (longB ((el l v6).fAttr))) true (decide (((lenM strAV ((el l v6).fArgs) : Nat) : Int) > 9))) z (tn 4 z) z))))))))))))) (by kernel_rfl) ?_
   refine CS (fun h3 => ?_) (fun h3 => ?_)
   ·have := lenM_eq strAV ((el l v6).fArgs)
    have := lenM_eq aCited ((el l v6).fCites)
    refine GO (kb h3 (tn 1 z)) (by kernel_rfl) ?_
    refine OUT z (by kernel_rfl) ?_
    exact EN (by kernel_rfl)
   ·have := lenM_eq strAV ((el l v6).fArgs)
    have := lenM_eq aCited ((el l v6).fCites)
    obtain ⟨h3a, h3o⟩ := cond_tt h3
    have := lenM_eq strAV ((el l v6).fArgs)
    obtain ⟨h3aa, h3ao⟩ := cond_tt h3a
    obtain ⟨h3aaa, h3aao⟩ := cond_tt h3aa
    have h3aaap := of_decide_eq_false h3aaa
    have := lenM_eq strAV ((el l v6).fArgs)
    have h3aop := of_decide_eq_false h3ao
    have := lenM_eq aCited ((el l v6).fCites)
    have h3op := of_decide_eq_false h3o
    refine GO (kb h3 (tn 1 z)) (by kernel_rfl) ?_
    refine LP (fun N M S => ∃ w5 : Int, ∃ w8 : Nat, (0 ≤ w5) ∧ (w5 ≤ 1000 + w8 * 1073741824) ∧ (w8 ≤ (el l v6).fArgs.length) ∧ (List.length ((el l v6).fArgs) - w8 < N) ∧ M = weiIS_L1 rec l depth v5 v6 (weiIS_L0 rec l depth n0) N w5 w8 ∧ S = (sx 112 [(0, (jL (l.map aInline))), (1, (jI depth)), (5, (jI w5)), (6, (jI ((v6 : Nat) : Int))), (7, (.ptr 7 0)), (8, (jI ((w8 : Nat) : Int)))] [(7, (.cells 41 (sInline (el l v6))))] [])) (by kernel_rfl) ⟨_, _, by first | omega | assumption | (simp only [lenM_eq]; omega) | (simp; done) | (simp; omega), by first | omega | assumption | (simp only [lenM_eq]; omega) | (simp; done) | (simp; omega), by first | omega | assumption | (simp only [lenM_eq]; omega) | (simp; done) | (simp; omega), by omega, rfl, rfl⟩ (WK (by kernel_rfl)) ?_
    rintro n1 M S ⟨w5, w8, hw, hw2, hw3, hF1, rfl, rfl⟩
    obtain ⟨n1, rfl⟩ : ∃ k, n1 = k + 1 := ⟨n1 - 1, by omega⟩
    refine UF (weiIS_L1.eq_2 ..) ?_
    refine GO (tn 5 z) (by kernel_rfl) ?_
    refine CSd (fun h4p h4 => ?_) (fun h4p h4 => ?_)
    ·have := lenM_eq strAV ((el l v6).fArgs)
     have hca := wl_el (w := wStr) (l := (el l v6).fArgs) (i := w8) (by omega)
     simp only [wStr] at hca
     have := quo_eq ((ByteArray.size (el ((el l v6).fArgs) w8) : Nat) : Int) 40 (by decide) (by decide)
     refine GO (kb h4 (tn 4 (ke (el_strAV ((el l v6).fArgs) w8 (by omega)) (tn 2 (kp (show (40 : Int) ≠ 0 from (by decide)) (kn (wrE (w5 + (quo .i64 ((ByteArray.size (el ((el l v6).fArgs) w8) : Nat) : Int) 40)) (w5 + (quo .i64 ((ByteArray.size (el ((el l v6).fArgs) w8) : Nat) : Int) 40)) (by omega)) (tn 2 (kn (wrE (((w8 : Nat) : Int) + 1) ((w8 + 1 : Nat) : Int) (by omega)) (tn 1 z))))))))) (by kernel_rfl) ?_
     exact AG ⟨_, _, by first | omega | assumption | (simp only [lenM_eq]; omega) | (simp; done) | (simp; omega), by first | omega | assumption | (simp only [lenM_eq]; omega) | (simp; done) | (simp; omega), by first | omega | assumption | (simp only [lenM_eq]; omega) | (simp; done) | (simp; omega), by omega, rfl, rfl⟩ (WK (by kernel_rfl)) (by kernel_rfl) (Nat.lt_succ_self _)
    ·have := lenM_eq strAV ((el l v6).fArgs)
     refine GO (kb h4 z) (by kernel_rfl) ?_
     refine OUT (tn 1 z) (by kernel_rfl) ?_
     refine LP (fun N M S => ∃ x5 : Int, ∃ x9 : Nat, (0 ≤ x5) ∧ (x5 ≤ 1000 + 9 * 1073741824 + x9 * 1073741824) ∧ (x9 ≤ (el l v6).fCites.length) ∧ (List.length ((el l v6).fCites) - x9 < N) ∧ M = weiIS_L2 rec l depth v5 v6 w5 w8 (weiIS_L0 rec l depth n0) (weiIS_L1 rec l depth v5 v6 (weiIS_L0 rec l depth n0) n1) N x5 x9 ∧ S = (sx 112 [(0, (jL (l.map aInline))), (1, (jI depth)), (5, (jI x5)), (6, (jI ((v6 : Nat) : Int))), (7, (.ptr 7 0)), (9, (jI ((x9 : Nat) : Int)))] [(7, (.cells 41 (sInline (el l v6))))] [])) (by kernel_rfl) ⟨_, _, by first | omega | assumption | (simp only [lenM_eq]; omega) | (simp; done) | (simp; omega), by first | omega | assumption | (simp only [lenM_eq]; omega) | (simp; done) | (simp; omega), by first | omega | assumption | (simp only [lenM_eq]; omega) | (simp; done) | (simp; omega), by omega, rfl, rfl⟩ (WK (by kernel_rfl)) ?_
     rintro n2 M S ⟨x5, x9, hx, hx2, hx3, hF2, rfl, rfl⟩
     obtain ⟨n2, rfl⟩ : ∃ k, n2 = k + 1 := ⟨n2 - 1, by omega⟩
     refine UF (weiIS_L2.eq_2 ..) ?_
     refine GO (tn 5 z) (by kernel_rfl) ?_
     refine CSd (fun h5p h5 => ?_) (fun h5p h5 => ?_)
     ·have := lenM_eq aCited ((el l v6).fCites)
      have hcc := wl_el (w := wCited) (l := (el l v6).fCites) (i := x9) (by omega)
      simp only [wCited, wStr] at hcc
      have := quo_eq ((ByteArray.size ((el ((el l v6).fCites) x9).fKey) + ByteArray.size ((el ((el l v6).fCites) x9).fPrefix) + ByteArray.size ((el ((el l v6).fCites) x9).fSuffix) : Nat) : Int) 40 (by decide) (by decide)
      refine GO (kb h5 (tn 3 (ke (el_aCited ((el l v6).fCites) x9 (by omega)) (tn 10 (kn (wrE (((ByteArray.size ((el ((el l v6).fCites) x9).fKey) : Nat) : Int) + ((ByteArray.size ((el ((el l v6).fCites) x9).fPrefix) : Nat) : Int)) ((ByteArray.size ((el ((el l v6).fCites) x9).fKey) + ByteArray.size ((el ((el l v6).fCites) x9).fPrefix) : Nat) : Int) (by omega)) (tn 3 (kn (wrE (((ByteArray.size ((el ((el l v6).fCites) x9).fKey) + ByteArray.size ((el ((el l v6).fCites) x9).fPrefix) : Nat) : Int) + ((ByteArray.size ((el ((el l v6).fCites) x9).fSuffix) : Nat) : Int)) ((ByteArray.size ((el ((el l v6).fCites) x9).fKey) + ByteArray.size ((el ((el l v6).fCites) x9).fPrefix) + ByteArray.size ((el ((el l v6).fCites) x9).fSuffix) : Nat) : Int) (by omega)) (kp (show (40 : Int) ≠ 0 from (by decide)) (kn (wrE (x5 + (quo .i64 ((ByteArray.size ((el ((el l v6).fCites) x9).fKey) + ByteArray.size ((el ((el l v6).fCites) x9).fPrefix) + ByteArray.size ((el ((el l v6).fCites) x9).fSuffix) : Nat) : Int) 40)) (x5 + (quo .i64 ((ByteArray.size ((el ((el l v6).fCites) x9).fKey) + ByteArray.size ((el ((el l v6).fCites) x9).fPrefix) + ByteArray.size ((el ((el l v6).fCites) x9).fSuffix) : Nat) : Int) 40)) (by omega)) (tn 2 (kn (wrE (((x9 : Nat) : Int) + 1) ((x9 + 1 : Nat) : Int) (by omega)) (tn 1 z)))))))))))) (by kernel_rfl) ?_
      exact AG ⟨_, _, by first | omega | assumption | (simp only [lenM_eq]; omega) | (simp; done) | (simp; omega), by first | omega | assumption | (simp only [lenM_eq]; omega) | (simp; done) | (simp; omega), by first | omega | assumption | (simp only [lenM_eq]; omega) | (simp; done) | (simp; omega), by omega, rfl, rfl⟩ (WK (by kernel_rfl)) (by kernel_rfl) (Nat.lt_succ_self _)
     ·have := lenM_eq aCited ((el l v6).fCites)
      refine GO (kb h5 z) (by kernel_rfl) ?_
      have := hrb ((el l v6).fKids) (depth + 1) (by omega) (by omega) (by omega) (by omega)
      refine OUT (tn 4 (kn (wrE (depth + 1) (depth + 1) (by omega)) (kc (hrec ((el l v6).fKids) (depth + 1) (by omega) (by omega) (by omega) (by omega)) (kn (wrE (x5 + (rec ((el l v6).fKids) (depth + 1))) (x5 + (rec ((el l v6).fKids) (depth + 1))) (by omega)) (tn 2 (kn (wrE (((v6 : Nat) : Int) + 1) ((v6 + 1 : Nat) : Int) (by omega)) (tn 1 z))))))) (by kernel_rfl) ?_
      exact AG ⟨_, _, by first | omega | assumption | (simp only [lenM_eq]; omega) | (simp; done) | (simp; omega), by first | omega | assumption | (simp only [lenM_eq]; omega) | (simp; done) | (simp; omega), by omega, rfl, rfl⟩ (WK (by kernel_rfl)) (by kernel_rfl) (Nat.lt_succ_self _)
  ·have := lenM_eq aInline l
   refine GO (kb h2 z) (by kernel_rfl) ?_
   refine OUT (tn 2 z) (by kernel_rfl) ?_
   exact EN (by kernel_rfl)
def weiIN : Nat → (List DInline) → Int → Int
 | 0, _, _ => default
 | n + 1, l, depth => weiIS (weiIN n) l depth
theorem quo40 (n : Nat) (h : n ≤ 1073741824) : 0 ≤ quo .i64 (n : Int) 40 ∧ quo .i64 (n : Int) 40 ≤ 1073741824 := by
 have := quo_eq (n : Int) 40 (by decide) (by decide) (by omega) (by omega)
 omega
theorem weiIS_L2_bd (M : Int) (rec : (List DInline) → Int → Int) (l : List DInline) (depth : Int) (v5 : Int) (v6 : Nat) (w5 : Int) (w8 : Nat) (k0 k1 : Int → Nat → Int) (hM : 0 ≤ M) (hw : wInline (el l v6) ≤ 1073741824) (hc : (el l v6).fCites.length ≤ 9)
  (hk : ∀ x : Int, 0 ≤ x → x ≤ 1000 + 18 * 1073741824 → 0 ≤ k0 (x + rec (el l v6).fKids (depth + 1)) (v6 + 1) ∧ k0 (x + rec (el l v6).fKids (depth + 1)) (v6 + 1) ≤ M) :
  ∀ (n : Nat) (x5 : Int) (x9 : Nat), 0 ≤ x5 → x5 ≤ 1000 + 9 * 1073741824 + x9 * 1073741824 → x9 ≤ (el l v6).fCites.length → 0 ≤ weiIS_L2 rec l depth v5 v6 w5 w8 k0 k1 n x5 x9 ∧ weiIS_L2 rec l depth v5 v6 w5 w8 k0 k1 n x5 x9 ≤ M := by
 intro n
 induction n with
 | zero => intro x5 x9 h1 h2 h3; rw [weiIS_L2]; exact ⟨Int.le_refl 0, hM⟩
 | succ n ih =>
  intro x5 x9 h1 h2 h3
  rw [weiIS_L2]
  have hlm := lenM_eq aCited (el l v6).fCites
  refine condP (fun r : Int => 0 ≤ r ∧ r ≤ M) (fun q => ?_) (fun q => hk _ h1 (by omega))
  have q1 := of_decide_eq_true q
  have hcw := wInline_eq (el l v6)
  have hcc := wl_el (w := wCited) (l := (el l v6).fCites) (i := x9) (by omega)
  simp only [wCited, wStr] at hcc
  have hq := quo40 (ByteArray.size ((el ((el l v6).fCites) x9).fKey) + ByteArray.size ((el ((el l v6).fCites) x9).fPrefix) + ByteArray.size ((el ((el l v6).fCites) x9).fSuffix)) (by omega)
  exact ih _ _ (by omega) (by omega) (by omega)
theorem weiIS_L1_bd (M : Int) (rec : (List DInline) → Int → Int) (l : List DInline) (depth : Int) (v5 : Int) (v6 : Nat) (k0 : Int → Nat → Int) (hM : 0 ≤ M) (hw : wInline (el l v6) ≤ 1073741824) (ha : (el l v6).fArgs.length ≤ 9) (hc : (el l v6).fCites.length ≤ 9)
  (hk : ∀ x : Int, 0 ≤ x → x ≤ 1000 + 18 * 1073741824 → 0 ≤ k0 (x + rec (el l v6).fKids (depth + 1)) (v6 + 1) ∧ k0 (x + rec (el l v6).fKids (depth + 1)) (v6 + 1) ≤ M) :
  ∀ (n : Nat) (w5 : Int) (w8 : Nat), 0 ≤ w5 → w5 ≤ 1000 + w8 * 1073741824 → w8 ≤ (el l v6).fArgs.length → 0 ≤ weiIS_L1 rec l depth v5 v6 k0 n w5 w8 ∧ weiIS_L1 rec l depth v5 v6 k0 n w5 w8 ≤ M := by
 intro n
 induction n with
 | zero => intro w5 w8 h1 h2 h3; rw [weiIS_L1]; exact ⟨Int.le_refl 0, hM⟩
 | succ n ih =>
  intro w5 w8 h1 h2 h3
  rw [weiIS_L1]
  have hlm := lenM_eq strAV (el l v6).fArgs
  refine condP (fun r : Int => 0 ≤ r ∧ r ≤ M) (fun q => ?_) (fun q => weiIS_L2_bd M rec l depth v5 v6 w5 w8 k0 _ hM hw hc hk _ _ _ h1 (by omega) (by omega))
  have q1 := of_decide_eq_true q
  have hcw := wInline_eq (el l v6)
  have hcc := wl_el (w := wStr) (l := (el l v6).fArgs) (i := w8) (by omega)
  simp only [wStr] at hcc
  have hq := quo40 (ByteArray.size (el ((el l v6).fArgs) w8)) (by omega)
  exact ih _ _ (by omega) (by omega) (by omega)
theorem weiIS_L0_bd (rec : (List DInline) → Int → Int) (l : List DInline) (depth : Int) (hl : wl wInline l ≤ 1073741824) (hd : 0 ≤ depth) (hd2 : depth ≤ 20) (hr : ∀ l' : List DInline, wl wInline l' < wl wInline l → 0 ≤ rec l' (depth + 1) ∧ rec l' (depth + 1) ≤ (22 - (depth + 1)) * 21474836480) :
  ∀ (n : Nat) (v5 : Int) (v6 : Nat), 0 ≤ v5 → v5 ≤ (22 - depth) * 21474836480 → 0 ≤ weiIS_L0 rec l depth n v5 v6 ∧ weiIS_L0 rec l depth n v5 v6 ≤ (22 - depth) * 21474836480
 | 0, v5, v6, h1, h2 => by show (0 : Int) ≤ 0 ∧ (0 : Int) ≤ _; omega
 | n + 1, v5, v6, h1, h2 => by
  rw [weiIS_L0]
  have hlm := lenM_eq aInline l
  refine condP (fun r : Int => 0 ≤ r ∧ r ≤ (22 - depth) * 21474836480) (fun q => condP (fun r : Int => 0 ≤ r ∧ r ≤ (22 - depth) * 21474836480) (fun _ => by show (0 : Int) ≤ 1000 ∧ (1000 : Int) ≤ _; omega) (fun q2 => ?_)) (fun q => ⟨h1, h2⟩)
  have q1 := of_decide_eq_true (cond_ff q).1
  have q3 := of_decide_eq_true (cond_ff q).2
  have q4 := of_decide_eq_false (cond_tt q2).2
  have q5 := of_decide_eq_false (cond_tt (cond_tt q2).1).2
  have hl2 := lenM_eq aCited (el l v6).fCites
  have hl3 := lenM_eq strAV (el l v6).fArgs
  have hce := wl_el (w := wInline) (l := l) (i := v6) (by omega)
  have hcw := wInline_eq (el l v6)
  have hq := hr (el l v6).fKids (by omega)
  refine weiIS_L1_bd _ rec l depth v5 v6 _ (by omega) (by omega) (by omega) (by omega) (fun x hx1 hx2 => weiIS_L0_bd rec l depth hl hd hd2 hr n _ _ (by omega) (by omega)) _ _ _ h1 (by omega) (by omega)
theorem weiIN_bd : ∀ (n : Nat) (l : List DInline) (depth : Int), wl wInline l < n → wl wInline l ≤ 1073741824 → 0 ≤ depth → depth ≤ 21 → 0 ≤ weiIN n l depth ∧ weiIN n l depth ≤ (22 - depth) * 21474836480
 | 0, l, depth, h, _, _, _ => by omega
 | n + 1, l, depth, h, hl, hd, hd2 => by
  have hw_0 := wl_len (w := wInline) wInline_pos l
  rw [weiIN, weiIS]
  refine condP (fun r : Int => 0 ≤ r ∧ r ≤ (22 - depth) * 21474836480) (fun _ => by show (0 : Int) ≤ 1000 ∧ (1000 : Int) ≤ _; omega) (fun q => ?_)
  have q1 := of_decide_eq_false (cond_tt q).1
  exact weiIS_L0_bd _ l depth hl hd (by omega) (fun l' q => weiIN_bd n l' (depth + 1) (by omega) (by omega) (by omega) (by omega)) _ _ _ (by omega) (by simp only [lenM_eq]; omega)
theorem weiIN_to : ∀ (n : Nat) (l : List DInline) (depth : Int), wl wInline l < n → wl wInline l ≤ 1073741824 → 0 ≤ depth → depth ≤ 21 → CallTo Tryz.prog 32 [(jL (l.map aInline)), (jI depth)] [] [] (jI (weiIN n l depth)) [] []
 | 0, l, depth, h0, _, _, _ => absurd h0 (Nat.not_lt_zero _)
 | n + 1, l, depth, h0, hl, hd, hd2 => by
  exact weiI_st (weiIN n) l depth hl hd hd2 (fun l' depth' q1 hl' hd' hd2' => weiIN_to n l' depth' (by omega) hl' hd' hd2') (fun l' depth' q1 hl' hd' hd2' => weiIN_bd n l' depth' (by omega) hl' hd' hd2')
def weiI (l : List DInline) (depth : Int) : Int := weiIN (wl wInline l + 1) l depth
theorem weiI_to (l : List DInline) (depth : Int) (hl : wl wInline l ≤ 1073741824) (hd : 0 ≤ depth) (hd2 : depth ≤ 21) : CallTo Tryz.prog 32 [(jL (l.map aInline)), (jI depth)] [] [] (jI (weiI l depth)) [] [] := weiIN_to _ l depth (Nat.lt_succ_self _) hl hd hd2
theorem weiI_bd (l : List DInline) (depth : Int) (hl : wl wInline l ≤ 1073741824) (hd : 0 ≤ depth) (hd2 : depth ≤ 21) : 0 ≤ (weiI l depth) ∧ (weiI l depth) ≤ (22 - depth) * 21474836480 := weiIN_bd _ l depth (Nat.lt_succ_self _) hl hd hd2
end Go.Proofs.YtdaglbjgdakmcaaGreat
namespace Go.Proofs.YtdaglbjgdakmcaaGreat
open Go Go.Eng
def hvyIS_L0 (rec : (List DBlock) → Int → Int) (l : List DBlock) (depth : Int) : Nat → Int → Nat → Int
 | 0, _, _ => default
 | n0 + 1, v5, v6 => cond (cond (decide (((v6 : Nat) : Int) < ((lenM aBlock l : Nat) : Int))) (decide ((v5 : Int) < 1000)) false) (cond (cond (decide (((ByteArray.size ((el l v6).fText) + ByteArray.size ((el l v6).fInfo) + ByteArray.size ((el l v6).fDest) + ByteArray.size ((el l v6).fTitle) : Nat) : Int) > 300)) true (longB ((el l v6).fAttr))) 1000 (hvyIS_L0 rec l depth n0 (v5 + ((weiI ((el l v6).fLine) 0) + (rec ((el l v6).fKids) (depth + 1)))) (v6 + 1))) v5
def hvyIS (rec : (List DBlock) → Int → Int) (l : List DBlock) (depth : Int) : Int := cond (cond (decide ((depth : Int) > 20)) true (decide (((lenM aBlock l : Nat) : Int) > 200))) 1000 (hvyIS_L0 rec l depth ((List.length l - 0) + 1) ((lenM aBlock l : Nat) : Int) 0)
theorem hvyI_st (rec : (List DBlock) → Int → Int) (l : List DBlock) (depth : Int) (hl : wl wBlock l ≤ 1073741824) (hd : 0 ≤ depth) (hd2 : depth ≤ 21) (hrec : ∀ (l' : List DBlock) (depth' : Int), wl wBlock l' < wl wBlock l → wl wBlock l' ≤ 1073741824 → 0 ≤ depth' → depth' ≤ 21 → CallTo Tryz.prog 14 [(jL ((l').map aBlock)), (jI depth')] [] [] (jI (rec l' depth')) [] []) (hrb : ∀ (l' : List DBlock) (depth' : Int), wl wBlock l' < wl wBlock l → wl wBlock l' ≤ 1073741824 → 0 ≤ depth' → depth' ≤ 21 → 0 ≤ (rec l' depth') ∧ (rec l' depth') ≤ (22 - depth') * 1000000000000) : CallTo Tryz.prog 14 [(jL (l.map aBlock)), (jI depth)] [] [] (jI (hvyIS rec l depth)) [] [] := by
 have hw_0 := wl_len (w := wBlock) wBlock_pos l
 refine BEG (fun r : Int => (jI r)) (hvyIS rec l depth) Tryz.func14 (by kernel_rfl) ?_
 refine UF (hvyIS.eq_1 ..) ?_
 refine GO (tn 7 (kj (decide ((depth : Int) > 20)) z (tn 2 z) z)) (by kernel_rfl) ?_
 refine CS (fun h1 => ?_) (fun h1 => ?_)
 ·have := lenM_eq aBlock l
  refine GO (kb h1 (tn 1 z)) (by kernel_rfl) ?_
  exact EN (by kernel_rfl)
 ·have := lenM_eq aBlock l
  obtain ⟨h1a, h1o⟩ := cond_tt h1
  have h1ap := of_decide_eq_false h1a
  have := lenM_eq aBlock l
  have h1op := of_decide_eq_false h1o
  refine GO (kb h1 (tn 1 z)) (by kernel_rfl) ?_
  refine LP (fun N M S => ∃ v5 : Int, ∃ v6 : Nat, (0 ≤ v5) ∧ (v5 ≤ (22 - depth) * 1000000000000) ∧ (List.length l - v6 < N) ∧ M = hvyIS_L0 rec l depth N v5 v6 ∧ S = (sx 63 [(0, (jL (l.map aBlock))), (1, (jI depth)), (5, (jI v5)), (6, (jI ((v6 : Nat) : Int)))] [] [])) (by kernel_rfl) ⟨_, _, by first | omega | assumption | (simp only [lenM_eq]; omega) | (simp; done) | (simp; omega), by first | omega | assumption | (simp only [lenM_eq]; omega) | (simp; done) | (simp; omega), by omega, rfl, rfl⟩ (WK (by kernel_rfl)) ?_
  rintro n0 M S ⟨v5, v6, hv, hv2, hF0, rfl, rfl⟩
  obtain ⟨n0, rfl⟩ : ∃ k, n0 = k + 1 := ⟨n0 - 1, by omega⟩
  refine UF (hvyIS_L0.eq_2 ..) ?_
  refine GO (tn 5 (kj (decide (((v6 : Nat) : Int) < ((lenM aBlock l : Nat) : Int))) (tn 2 z) z z)) (by kernel_rfl) ?_
  refine CS (fun h2 => ?_) (fun h2 => ?_)
  ·have := lenM_eq aBlock l
   obtain ⟨h2a, h2o⟩ := cond_ff h2
   have := lenM_eq aBlock l
   have h2ap := of_decide_eq_true h2a
   have hce := wl_el (w := wBlock) (l := l) (i := v6) (by omega)
   have hcw := wBlock_eq (el l v6)
   simp only [wStr, w1] at hcw
   have h2op := of_decide_eq_true h2o
   refine GO (kb h2 (tn 2 (ke (el_aBlock l v6 (by omega)) (tn 9 (kn (wrE (((ByteArray.size ((el l v6).fText) : Nat) : Int) + ((ByteArray.size ((el l v6).fInfo) : Nat) : Int)) ((ByteArray.size ((el l v6).fText) + ByteArray.size ((el l v6).fInfo) : Nat) : Int) (by omega)) (tn 3 (kn (wrE (((ByteArray.size ((el l v6).fText) + ByteArray.size ((el l v6).fInfo) : Nat) : Int) + ((ByteArray.size ((el l v6).fDest) : Nat) : Int)) ((ByteArray.size ((el l v6).fText) + ByteArray.size ((el l v6).fInfo) + ByteArray.size ((el l v6).fDest) : Nat) : Int) (by omega)) (tn 3 (kn (wrE (((ByteArray.size ((el l v6).fText) + ByteArray.size ((el l v6).fInfo) + ByteArray.size ((el l v6).fDest) : Nat) : Int) + ((ByteArray.size ((el l v6).fTitle) : Nat) : Int)) ((ByteArray.size ((el l v6).fText) + ByteArray.size ((el l v6).fInfo) + ByteArray.size ((el l v6).fDest) + ByteArray.size ((el l v6).fTitle) : Nat) : Int) (by omega)) (tn 2 (kj (decide (((ByteArray.size ((el l v6).fText) + ByteArray.size ((el l v6).fInfo) + ByteArray.size ((el l v6).fDest) + ByteArray.size ((el l v6).fTitle) : Nat) : Int) > 300)) z (tn 2 (hc (fun h => by have j0 := h.2; have j0p := of_decide_eq_false j0; exact (longB_to ((el l v6).fAttr) (by omega))) z)) z))))))))))) (by kernel_rfl) ?_
   refine CS (fun h3 => ?_) (fun h3 => ?_)
   ·refine GO (kb h3 (tn 1 z)) (by kernel_rfl) ?_
    refine OUT z (by kernel_rfl) ?_
    exact EN (by kernel_rfl)
   ·obtain ⟨h3a, h3o⟩ := cond_tt h3
    have h3ap := of_decide_eq_false h3a
    refine GO (kb h3 z) (by kernel_rfl) ?_
    have := weiI_bd ((el l v6).fLine) 0 (by omega) (by omega) (by omega)
    have := hrb ((el l v6).fKids) (depth + 1) (by omega) (by omega) (by omega) (by omega)
    have d4 := (weiI_to ((el l v6).fLine) 0 (by omega) (by omega) (by omega))
    have d5 := wrE (depth + 1) (depth + 1) (by omega)
    have d6 := (hrec ((el l v6).fKids) (depth + 1) (by omega) (by omega) (by omega) (by omega))
    have d7 := wrE ((weiI ((el l v6).fLine) 0) + (rec ((el l v6).fKids) (depth + 1))) ((weiI ((el l v6).fLine) 0) + (rec ((el l v6).fKids) (depth + 1))) (by omega)
    have d8 := wrE (v5 + ((weiI ((el l v6).fLine) 0) + (rec ((el l v6).fKids) (depth + 1)))) (v5 + ((weiI ((el l v6).fLine) 0) + (rec ((el l v6).fKids) (depth + 1)))) (by omega)
    refine DR3 (tn 3 (ko (cO d4) (kp d4 (tn 4 (ko (nO d5) (kp d5 (ko (cO d6) (kp d6 (tn 1 (ko (nO d7) (kp d7 (ko (nO d8) (kp d8 (tn 2 (kn (wrE (((v6 : Nat) : Int) + 1) ((v6 + 1 : Nat) : Int) (by omega)) (tn 1 z)))))))))))))))) (by kernel_rfl) (by kernel_rfl) (by kernel_rfl) ?_
    exact AG ⟨_, _, by first | omega | assumption | (simp only [lenM_eq]; omega) | (simp; done) | (simp; omega), by first | omega | assumption | (simp only [lenM_eq]; omega) | (simp; done) | (simp; omega), by omega, rfl, rfl⟩ (WK (by kernel_rfl)) (by kernel_rfl) (Nat.lt_succ_self _)
  ·have := lenM_eq aBlock l
   refine GO (kb h2 z) (by kernel_rfl) ?_
   refine OUT (tn 2 z) (by kernel_rfl) ?_
   exact EN (by kernel_rfl)
def hvyIN : Nat → (List DBlock) → Int → Int
 | 0, _, _ => default
 | n + 1, l, depth => hvyIS (hvyIN n) l depth
theorem hvyIS_L0_bd (rec : (List DBlock) → Int → Int) (l : List DBlock) (depth : Int) (hl : wl wBlock l ≤ 1073741824) (hd : 0 ≤ depth) (hd2 : depth ≤ 20) (hr : ∀ l' : List DBlock, wl wBlock l' < wl wBlock l → 0 ≤ rec l' (depth + 1) ∧ rec l' (depth + 1) ≤ (22 - (depth + 1)) * 1000000000000) :
  ∀ (n : Nat) (v5 : Int) (v6 : Nat), 0 ≤ v5 → v5 ≤ (22 - depth) * 1000000000000 → 0 ≤ hvyIS_L0 rec l depth n v5 v6 ∧ hvyIS_L0 rec l depth n v5 v6 ≤ (22 - depth) * 1000000000000 := by
 intro n
 induction n with
 | zero => intro v5 v6 h1 h2; rw [hvyIS_L0]; exact ⟨Int.le_refl 0, show (0 : Int) ≤ (22 - depth) * 1000000000000 by omega⟩
 | succ n ih =>
  intro v5 v6 h1 h2
  rw [hvyIS_L0]
  have hlm := lenM_eq aBlock l
  refine condP (fun r : Int => 0 ≤ r ∧ r ≤ (22 - depth) * 1000000000000) (fun q => condP (fun r : Int => 0 ≤ r ∧ r ≤ (22 - depth) * 1000000000000) (fun _ => by show (0 : Int) ≤ 1000 ∧ (1000 : Int) ≤ _; omega) (fun q2 => ?_)) (fun q => ⟨h1, h2⟩)
  have q1 := of_decide_eq_true (cond_ff q).1
  have q3 := of_decide_eq_true (cond_ff q).2
  have hce := wl_el (w := wBlock) (l := l) (i := v6) (by omega)
  have hcw := wBlock_eq (el l v6)
  have hq := hr (el l v6).fKids (by omega)
  have hq2 := weiI_bd (el l v6).fLine 0 (by omega) (by omega) (by omega)
  exact ih _ _ (by omega) (by omega)
theorem hvyIN_bd : ∀ (n : Nat) (l : List DBlock) (depth : Int), wl wBlock l < n → wl wBlock l ≤ 1073741824 → 0 ≤ depth → depth ≤ 21 → 0 ≤ hvyIN n l depth ∧ hvyIN n l depth ≤ (22 - depth) * 1000000000000
 | 0, l, depth, h, _, _, _ => by omega
 | n + 1, l, depth, h, hl, hd, hd2 => by
  have hw_0 := wl_len (w := wBlock) wBlock_pos l
  rw [hvyIN, hvyIS]
  refine condP (fun r : Int => 0 ≤ r ∧ r ≤ (22 - depth) * 1000000000000) (fun _ => by show (0 : Int) ≤ 1000 ∧ (1000 : Int) ≤ _; omega) (fun q => ?_)
  have q1 := of_decide_eq_false (cond_tt q).1
  exact hvyIS_L0_bd _ l depth hl hd (by omega) (fun l' q => hvyIN_bd n l' (depth + 1) (by omega) (by omega) (by omega) (by omega)) _ _ _ (by omega) (by simp only [lenM_eq]; omega)
theorem hvyIN_to : ∀ (n : Nat) (l : List DBlock) (depth : Int), wl wBlock l < n → wl wBlock l ≤ 1073741824 → 0 ≤ depth → depth ≤ 21 → CallTo Tryz.prog 14 [(jL (l.map aBlock)), (jI depth)] [] [] (jI (hvyIN n l depth)) [] []
 | 0, l, depth, h0, _, _, _ => absurd h0 (Nat.not_lt_zero _)
 | n + 1, l, depth, h0, hl, hd, hd2 => by
  exact hvyI_st (hvyIN n) l depth hl hd hd2 (fun l' depth' q1 hl' hd' hd2' => hvyIN_to n l' depth' (by omega) hl' hd' hd2') (fun l' depth' q1 hl' hd' hd2' => hvyIN_bd n l' depth' (by omega) hl' hd' hd2')
def hvyI (l : List DBlock) (depth : Int) : Int := hvyIN (wl wBlock l + 1) l depth
theorem hvyI_to (l : List DBlock) (depth : Int) (hl : wl wBlock l ≤ 1073741824) (hd : 0 ≤ depth) (hd2 : depth ≤ 21) : CallTo Tryz.prog 14 [(jL (l.map aBlock)), (jI depth)] [] [] (jI (hvyI l depth)) [] [] := hvyIN_to _ l depth (Nat.lt_succ_self _) hl hd hd2
theorem hvyI_bd (l : List DBlock) (depth : Int) (hl : wl wBlock l ≤ 1073741824) (hd : 0 ≤ depth) (hd2 : depth ≤ 21) : 0 ≤ (hvyI l depth) ∧ (hvyI l depth) ≤ (22 - depth) * 1000000000000 := hvyIN_bd _ l depth (Nat.lt_succ_self _) hl hd hd2
def smlD_L0 (d : DDoc) : Nat → Nat → Bool
 | 0, _ => default
 | n0 + 1, v3 => cond (decide (((v3 : Nat) : Int) < ((lenM aPair d.fMeta : Nat) : Int))) (cond (decide (((ByteArray.size ((el d.fMeta v3).fKey) + ByteArray.size ((el d.fMeta v3).fValue) : Nat) : Int) > 300)) false (smlD_L0 d n0 (v3 + 1))) (decide ((hvyI d.fBlocks 0 : Int) ≤ 120))
def smlD (d : DDoc) : Bool := cond (decide (((lenM aPair d.fMeta : Nat) : Int) > 70)) false (smlD_L0 d ((List.length d.fMeta - 0) + 1) 0)
theorem smlD_to (d : DDoc) (hd : wDoc d ≤ 1073741824) : CallTo Tryz.prog 6 [(.av (cDoc d))] [] [] (jB (smlD d)) [] [] := by
 have hwd := wDoc_eq d
 have hw_0 := wl_len (w := wPair) wPair_pos d.fMeta
 refine BEG (fun r : Bool => (jB r)) (smlD d) Tryz.func6 (by kernel_rfl) ?_
 refine UF (smlD.eq_1 ..) ?_
 refine GO (tn 6 z) (by kernel_rfl) ?_
 refine CSd (fun h1p h1 => ?_) (fun h1p h1 => ?_)
 ·have := lenM_eq aPair d.fMeta
  refine GO (kb h1 (tn 1 z)) (by kernel_rfl) ?_
  exact EN (by kernel_rfl)
 ·have := lenM_eq aPair d.fMeta
  refine GO (kb h1 (tn 1 z)) (by kernel_rfl) ?_
  refine LP (fun N M S => ∃ v3 : Nat, (List.length d.fMeta - v3 < N) ∧ M = smlD_L0 d N v3 ∧ S = (sx 35 [(1, (.ptr 1 0)), (3, (jI ((v3 : Nat) : Int)))] [(1, (.cells 25 (sDoc d)))] [])) (by kernel_rfl) ⟨_, by omega, rfl, rfl⟩ (WK (by kernel_rfl)) ?_
  rintro n0 M S ⟨v3, hF0, rfl, rfl⟩
  obtain ⟨n0, rfl⟩ : ∃ k, n0 = k + 1 := ⟨n0 - 1, by omega⟩
  refine UF (smlD_L0.eq_2 ..) ?_
  refine GO (tn 5 z) (by kernel_rfl) ?_
  refine CSd (fun h2p h2 => ?_) (fun h2p h2 => ?_)
  ·have := lenM_eq aPair d.fMeta
   have hce := wl_el (w := wPair) (l := d.fMeta) (i := v3) (by omega)
   simp only [wPair, wStr] at hce
   refine GO (kb h2 z) (by kernel_rfl) ?_
   have d3 := (el_aPair d.fMeta v3 (by omega))
   have d4 := (el_aPair d.fMeta v3 (by omega))
   have d5 := wrE (((ByteArray.size ((el d.fMeta v3).fKey) : Nat) : Int) + ((ByteArray.size ((el d.fMeta v3).fValue) : Nat) : Int)) ((ByteArray.size ((el d.fMeta v3).fKey) + ByteArray.size ((el d.fMeta v3).fValue) : Nat) : Int) (by omega)
   refine DR3 (tn 3 (ko (eO d3) (kp d3 (tn 6 (ko (eO d4) (kp d4 (tn 3 (ko (nO d5) (kp d5 (tn 1 z)))))))))) (by kernel_rfl) (by kernel_rfl) (by kernel_rfl) ?_
   refine CSd (fun h6p h6 => ?_) (fun h6p h6 => ?_)
   ·refine GO (kb h6 (tn 1 z)) (by kernel_rfl) ?_
    refine OUT z (by kernel_rfl) ?_
    exact EN (by kernel_rfl)
   ·refine GO (kb h6 (tn 1 (kn (wrE (((v3 : Nat) : Int) + 1) ((v3 + 1 : Nat) : Int) (by omega)) (tn 1 z)))) (by kernel_rfl) ?_
    exact AG ⟨_, by omega, rfl, rfl⟩ (WK (by kernel_rfl)) (by kernel_rfl) (Nat.lt_succ_self _)
  ·have := lenM_eq aPair d.fMeta
   refine GO (kb h2 z) (by kernel_rfl) ?_
   have := hvyI_bd d.fBlocks 0 (by omega) (by omega) (by omega)
   refine OUT (tn 2 (kc (hvyI_to d.fBlocks 0 (by omega) (by omega) (by omega)) (tn 2 z))) (by kernel_rfl) ?_
   exact EN (by kernel_rfl)
def atsB (a : DAttr) (b : DAttr) : Bool := cond (cond (eqs a.fID b.fID) (textsB a.fClasses b.fClasses) false) (pairsB a.fPairs b.fPairs) false
theorem atsB_to (a : DAttr) (b : DAttr) (ha : wAttr a ≤ 1073741824) (hb : wAttr b ≤ 1073741824) : CallTo Tryz.prog 51 [(.av (cAttr a)), (.av (cAttr b))] [] [] (jB (atsB a b)) [] [] := by
 have hwa := wAttr_eq a
 have hwb := wAttr_eq b
 have hw_0 := wl_len (w := wStr) wStr_pos a.fClasses
 have hw_1 := wl_len (w := wPair) wPair_pos a.fPairs
 have hw_2 := wl_len (w := wStr) wStr_pos b.fClasses
 have hw_3 := wl_len (w := wPair) wPair_pos b.fPairs
 refine BEG (fun r : Bool => (jB r)) (atsB a b) Tryz.func51 (by kernel_rfl) ?_
 refine UF (atsB.eq_1 ..) ?_
 refine GO (tn 9 (kj (eqs a.fID b.fID) (tn 4 (hc (fun h => by have j0 := h.2; exact (textsB_to a.fClasses b.fClasses (by omega) (by omega))) z)) z (tn 1 (kj (cond (eqs a.fID b.fID) (textsB a.fClasses b.fClasses) false) (tn 4 (hc (fun h => by have j0 := h.2; obtain ⟨j0a, j0o⟩ := cond_ff j0; exact (pairsB_to a.fPairs b.fPairs (by omega) (by omega))) z)) z (tn 1 z))))) (by kernel_rfl) ?_
 exact EN (by kernel_rfl)
def samLS_L1 (rec : (List DInline) → (List DInline) → Bool) (a : List DInline) (b : List DInline) (v5 : Nat) (k0 : Nat → Bool) : Nat → Nat → Bool
 | 0, _ => default
 | n1 + 1, w8 => cond (decide (((w8 : Nat) : Int) < ((lenM aCited ((el a v5).fCites) : Nat) : Int))) (cond (!(eqs ((el ((el a v5).fCites) w8).fKey) ((el ((el b v5).fCites) w8).fKey) && (eqs ((el ((el a v5).fCites) w8).fPrefix) ((el ((el b v5).fCites) w8).fPrefix) && (eqs ((el ((el a v5).fCites) w8).fSuffix) ((el ((el b v5).fCites) w8).fSuffix) && (((el ((el a v5).fCites) w8).fBare == (el ((el b v5).fCites) w8).fBare) && true))))) false (samLS_L1 rec a b v5 k0 n1 (w8 + 1))) (k0 (v5 + 1))
def samLS_L0 (rec : (List DInline) → (List DInline) → Bool) (a : List DInline) (b : List DInline) : Nat → Nat → Bool
 | 0, _ => default
 | n0 + 1, v5 => cond (decide (((v5 : Nat) : Int) < ((lenM aInline a : Nat) : Int))) (cond (cond (cond (cond (cond (cond (cond (cond (((el a v5).fKind : Int) != (el b v5).fKind) true (!eqs ((el a v5).fText) ((el b v5).fText))) true (!eqs ((el a v5).fDest) ((el b v5).fDest))) true (!eqs ((el a v5).fTitle) ((el b v5).fTitle))) true (!atsB ((el a v5).fAttr) ((el b v5).fAttr))) true (!textsB ((el a v5).fArgs) ((el b v5).fArgs))) true (((lenM aCited ((el a v5).fCites) : Nat) : Int) != ((lenM aCited ((el b v5).fCites) : Nat) : Int))) true (!rec ((el a v5).fKids) ((el b v5).fKids))) false (samLS_L1 rec a b v5 (samLS_L0 rec a b n0) ((List.length ((el a v5).fCites) - 0) + 1) 0)) true
def samLS (rec : (List DInline) → (List DInline) → Bool) (a : List DInline) (b : List DInline) : Bool := cond (((lenM aInline a : Nat) : Int) != ((lenM aInline b : Nat) : Int)) false (samLS_L0 rec a b ((List.length a - 0) + 1) 0)
theorem samL_st (rec : (List DInline) → (List DInline) → Bool) (a : List DInline) (b : List DInline) (ha : wl wInline a ≤ 1073741824) (hb : wl wInline b ≤ 1073741824) (hrec : ∀ (a' : List DInline) (b' : List DInline), wl wInline a' < wl wInline a → wl wInline a' ≤ 1073741824 → wl wInline b' ≤ 1073741824 → CallTo Tryz.prog 52 [(jL ((a').map aInline)), (jL ((b').map aInline))] [] [] (jB (rec a' b')) [] []) : CallTo Tryz.prog 52 [(jL (a.map aInline)), (jL (b.map aInline))] [] [] (jB (samLS rec a b)) [] [] := by
 have hw_0 := wl_len (w := wInline) wInline_pos a
 have hw_1 := wl_len (w := wInline) wInline_pos b
 refine BEG (fun r : Bool => (jB r)) (samLS rec a b) Tryz.func52 (by kernel_rfl) ?_
 refine UF (samLS.eq_1 ..) ?_
 refine GO (tn 6 z) (by kernel_rfl) ?_
 refine CSn (fun h1p h1 => ?_) (fun h1p h1 => ?_)
 ·have := lenM_eq aInline a
  have := lenM_eq aInline b
  refine GO (kb h1 (tn 1 z)) (by kernel_rfl) ?_
  exact EN (by kernel_rfl)
 ·have := lenM_eq aInline a
  have := lenM_eq aInline b
  refine GO (kb h1 (tn 1 z)) (by kernel_rfl) ?_
  refine LP (fun N M S => ∃ v5 : Nat, (List.length a - v5 < N) ∧ M = samLS_L0 rec a b N v5 ∧ S = (sx 105 [(0, (jL (a.map aInline))), (1, (jL (b.map aInline))), (5, (jI ((v5 : Nat) : Int)))] [] [])) (by kernel_rfl) ⟨_, by omega, rfl, rfl⟩ (WK (by kernel_rfl)) ?_
  rintro n0 M S ⟨v5, hF0, rfl, rfl⟩
  obtain ⟨n0, rfl⟩ : ∃ k, n0 = k + 1 := ⟨n0 - 1, by omega⟩
  refine UF (samLS_L0.eq_2 ..) ?_
  refine GO (tn 4 z) (by kernel_rfl) ?_
  refine CSd (fun h2p h2 => ?_) (fun h2p h2 => ?_)
  ·have := lenM_eq aInline a
   have hcea := wl_el (w := wInline) (l := a) (i := v5) (by omega)
   have hcwa := wInline_eq (el a v5)
   simp only [wStr, w1] at hcwa
   have hceb := wl_el (w := wInline) (l := b) (i := v5) (by omega)
   have hcwb := wInline_eq (el b v5)
   simp only [wStr, w1] at hcwb
   have hla0 := wl_len (w := wStr) wStr_pos (el a v5).fArgs
   have hla1 := wl_len (w := wCited) wCited_pos (el a v5).fCites
   have hlb0 := wl_len (w := wStr) wStr_pos (el b v5).fArgs
   have hlb1 := wl_len (w := wCited) wCited_pos (el b v5).fCites
   refine GO (kb h2 z) (by kernel_rfl) ?_
   have d3 := (el_aInline a v5 (by omega))
   have d4 := (el_aInline b v5 (by omega))
   refine DR3 (tn 2 (ko (eO d3) (kp d3 (tn 5 (ko (eO d4) (kp d4 (kp d4 (tn 12 (kj (((el a v5).fKind : Int) != (el b v5).fKind) z (tn 5 z) (tn 1 (kj (cond (((el a v5).fKind : Int) != (el b v5).fKind) true (!eqs ((el a v5).fText) ((el b v5).fText))) z (tn 5 z) (tn 1 (kj (cond (cond (((el a v5).fKind : Int) != (el b v5).fKind) true (!eqs ((el a v5).fText) ((el b v5).fText))) true (!eqs ((el a v5).fDest) ((el b v5).fDest))) z (tn 5 z) (tn 1 (kj (cond (cond (cond (((el a v5).fKind : Int) != (el b v5).fKind) true (!eqs ((el a v5).fText) ((el b v5).fText))) true (!eqs ((el a v5).fDest) ((el b v5).fDest))) true (!eqs ((el a v5).fTitle) ((el b v5).fTitle))) z (tn 4 (hc (fun h => by have j0 := h.2; obtain ⟨j0a, j0o⟩ := cond_tt j0; obtain ⟨j0aa, j0ao⟩ := cond_tt j0a; obtain ⟨j0aaa, j0aao⟩ := cond_tt j0aa; have j0aaap := eq_of_bne_false j0aaa; have j0aaon := notf j0aao; have j0aon := notf j0ao; have j0on := notf j0o; exact (atsB_to ((el a v5).fAttr) ((el b v5).fAttr) (by omega) (by omega))) (tn 1 z))) (tn 1 (kj (cond (cond (cond (cond (((el a v5).fKind : Int) != (el b v5).fKind) true (!eqs ((el a v5).fText) ((el b v5).fText))) true (!eqs ((el a v5).fDest) ((el b v5).fDest))) true (!eqs ((el a v5).fTitle) ((el b v5).fTitle))) true (!atsB ((el a v5).fAttr) ((el b v5).fAttr))) z (tn 4 (hc (fun h => by have j0 := h.2; obtain ⟨j0a, j0o⟩ := cond_tt j0; obtain ⟨j0aa, j0ao⟩ := cond_tt j0a; obtain ⟨j0aaa, j0aao⟩ := cond_tt j0aa; obtain ⟨j0aaaa, j0aaao⟩ := cond_tt j0aaa; have j0aaaap := eq_of_bne_false j0aaaa; have j0aaaon := notf j0aaao; have j0aaon := notf j0aao; have j0aon := notf j0ao; have j0on := notf j0o; exact (textsB_to ((el a v5).fArgs) ((el b v5).fArgs) (by omega) (by omega))) (tn 1 z))) (tn 1 (kj (cond (cond (cond (cond (cond (((el a v5).fKind : Int) != (el b v5).fKind) true (!eqs ((el a v5).fText) ((el b v5).fText))) true (!eqs ((el a v5).fDest) ((el b v5).fDest))) true (!eqs ((el a v5).fTitle) ((el b v5).fTitle))) true (!atsB ((el a v5).fAttr) ((el b v5).fAttr))) true (!textsB ((el a v5).fArgs) ((el b v5).fArgs))) z (tn 7 z) (tn 1 (kj (cond (cond (cond (cond (cond (cond (((el a v5).fKind : Int) != (el b v5).fKind) true (!eqs ((el a v5).fText) ((el b v5).fText))) true (!eqs ((el a v5).fDest) ((el b v5).fDest))) true (!eqs ((el a v5).fTitle) ((el b v5).fTitle))) true (!atsB ((el a v5).fAttr) ((el b v5).fAttr))) true (!textsB ((el a v5).fArgs) ((el b v5).fArgs))) true (((lenM aCited ((el a v5).fCites) : Nat) : Int) != ((lenM aCited ((el b v5).fCites) : Nat) : Int))) z (tn 4 (hc (fun h => by have j0 := h.2; have := lenM_eq aCited ((el a v5).fCites); have := lenM_eq aCited ((el b v5).fCites); obtain ⟨j0a, j0o⟩ := cond_tt j0; obtain ⟨j0aa, j0ao⟩ := cond_tt j0a; obtain ⟨j0aaa, j0aao⟩ := cond_tt j0aa; obtain ⟨j0aaaa, j0aaao⟩ := cond_tt j0aaa; obtain ⟨j0aaaaa, j0aaaao⟩ := cond_tt j0aaaa; obtain ⟨j0aaaaaa, j0aaaaao⟩ := cond_tt j0aaaaa; have j0aaaaaap := eq_of_bne_false j0aaaaaa; have j0aaaaaon := notf j0aaaaao; have j0aaaaon := notf j0aaaao; have j0aaaon := notf j0aaao; have j0aaon := notf j0aao; have j0aon := notf j0ao; have := lenM_eq aCited ((el a v5).fCites); have := lenM_eq aCited ((el b v5).fCites); have j0op := eq_of_bne_false j0o; exact (hrec ((el a v5).fKids) ((el b v5).fKids) (by omega) (by omega) (by omega))) (tn 1 z))) z))))))))))))))))))))) (by kernel_rfl) (by kernel_rfl) (by kernel_rfl) ?_
   refine CS (fun h5 => ?_) (fun h5 => ?_)
   ·have := lenM_eq aCited ((el a v5).fCites)
    have := lenM_eq aCited ((el b v5).fCites)
    refine GO (kb h5 (tn 1 z)) (by kernel_rfl) ?_
    refine OUT z (by kernel_rfl) ?_
    exact EN (by kernel_rfl)
   ·have := lenM_eq aCited ((el a v5).fCites)
    have := lenM_eq aCited ((el b v5).fCites)
    obtain ⟨h5a, h5o⟩ := cond_tt h5
    have := lenM_eq aCited ((el a v5).fCites)
    have := lenM_eq aCited ((el b v5).fCites)
    obtain ⟨h5aa, h5ao⟩ := cond_tt h5a
    obtain ⟨h5aaa, h5aao⟩ := cond_tt h5aa
    obtain ⟨h5aaaa, h5aaao⟩ := cond_tt h5aaa
    obtain ⟨h5aaaaa, h5aaaao⟩ := cond_tt h5aaaa
    obtain ⟨h5aaaaaa, h5aaaaao⟩ := cond_tt h5aaaaa
    obtain ⟨h5aaaaaaa, h5aaaaaao⟩ := cond_tt h5aaaaaa
    have h5aaaaaaap := eq_of_bne_false h5aaaaaaa
    have h5aaaaaaon := notf h5aaaaaao
    have h5aaaaaon := notf h5aaaaao
    have h5aaaaon := notf h5aaaao
    have h5aaaon := notf h5aaao
    have h5aaon := notf h5aao
    have := lenM_eq aCited ((el a v5).fCites)
    have := lenM_eq aCited ((el b v5).fCites)
    have h5aop := eq_of_bne_false h5ao
    have h5on := notf h5o
    refine GO (kb h5 (tn 1 z)) (by kernel_rfl) ?_
    refine LP (fun N M S => ∃ w8 : Nat, (List.length ((el a v5).fCites) - w8 < N) ∧ M = samLS_L1 rec a b v5 (samLS_L0 rec a b n0) N w8 ∧ S = (sx 105 [(0, (jL (a.map aInline))), (1, (jL (b.map aInline))), (5, (jI ((v5 : Nat) : Int))), (6, (.ptr 6 0)), (7, (.ptr 7 0)), (8, (jI ((w8 : Nat) : Int))), (20, (jL (a.map aInline))), (21, (jI ((v5 : Nat) : Int))), (22, (.av (.ro [(vI ((el a v5).fKind)), (vS ((el a v5).fText)), (vS ((el a v5).fDest)), (vS ((el a v5).fTitle)), (vS (((el a v5).fAttr).fID)), (.sl ((((el a v5).fAttr).fClasses).map strAV)), (.sl ((((el a v5).fAttr).fPairs).map aPair)), (.sl (((el a v5).fArgs).map strAV)), (.sl (((el a v5).fCites).map aCited)), (.sl (((el a v5).fKids).map aInline))] 0))), (23, (.av (cInline (el a v5)))), (24, (jL (b.map aInline))), (25, (jI ((v5 : Nat) : Int))), (26, (.av (.ro [(vI ((el b v5).fKind)), (vS ((el b v5).fText)), (vS ((el b v5).fDest)), (vS ((el b v5).fTitle)), (vS (((el b v5).fAttr).fID)), (.sl ((((el b v5).fAttr).fClasses).map strAV)), (.sl ((((el b v5).fAttr).fPairs).map aPair)), (.sl (((el b v5).fArgs).map strAV)), (.sl (((el b v5).fCites).map aCited)), (.sl (((el b v5).fKids).map aInline))] 0))), (27, (.av (cInline (el b v5))))] [(7, (.cells 41 (sInline (el b v5)))), (6, (.cells 41 (sInline (el a v5))))] [])) (by kernel_rfl) ⟨_, by omega, rfl, rfl⟩ (WK (by kernel_rfl)) ?_
    rintro n1 M S ⟨w8, hF1, rfl, rfl⟩
    obtain ⟨n1, rfl⟩ : ∃ k, n1 = k + 1 := ⟨n1 - 1, by omega⟩
    refine UF (samLS_L1.eq_2 ..) ?_
    refine GO (tn 5 z) (by kernel_rfl) ?_
    refine CSd (fun h6p h6 => ?_) (fun h6p h6 => ?_)
    ·have := lenM_eq aCited ((el a v5).fCites)
     refine GO (kb h6 z) (by kernel_rfl) ?_
     have d7 := (el_aCited ((el a v5).fCites) w8 (by omega))
     have d8 := (el_aCited ((el b v5).fCites) w8 (by omega))
     refine DR3 (tn 3 (ko (eO d7) (kp d7 (tn 4 (ko (eO d8) (kp d8 (tn 2 z))))))) (by kernel_rfl) (by kernel_rfl) (by kernel_rfl) ?_
     refine CS (fun h9 => ?_) (fun h9 => ?_)
     ·have h9n := nott h9
      refine GO (kb h9 (tn 1 z)) (by kernel_rfl) ?_
      refine OUT z (by kernel_rfl) ?_
      refine OUT z (by kernel_rfl) ?_
      exact EN (by kernel_rfl)
     ·have h9n := notf h9
      refine GO (kb h9 (tn 1 (kn (wrE (((w8 : Nat) : Int) + 1) ((w8 + 1 : Nat) : Int) (by omega)) (tn 1 z)))) (by kernel_rfl) ?_
      exact AG ⟨_, by omega, rfl, rfl⟩ (WK (by kernel_rfl)) (by kernel_rfl) (Nat.lt_succ_self _)
    ·have := lenM_eq aCited ((el a v5).fCites)
     refine GO (kb h6 z) (by kernel_rfl) ?_
     refine OUT (tn 1 (kn (wrE (((v5 : Nat) : Int) + 1) ((v5 + 1 : Nat) : Int) (by omega)) (tn 1 z))) (by kernel_rfl) ?_
     exact AG ⟨_, by omega, rfl, rfl⟩ (WK (by kernel_rfl)) (by kernel_rfl) (Nat.lt_succ_self _)
  ·have := lenM_eq aInline a
   refine GO (kb h2 z) (by kernel_rfl) ?_
   refine OUT (tn 1 z) (by kernel_rfl) ?_
   exact EN (by kernel_rfl)
def samLN : Nat → (List DInline) → (List DInline) → Bool
 | 0, _, _ => default
 | n + 1, a, b => samLS (samLN n) a b
theorem samLN_to : ∀ (n : Nat) (a : List DInline) (b : List DInline), wl wInline a < n → wl wInline a ≤ 1073741824 → wl wInline b ≤ 1073741824 → CallTo Tryz.prog 52 [(jL (a.map aInline)), (jL (b.map aInline))] [] [] (jB (samLN n a b)) [] []
 | 0, a, b, h0, _, _ => absurd h0 (Nat.not_lt_zero _)
 | n + 1, a, b, h0, ha, hb => by
  exact samL_st (samLN n) a b ha hb (fun a' b' q1 ha' hb' => samLN_to n a' b' (by omega) ha' hb')
def samL (a : List DInline) (b : List DInline) : Bool := samLN (wl wInline a + 1) a b
theorem samL_to (a : List DInline) (b : List DInline) (ha : wl wInline a ≤ 1073741824) (hb : wl wInline b ≤ 1073741824) : CallTo Tryz.prog 52 [(jL (a.map aInline)), (jL (b.map aInline))] [] [] (jB (samL a b)) [] [] := samLN_to _ a b (Nat.lt_succ_self _) ha hb
end Go.Proofs.YtdaglbjgdakmcaaGreat
namespace Go.Proofs.YtdaglbjgdakmcaaGreat
open Go Go.Eng
theorem drop_el {α : Type} [Inhabited α] {l : List α} {i : Nat} (h : i < l.length) : l.drop i = el l i :: l.drop (i + 1) := by
 rw [List.drop_eq_getElem_cons h]; simp [el, h]
theorem loop_flat {α β : Type} [Inhabited α] (f : α → AV) (l : List α) (g : α → List β) (F : Nat → List β → Nat → List β) (hF : ∀ n acc i, F (n + 1) acc i = cond (decide (((i : Nat) : Int) < ((lenM f l : Nat) : Int))) (F n (acc ++ g (el l i)) (i + 1)) acc) : ∀ (n : Nat) (acc : List β) (i : Nat), l.length - i < n → F n acc i = acc ++ (l.drop i).flatMap g
 | 0, acc, i, h => by omega
 | n + 1, acc, i, h => by
  have hl := lenM_eq f l
  rw [hF]
  by_cases hi : i < l.length
  ·rw [show decide (((i : Nat) : Int) < ((lenM f l : Nat) : Int)) = true from decide_eq_true (by omega), cond_true, loop_flat f l g F hF n _ _ (by omega), drop_el hi]
   simp
  ·rw [show decide (((i : Nat) : Int) < ((lenM f l : Nat) : Int)) = false from decide_eq_false (by omega), cond_false, List.drop_eq_nil_of_le (by omega)]
   simp
theorem flat_eq {α β : Type} {g g' : α → List β} : ∀ {l : List α}, (∀ x ∈ l, g x = g' x) → l.flatMap g = l.flatMap g'
 | [], _ => rfl
 | x :: l, h => by rw [List.flatMap_cons, List.flatMap_cons, h x (by simp), flat_eq (fun y hy => h y (by simp [hy]))]
def samBS_L0 (rec : (List DBlock) → (List DBlock) → Bool) (a : List DBlock) (b : List DBlock) : Nat → Nat → Bool
 | 0, _ => default
 | n0 + 1, v5 => cond (decide (((v5 : Nat) : Int) < ((lenM aBlock a : Nat) : Int))) (cond (cond (cond (cond (cond (cond (cond (cond (cond (((el a v5).fKind : Int) != (el b v5).fKind) true (((el a v5).fLevel : Int) != (el b v5).fLevel)) true (!eqs ((el a v5).fInfo) ((el b v5).fInfo))) true (!eqs ((el a v5).fText) ((el b v5).fText))) true (!eqs ((el a v5).fDest) ((el b v5).fDest))) true (!eqs ((el a v5).fTitle) ((el b v5).fTitle))) true (!atsB ((el a v5).fAttr) ((el b v5).fAttr))) true (!samL ((el a v5).fLine) ((el b v5).fLine))) true (!rec ((el a v5).fKids) ((el b v5).fKids))) false (samBS_L0 rec a b n0 (v5 + 1))) true
def samBS (rec : (List DBlock) → (List DBlock) → Bool) (a : List DBlock) (b : List DBlock) : Bool := cond (((lenM aBlock a : Nat) : Int) != ((lenM aBlock b : Nat) : Int)) false (samBS_L0 rec a b ((List.length a - 0) + 1) 0)
theorem samB_st (rec : (List DBlock) → (List DBlock) → Bool) (a : List DBlock) (b : List DBlock) (ha : wl wBlock a ≤ 1073741824) (hb : wl wBlock b ≤ 1073741824) (hrec : ∀ (a' : List DBlock) (b' : List DBlock), wl wBlock a' < wl wBlock a → wl wBlock a' ≤ 1073741824 → wl wBlock b' ≤ 1073741824 → CallTo Tryz.prog 27 [(jL ((a').map aBlock)), (jL ((b').map aBlock))] [] [] (jB (rec a' b')) [] []) : CallTo Tryz.prog 27 [(jL (a.map aBlock)), (jL (b.map aBlock))] [] [] (jB (samBS rec a b)) [] [] := by
 have hw_0 := wl_len (w := wBlock) wBlock_pos a
 have hw_1 := wl_len (w := wBlock) wBlock_pos b
 refine BEG (fun r : Bool => (jB r)) (samBS rec a b) Tryz.func27 (by kernel_rfl) ?_
 refine UF (samBS.eq_1 ..) ?_
 refine GO (tn 6 z) (by kernel_rfl) ?_
 refine CSn (fun h1p h1 => ?_) (fun h1p h1 => ?_)
 ·have := lenM_eq aBlock a
  have := lenM_eq aBlock b
  refine GO (kb h1 (tn 1 z)) (by kernel_rfl) ?_
  exact EN (by kernel_rfl)
 ·have := lenM_eq aBlock a
  have := lenM_eq aBlock b
  refine GO (kb h1 (tn 1 z)) (by kernel_rfl) ?_
  refine LP (fun N M S => ∃ v5 : Nat, (List.length a - v5 < N) ∧ M = samBS_L0 rec a b N v5 ∧ S = (sx 91 [(0, (jL (a.map aBlock))), (1, (jL (b.map aBlock))), (5, (jI ((v5 : Nat) : Int)))] [] [])) (by kernel_rfl) ⟨_, by omega, rfl, rfl⟩ (WK (by kernel_rfl)) ?_
  rintro n0 M S ⟨v5, hF0, rfl, rfl⟩
  obtain ⟨n0, rfl⟩ : ∃ k, n0 = k + 1 := ⟨n0 - 1, by omega⟩
  refine UF (samBS_L0.eq_2 ..) ?_
  refine GO (tn 4 z) (by kernel_rfl) ?_
  refine CSd (fun h2p h2 => ?_) (fun h2p h2 => ?_)
  ·have := lenM_eq aBlock a
   have hcea := wl_el (w := wBlock) (l := a) (i := v5) (by omega)
   have hcwa := wBlock_eq (el a v5)
   simp only [wStr, w1] at hcwa
   have hceb := wl_el (w := wBlock) (l := b) (i := v5) (by omega)
   have hcwb := wBlock_eq (el b v5)
   simp only [wStr, w1] at hcwb
   refine GO (kb h2 z) (by kernel_rfl) ?_
   have d3 := (el_aBlock a v5 (by omega))
   have d4 := (el_aBlock b v5 (by omega))
   refine DR3 (tn 2 (ko (eO d3) (kp d3 (tn 5 (ko (eO d4) (kp d4 (kp d4 (tn 12 (kj (((el a v5).fKind : Int) != (el b v5).fKind) z (tn 5 z) (tn 1 (kj (cond (((el a v5).fKind : Int) != (el b v5).fKind) true (((el a v5).fLevel : Int) != (el b v5).fLevel)) z (tn 5 z) (tn 1 (kj (cond (cond (((el a v5).fKind : Int) != (el b v5).fKind) true (((el a v5).fLevel : Int) != (el b v5).fLevel)) true (!eqs ((el a v5).fInfo) ((el b v5).fInfo))) z (tn 5 z) (tn 1 (kj (cond (cond (cond (((el a v5).fKind : Int) != (el b v5).fKind) true (((el a v5).fLevel : Int) != (el b v5).fLevel)) true (!eqs ((el a v5).fInfo) ((el b v5).fInfo))) true (!eqs ((el a v5).fText) ((el b v5).fText))) z (tn 5 z) (tn 1 (kj (cond (cond (cond (cond (((el a v5).fKind : Int) != (el b v5).fKind) true (((el a v5).fLevel : Int) != (el b v5).fLevel)) true (!eqs ((el a v5).fInfo) ((el b v5).fInfo))) true (!eqs ((el a v5).fText) ((el b v5).fText))) true (!eqs ((el a v5).fDest) ((el b v5).fDest))) z (tn 5 z) (tn 1 (kj (cond (cond (cond (cond (cond (((el a v5).fKind : Int) != (el b v5).fKind) true (((el a v5).fLevel : Int) != (el b v5).fLevel)) true (!eqs ((el a v5).fInfo) ((el b v5).fInfo))) true (!eqs ((el a v5).fText) ((el b v5).fText))) true (!eqs ((el a v5).fDest) ((el b v5).fDest))) true (!eqs ((el a v5).fTitle) ((el b v5).fTitle))) z (tn 4 (hc (fun h => by have j0 := h.2; obtain ⟨j0a, j0o⟩ := cond_tt j0; obtain ⟨j0aa, j0ao⟩ := cond_tt j0a; obtain ⟨j0aaa, j0aao⟩ := cond_tt j0aa; obtain ⟨j0aaaa, j0aaao⟩ := cond_tt j0aaa; obtain ⟨j0aaaaa, j0aaaao⟩ := cond_tt j0aaaa; have j0aaaaap := eq_of_bne_false j0aaaaa; have j0aaaaop := eq_of_bne_false j0aaaao; have j0aaaon := notf j0aaao; have j0aaon := notf j0aao; have j0aon := notf j0ao; have j0on := notf j0o; exact (atsB_to ((el a v5).fAttr) ((el b v5).fAttr) (by omega) (by omega))) (tn 1 z))) (tn 1 (kj (cond (cond (cond (cond (cond (cond (((el a v5).fKind : Int) != (el b v5).fKind) true (((el a v5).fLevel : Int) != (el b v5).fLevel)) true (!eqs ((el a v5).fInfo) ((el b v5).fInfo))) true (!eqs ((el a v5).fText) ((el b v5).fText))) true (!eqs ((el a v5).fDest) ((el b v5).fDest))) true (!eqs ((el a v5).fTitle) ((el b v5).fTitle))) true (!atsB ((el a v5).fAttr) ((el b v5).fAttr))) z (tn 4 (hc (fun h => by have j0 := h.2; obtain ⟨j0a, j0o⟩ := cond_tt j0; obtain ⟨j0aa, j0ao⟩ := cond_tt j0a; obtain ⟨j0aaa, j0aao⟩ := cond_tt j0aa; obtain ⟨j0aaaa, j0aaao⟩ := cond_tt j0aaa; obtain ⟨j0aaaaa, j0aaaao⟩ := cond_tt j0aaaa; obtain ⟨j0aaaaaa, j0aaaaao⟩ := cond_tt j0aaaaa; have j0aaaaaap := eq_of_bne_false j0aaaaaa; have j0aaaaaop := eq_of_bne_false j0aaaaao; have j0aaaaon := notf j0aaaao; have j0aaaon := notf j0aaao; have j0aaon := notf j0aao; have j0aon := notf j0ao; have j0on := notf j0o; exact (samL_to ((el a v5).fLine) ((el b v5).fLine) (by omega) (by omega))) (tn 1 z))) (tn 1 (kj (cond (cond (cond (cond (cond (cond (cond (((el a v5).fKind : Int) != (el b v5).fKind) true (((el a v5).fLevel : Int) != (el b v5).fLevel)) true (!eqs ((el a v5).fInfo) ((el b v5).fInfo))) true (!eqs ((el a v5).fText) ((el b v5).fText))) true (!eqs ((el a v5).fDest) ((el b v5).fDest))) true (!eqs ((el a v5).fTitle) ((el b v5).fTitle))) true (!atsB ((el a v5).fAttr) ((el b v5).fAttr))) true (!samL ((el a v5).fLine) ((el b v5).fLine))) z (tn 4 (hc (fun h => by have j0 := h.2; obtain ⟨j0a, j0o⟩ := cond_tt j0; obtain ⟨j0aa, j0ao⟩ := cond_tt j0a; obtain ⟨j0aaa, j0aao⟩ := cond_tt j0aa; obtain ⟨j0aaaa, j0aaao⟩ := cond_tt j0aaa; obtain ⟨j0aaaaa, j0aaaao⟩ := cond_tt j0aaaa; obtain ⟨j0aaaaaa, j0aaaaao⟩ := cond_tt j0aaaaa; obtain ⟨j0aaaaaaa, j0aaaaaao⟩ := cond_tt j0aaaaaa; have j0aaaaaaap := eq_of_bne_false j0aaaaaaa; have j0aaaaaaop := eq_of_bne_false j0aaaaaao; have j0aaaaaon := notf j0aaaaao; have j0aaaaon := notf j0aaaao; have j0aaaon := notf j0aaao; have j0aaon := notf j0aao; have j0aon := notf j0ao; have j0on := notf j0o; exact (hrec ((el a v5).fKids) ((el b v5).fKids) (by omega) (by omega) (by omega))) (tn 1 z))) z))))))))))))))))))))))) (by kernel_rfl) (by kernel_rfl) (by kernel_rfl) ?_
   refine CS (fun h5 => ?_) (fun h5 => ?_)
   ·refine GO (kb h5 (tn 1 z)) (by kernel_rfl) ?_
    refine OUT z (by kernel_rfl) ?_
    exact EN (by kernel_rfl)
   ·obtain ⟨h5a, h5o⟩ := cond_tt h5
    obtain ⟨h5aa, h5ao⟩ := cond_tt h5a
    obtain ⟨h5aaa, h5aao⟩ := cond_tt h5aa
    obtain ⟨h5aaaa, h5aaao⟩ := cond_tt h5aaa
    obtain ⟨h5aaaaa, h5aaaao⟩ := cond_tt h5aaaa
    obtain ⟨h5aaaaaa, h5aaaaao⟩ := cond_tt h5aaaaa
    obtain ⟨h5aaaaaaa, h5aaaaaao⟩ := cond_tt h5aaaaaa
    obtain ⟨h5aaaaaaaa, h5aaaaaaao⟩ := cond_tt h5aaaaaaa
    have h5aaaaaaaap := eq_of_bne_false h5aaaaaaaa
    have h5aaaaaaaop := eq_of_bne_false h5aaaaaaao
    have h5aaaaaaon := notf h5aaaaaao
    have h5aaaaaon := notf h5aaaaao
    have h5aaaaon := notf h5aaaao
    have h5aaaon := notf h5aaao
    have h5aaon := notf h5aao
    have h5aon := notf h5ao
    have h5on := notf h5o
    refine GO (kb h5 (tn 1 (kn (wrE (((v5 : Nat) : Int) + 1) ((v5 + 1 : Nat) : Int) (by omega)) (tn 1 z)))) (by kernel_rfl) ?_
    exact AG ⟨_, by omega, rfl, rfl⟩ (WK (by kernel_rfl)) (by kernel_rfl) (Nat.lt_succ_self _)
  ·have := lenM_eq aBlock a
   refine GO (kb h2 z) (by kernel_rfl) ?_
   refine OUT (tn 1 z) (by kernel_rfl) ?_
   exact EN (by kernel_rfl)
def samBN : Nat → (List DBlock) → (List DBlock) → Bool
 | 0, _, _ => default
 | n + 1, a, b => samBS (samBN n) a b
theorem samBN_to : ∀ (n : Nat) (a : List DBlock) (b : List DBlock), wl wBlock a < n → wl wBlock a ≤ 1073741824 → wl wBlock b ≤ 1073741824 → CallTo Tryz.prog 27 [(jL (a.map aBlock)), (jL (b.map aBlock))] [] [] (jB (samBN n a b)) [] []
 | 0, a, b, h0, _, _ => absurd h0 (Nat.not_lt_zero _)
 | n + 1, a, b, h0, ha, hb => by
  exact samB_st (samBN n) a b ha hb (fun a' b' q1 ha' hb' => samBN_to n a' b' (by omega) ha' hb')
def samB (a : List DBlock) (b : List DBlock) : Bool := samBN (wl wBlock a + 1) a b
theorem samB_to (a : List DBlock) (b : List DBlock) (ha : wl wBlock a ≤ 1073741824) (hb : wl wBlock b ≤ 1073741824) : CallTo Tryz.prog 27 [(jL (a.map aBlock)), (jL (b.map aBlock))] [] [] (jB (samB a b)) [] [] := samBN_to _ a b (Nat.lt_succ_self _) ha hb
def samD (a : DDoc) (b : DDoc) : Bool := cond (pairsB a.fMeta b.fMeta) (samB a.fBlocks b.fBlocks) false
theorem samD_to (a : DDoc) (b : DDoc) (ha : wDoc a ≤ 1073741824) (hb : wDoc b ≤ 1073741824) : CallTo Tryz.prog 11 [(.av (cDoc a)), (.av (cDoc b))] [] [] (jB (samD a b)) [] [] := by
 have hwa := wDoc_eq a
 have hwb := wDoc_eq b
 have hw_0 := wl_len (w := wPair) wPair_pos a.fMeta
 have hw_1 := wl_len (w := wPair) wPair_pos b.fMeta
 refine BEG (fun r : Bool => (jB r)) (samD a b) Tryz.func11 (by kernel_rfl) ?_
 refine UF (samD.eq_1 ..) ?_
 refine GO (tn 7 (kc (pairsB_to a.fMeta b.fMeta (by omega) (by omega)) (tn 1 (kj (pairsB a.fMeta b.fMeta) (tn 4 (hc (fun h => by have j0 := h.2; exact (samB_to a.fBlocks b.fBlocks (by omega) (by omega))) z)) z (tn 1 z))))) (by kernel_rfl) ?_
 exact EN (by kernel_rfl)
def dpIS_L0 (rec : (List DInline) → List DInline) (l : List DInline) : Nat → (List DInline) → Nat → List DInline
 | 0, _, _ => default
 | n0 + 1, v3, v4 => cond (decide (((v4 : Nat) : Int) < ((lenM aInline l : Nat) : Int))) (dpIS_L0 rec l n0 ((v3 ++ ([el l v4])) ++ (rec ((el l v4).fKids))) (v4 + 1)) v3
def dpIS (rec : (List DInline) → List DInline) (l : List DInline) : List DInline := dpIS_L0 rec l ((List.length l - 0) + 1) ([]) 0
def dpIN : Nat → (List DInline) → List DInline
 | 0, _ => default
 | n + 1, l => dpIS (dpIN n) l
theorem dpIS_eq (rec : (List DInline) → List DInline) (l : List DInline) : dpIS rec l = l.flatMap (fun x => x :: rec x.fKids) := by
 have := loop_flat aInline l (fun x => x :: rec x.fKids) (dpIS_L0 rec l) (fun n acc i => by rw [dpIS_L0]; simp) ((List.length l - 0) + 1) [] 0 (by omega)
 rw [dpIS, this]; simp
def dpI (l : List DInline) : List DInline := dpIN (wl wInline l + 1) l
def lsBS_L0 (rec : (List DBlock) → List DBlock) (l : List DBlock) : Nat → (List DBlock) → Nat → List DBlock
 | 0, _, _ => default
 | n0 + 1, v3, v4 => cond (decide (((v4 : Nat) : Int) < ((lenM aBlock l : Nat) : Int))) (lsBS_L0 rec l n0 ((v3 ++ ([el l v4])) ++ (rec ((el l v4).fKids))) (v4 + 1)) v3
def lsBS (rec : (List DBlock) → List DBlock) (l : List DBlock) : List DBlock := lsBS_L0 rec l ((List.length l - 0) + 1) ([]) 0
theorem lsB_st (rec : (List DBlock) → List DBlock) (l : List DBlock) (hl : wl wBlock l ≤ 1073741824) (hrec : ∀ (l' : List DBlock), wl wBlock l' < wl wBlock l → wl wBlock l' ≤ 1073741824 → CallTo Tryz.prog 28 [(jL ((l').map aBlock))] [] [] (jL ((rec l').map aBlock)) [] []) (hrb : ∀ (l' : List DBlock), wl wBlock l' < wl wBlock l → wl wBlock l' ≤ 1073741824 → (rec l').length ≤ wl wBlock l') : CallTo Tryz.prog 28 [(jL (l.map aBlock))] [] [] (jL ((lsBS rec l).map aBlock)) [] [] := by
 have hw_0 := wl_len (w := wBlock) wBlock_pos l
 refine BEG (fun r : List DBlock => (jL (r.map aBlock))) (lsBS rec l) Tryz.func28 (by kernel_rfl) ?_
 refine UF (lsBS.eq_1 ..) ?_
 refine GO (tn 3 z) (by kernel_rfl) ?_
 refine LP (fun N M S => ∃ gv3 : Nat, ∃ v3 : List DBlock, ∃ v4 : Nat, (v3.length ≤ wl wBlock (l.take v4)) ∧ (List.length l - v4 < N) ∧ M = lsBS_L0 rec l N v3 v4 ∧ S = (sx 27 [(0, (jL (l.map aBlock))), (3, (.own (203, 66) gv3 11 (v3.map aBlock))), (4, (jI ((v4 : Nat) : Int)))] [] [((203, 66), gv3)])) (by kernel_rfl) ⟨0, _, _, by first | omega | assumption | (simp only [lenM_eq]; omega) | (simp; done) | (simp; omega), by omega, rfl, rfl⟩ (WKf [(3, (.own (203, 66) 0 11 (([]).map aBlock)))] (ac (show ((([]).map aBlock) : List AV) = [] ∧ 0 < 66 ∧ (0 : Nat) = 0 from ⟨rfl, by decide, rfl⟩) an) (by kernel_rfl)) ?_
 rintro n0 M S ⟨gv3, v3, v4, hv, hF0, rfl, rfl⟩
 obtain ⟨n0, rfl⟩ : ∃ k, n0 = k + 1 := ⟨n0 - 1, by omega⟩
 refine UF (lsBS_L0.eq_2 ..) ?_
 refine GO (tn 4 z) (by kernel_rfl) ?_
 refine CSd (fun h1p h1 => ?_) (fun h1p h1 => ?_)
 ·have := lenM_eq aBlock l
  have hce := wl_el (w := wBlock) (l := l) (i := v4) (by omega)
  have hcw := wBlock_eq (el l v4)
  simp only [wStr, w1] at hcw
  have htk := wl_take (w := wBlock) (l := l) (i := v4) (by omega)
  have := hrb ((el l v4).fKids) (by omega) (by omega)
  refine GO (kb h1 (tn 3 (ke (el_aBlock l v4 (by omega)) (tn 1 (kp (show Uni 11 [(cBlock (el l v4))] from (uni_one rfl rfl)) (kp (show (gv3 : Nat) = gv3 ∧ Uni 11 [(cBlock (el l v4))] ∧ (((v3.map aBlock) : List AV).length + ([(cBlock (el l v4))] : List AV).length) * 192 ≤ 140737488355328 from ⟨rfl, uni_one rfl rfl, by first | omega | (simp; done) | (simp; omega)⟩) (kw (ap1_aBlock v3 (el l v4)) (tn 4 (ke (el_aBlock l v4 (by omega)) (tn 2 (kc (hrec ((el l v4).fKids) (by omega) (by omega)) (kp (show (gv3 + 1 : Nat) = gv3 + 1 ∧ Uni 11 ((rec ((el l v4).fKids)).map aBlock) ∧ ((((v3 ++ ([el l v4])).map aBlock) : List AV).length + (((rec ((el l v4).fKids)).map aBlock) : List AV).length) * 192 ≤ 140737488355328 from ⟨rfl, uni_aBlock _, by first | omega | (simp; done) | (simp; omega)⟩) (kw (apL aBlock (v3 ++ ([el l v4])) (rec ((el l v4).fKids))) (tn 2 (kn (wrE (((v4 : Nat) : Int) + 1) ((v4 + 1 : Nat) : Int) (by omega)) (tn 1 z)))))))))))))))) (by kernel_rfl) ?_
  exact AG ⟨gv3 + 1 + 1, _, _, by first | omega | assumption | (simp only [lenM_eq]; omega) | (simp; done) | (simp; omega), by omega, rfl, rfl⟩ (WK (by kernel_rfl)) (by kernel_rfl) (Nat.lt_succ_self _)
 ·have := lenM_eq aBlock l
  refine GO (kb h1 z) (by kernel_rfl) ?_
  refine OUT (tn 2 z) (by kernel_rfl) ?_
  exact EN (by kernel_rfl)
def lsBN : Nat → (List DBlock) → List DBlock
 | 0, _ => default
 | n + 1, l => lsBS (lsBN n) l
theorem lsBS_eq (rec : (List DBlock) → List DBlock) (l : List DBlock) : lsBS rec l = l.flatMap (fun x => x :: rec x.fKids) := by
 have := loop_flat aBlock l (fun x => x :: rec x.fKids) (lsBS_L0 rec l) (fun n acc i => by rw [lsBS_L0]; simp) ((List.length l - 0) + 1) [] 0 (by omega)
 rw [lsBS, this]; simp
def lsB (l : List DBlock) : List DBlock := lsBN (wl wBlock l + 1) l
end Go.Proofs.YtdaglbjgdakmcaaGreat
namespace Go.Proofs.YtdaglbjgdakmcaaGreat
open Go Go.Eng
def sepB (c : Int) : Bool := c == 32 || c == 40 || c == 41
def wendN (s : ByteArray) : Nat → Nat → Nat
 | 0, k => k
 | n + 1, k => if sepB (byt s k) then k else wendN s n (k + 1)
def wend (s : ByteArray) (k : Nat) : Nat := wendN s (s.size - k) k
def toksN (s : ByteArray) : Nat → Nat → List ByteArray
  | 0, _ => []
  | n + 1, i => if s.size ≤ i then [] else if byt s i == 32 then toksN s n (i + 1)
    else if byt s i == 40 || byt s i == 41 then s.extract i (i + 1) :: toksN s n (i + 1)
    else s.extract i (wend s i) :: toksN s n (wend s i)
def toks (s : ByteArray) (i : Nat) : List ByteArray := toksN s (s.size - i) i
theorem wend_stop (s : ByteArray) (k : Nat) (h : s.size ≤ k) : wend s k = k := by
 unfold wend; rw [show s.size - k = 0 by omega]; rfl
theorem wend_sep (s : ByteArray) (k : Nat) (h : sepB ((byt s k : Nat) : Int) = true) : wend s k = k := by
 unfold wend
 cases hn : s.size - k with
 | zero => rfl
 | succ n => rw [wendN, if_pos h]
theorem wend_step (s : ByteArray) (k : Nat) (h : k < s.size) (hb : sepB ((byt s k : Nat) : Int) = false) : wend s k = wend s (k + 1) := by
 unfold wend
 rw [show s.size - k = s.size - (k + 1) + 1 by omega, wendN, if_neg (by simp [hb])]
theorem wend_le (s : ByteArray) : ∀ (n k : Nat), s.size - k = n → k ≤ s.size → wend s k ≤ s.size ∧ k ≤ wend s k := by
 intro n
 induction n with
 | zero => intro k h1 h2; rw [wend_stop s k (by omega)]; omega
 | succ n ih =>
  intro k h1 h2
  cases hb : sepB ((byt s k : Nat) : Int) with
  | true => rw [wend_sep s k hb]; omega
  | false => rw [wend_step s k (by omega) hb]; have := ih (k + 1) (by omega) (by omega); omega
theorem wend_gt (s : ByteArray) (k : Nat) (h : k < s.size) (hb : sepB ((byt s k : Nat) : Int) = false) : wend s k ≤ s.size ∧ k < wend s k := by
 rw [wend_step s k h hb]; have := wend_le s (s.size - (k + 1)) (k + 1) rfl (by omega); omega
theorem sep_false {c : Nat} (h : sepB (c : Int) = false) : (c == 32) = false ∧ (c == 40) = false ∧ (c == 41) = false := by
 simp only [sepB, Bool.or_eq_false_iff] at h
 obtain ⟨⟨h1, h2⟩, h3⟩ := h
 have f : ∀ n : Nat, (((c : Nat) : Int) == (n : Int)) = false → (c == n) = false := fun n hn => by rw [← natbeq]; exact hn
 exact ⟨f 32 h1, f 40 h2, f 41 h3⟩
theorem toksN_eq (s : ByteArray) : ∀ (n m i : Nat), s.size - i ≤ n → s.size - i ≤ m → toksN s n i = toksN s m i := by
 intro n
 induction n with
 | zero =>
  intro m i h1 h2
  cases m with
  | zero => rfl
  | succ m => rw [toksN, toksN, if_pos (by omega)]
 | succ n ih =>
  intro m i h1 h2
  cases m with
  | zero => rw [toksN, toksN, if_pos (by omega)]
  | succ m =>
   rw [toksN, toksN]
   by_cases hi : s.size ≤ i
   ·rw [if_pos hi, if_pos hi]
   ·rw [if_neg hi, if_neg hi]
    split
    ·exact ih m (i + 1) (by omega) (by omega)
    ·split
     ·rw [ih m (i + 1) (by omega) (by omega)]
     ·rename_i h3 h4
      have hs : sepB ((byt s i : Nat) : Int) = false := by
       simp only [sepB]
       have e : ∀ n : Nat, (((byt s i : Nat) : Int) == (n : Int)) = (byt s i == n) := fun n => natbeq _ _
       rw [show (32 : Int) = ((32 : Nat) : Int) from rfl, show (40 : Int) = ((40 : Nat) : Int) from rfl, show (41 : Int) = ((41 : Nat) : Int) from rfl, e, e, e]
       simp_all
      have := wend_gt s i (by omega) hs
      rw [ih m (wend s i) (by omega) (by omega)]
theorem toks_end (s : ByteArray) (i : Nat) (h : s.size ≤ i) : toks s i = [] := by
 unfold toks; rw [show s.size - i = 0 by omega]; rfl
theorem toks_sp (s : ByteArray) (i : Nat) (h : i < s.size) (hb : ((byt s i : Nat) : Int) = 32) : toks s i = toks s (i + 1) := by
 unfold toks
 rw [show s.size - i = s.size - (i + 1) + 1 by omega, toksN, if_neg (by omega), if_pos (by simp; omega)]
theorem toks_par (s : ByteArray) (i : Nat) (h : i < s.size) (hb : ((byt s i : Nat) : Int) = 40 ∨ ((byt s i : Nat) : Int) = 41) : toks s i = s.extract i (i + 1) :: toks s (i + 1) := by
 unfold toks
 rw [show s.size - i = s.size - (i + 1) + 1 by omega, toksN, if_neg (by omega), if_neg (by simp; omega), if_pos (by simp; omega)]
theorem toks_word (s : ByteArray) (i : Nat) (h : i < s.size) (hb : sepB ((byt s i : Nat) : Int) = false) : toks s i = s.extract i (wend s i) :: toks s (wend s i) := by
 have hw := wend_gt s i h hb
 obtain ⟨h1, h2, h3⟩ := sep_false hb
 unfold toks
 rw [show s.size - i = s.size - (i + 1) + 1 by omega, toksN, if_neg (by omega), if_neg (by simp [h1]), if_neg (by simp [h2, h3]), toksN_eq s _ (s.size - wend s i) _ (by omega) (by omega)]
theorem wend_is (s : ByteArray) : ∀ (n a b : Nat), b - a = n → a ≤ b → b ≤ s.size → (∀ j, a ≤ j → j < b → sepB ((byt s j : Nat) : Int) = false) → (b = s.size ∨ sepB ((byt s b : Nat) : Int) = true) → wend s a = b := by
 intro n
 induction n with
 | zero =>
  intro a b h1 h2 h3 _ h5
  have : a = b := by omega
  subst this
  rcases h5 with h5 | h5
  ·exact wend_stop s a (by omega)
  ·exact wend_sep s a h5
 | succ n ih =>
  intro a b h1 h2 h3 h4 h5
  rw [wend_step s a (by omega) (h4 a (Nat.le_refl _) (by omega))]
  exact ih (a + 1) b (by omega) (by omega) h3 (fun j q1 q2 => h4 j (by omega) q2) h5
theorem toks_cut (s : ByteArray) (f i : Nat) (hf : f ≤ i) (hi : i ≤ s.size) (hN : ∀ j, f ≤ j → j < i → sepB ((byt s j : Nat) : Int) = false) (he : i = s.size ∨ sepB ((byt s i : Nat) : Int) = true) :
  toks s f = (if f < i then [s.extract f i] else []) ++ ((if i < s.size ∧ ((byt s i : Nat) : Int) ≠ 32 then [s.extract i (i + 1)] else []) ++ toks s (i + 1)) := by
 have tail : toks s i = (if i < s.size ∧ ((byt s i : Nat) : Int) ≠ 32 then [s.extract i (i + 1)] else []) ++ toks s (i + 1) := by
  rcases he with he | he
  ·rw [if_neg (by omega), toks_end s i (by omega), toks_end s (i + 1) (by omega)]; rfl
  ·by_cases hlt : i < s.size
   ·by_cases h32 : ((byt s i : Nat) : Int) = 32
    ·rw [if_neg (by omega), toks_sp s i hlt h32]; rfl
    ·rw [if_pos ⟨hlt, h32⟩, toks_par s i hlt]; rfl
     simp only [sepB, Bool.or_eq_true, beq_iff_eq] at he
     rcases he with (he | he) | he
     ·exact absurd he h32
     ·exact .inl he
     ·exact .inr he
   ·rw [if_neg (by omega), toks_end s i (by omega), toks_end s (i + 1) (by omega)]; rfl
 by_cases hlt : f < i
 ·rw [if_pos hlt, toks_word s f (by omega) (hN f (Nat.le_refl _) hlt), wend_is s (i - f) f i rfl hf hi hN he, tail]; rfl
 ·have : f = i := by omega
  subst this
  rw [if_neg hlt, tail]; rfl
theorem nsep_snoc {s : ByteArray} {f i : Nat} (hN : ∀ j, f ≤ j → j < i → sepB ((byt s j : Nat) : Int) = false) (h : sepB ((byt s i : Nat) : Int) = false) : ∀ j, f ≤ j → j < i + 1 → sepB ((byt s j : Nat) : Int) = false := by
 intro j h1 h2
 rcases Nat.lt_or_ge j i with h3 | h3
 ·exact hN j h1 h3
 ·have : j = i := by omega
  subst this; exact h
theorem nsep_none {s : ByteArray} {i : Nat} : ∀ j, i + 1 ≤ j → j < i + 1 → sepB ((byt s j : Nat) : Int) = false := by intro j h1 h2; omega
def hasI (l : List ByteArray) (s : ByteArray) (i : Nat) : Bool := (l.drop i).any (fun x => eqs x s)
theorem hasI_end (l : List ByteArray) (s : ByteArray) (i : Nat) (h : l.length ≤ i) : hasI l s i = false := by
 simp [hasI, List.drop_eq_nil_of_le h]
theorem hasI_step (l : List ByteArray) (s : ByteArray) (i : Nat) (h : i < l.length) : hasI l s i = (eqs (nth l i) s || hasI l s (i + 1)) := by
 simp only [hasI]
 rw [List.drop_eq_getElem_cons h, List.any_cons]
 simp only [nth, List.getD_eq_getElem?_getD, List.getElem?_eq_getElem h, Option.getD_some]
inductive Nd where
 | mk (kind : Int) (name : ByteArray) (kids : List Nd)
def Nd.kind : Nd → Int | .mk k _ _ => k
def Nd.name : Nd → ByteArray | .mk _ n _ => n
def Nd.kids : Nd → List Nd | .mk _ _ l => l
def nd0 : Nd := .mk 0 ⟨#[]⟩ []
mutual
def av1 : Nd → AV
 | .mk k n l => .agg [.val (.int .i64 k), .val (.string n), .sl (av2 l)]
def av2 : List Nd → List AV
 | [] => []
 | x :: l => av1 x :: av2 l
end
def nav (x : Nd) : AV := .agg [.val (.int .i64 x.kind), .val (.string x.name), .sl (av2 x.kids)]
theorem av1_eq (x : Nd) : av1 x = nav x := by cases x; simp only [av1, nav, Nd.kind, Nd.name, Nd.kids]
theorem av2_eq : ∀ l : List Nd, av2 l = l.map nav
 | [] => by simp only [av2]; rfl
 | x :: l => by simp only [av2, av1_eq, av2_eq l]; rfl
theorem av2_len (l : List Nd) : (av2 l).length = l.length := by rw [av2_eq]; simp
theorem av2_app (l : List Nd) (x : Nd) : av2 l ++ [nav x] = av2 (l ++ [x]) := by rw [av2_eq, av2_eq]; simp
theorem av2_cat (l m : List Nd) : av2 l ++ av2 m = av2 (l ++ m) := by rw [av2_eq, av2_eq, av2_eq]; simp
def ndth (l : List Nd) (i : Nat) : Nd := l.getD i nd0
theorem av2_at {l : List Nd} {i : Nat} (h : i < l.length) : 0 ≤ (i : Int) ∧ (av2 l)[i]? = some (nav (ndth l i)) := by
 refine ⟨by omega, ?_⟩
 rw [av2_eq]; simp [ndth, List.getElem?_map, List.getElem?_eq_getElem h]
theorem av2_uni (l : List Nd) : Uni 3 (av2 l) := by
 rw [av2_eq]
 intro x hx
 simp only [List.mem_map] at hx
 obtain ⟨y, _, rfl⟩ := hx
 simp [nav, AV.cells, AV.isTup]
end Go.Proofs.YtdaglbjgdakmcaaGreat
namespace Go.Proofs.YtdaglbjgdakmcaaGreat
open Go Go.Eng
set_option maxHeartbeats 2000000 in
theorem has_to (l : List ByteArray) (s : ByteArray) (hl : l.length ≤ maxLen) : CallTo Tryz.prog 91 [(jL (l.map strAV)), (jS s)] [] [] (.av (.val (.bool (hasI l s 0)))) [] [] := by
 unfold maxLen at hl
 have hml := mlen l
 refine CallTo_of_body (n := 18) Tryz.func91 rfl (by kernel_rfl) Tryz.ntmps91 (by simp) (by simp) (by simp) (by simp [OkSV, SV.keys, ABox.svs, PV.keys]) (by simp [OkSV, SV.keys, ABox.svs, PV.keys]) (by simp [OkSV, SV.keys, ABox.svs, PV.keys]) (by simp [OkSV, SV.keys, ABox.svs, PV.keys]) rfl rfl ?_
 refine W_eq (sx 18 [(0, (jL (l.map strAV))), (1, (jS s))] [] []) (by kernel_rfl) ?_
 refine WN ?_
 refine GO (tn 2 z) (by kernel_rfl) ?_
 refine LP (I := fun N M S => ∃ i : Nat, (i ≤ l.length) ∧ (hasI l s i = hasI l s 0) ∧ N = l.length - i ∧ M = () ∧ S = (sx 18 [(0, (jL (l.map strAV))), (1, (jS s)), (5, (jI ((i : Nat) : Int)))] [] [])) (n := l.length - 0) (by kernel_rfl) ⟨0, Nat.zero_le _, rfl, rfl, rfl, rfl⟩ (wtr (S' := (sx 18 [(0, (jL (l.map strAV))), (1, (jS s)), (5, (jI 0))] [] [])) (WK (by kernel_rfl)) (weak_sx (show WkX _ _ _ from ⟨rfl, rfl, (by rfl), trivial⟩) (show WkBx _ _ from trivial) (show WkG _ _ _ from trivial))) ?_
 rintro N M S ⟨i, hi, hE, rfl, rfl, rfl⟩
 refine GO (tn 4 z) (by kernel_rfl) ?_
 rcases Bool.eq_false_or_eq_true (decide (((i : Nat) : Int) < (((l.map strAV).length : Nat) : Int))) with hb1 | hb1
 ·have hb1p := of_decide_eq_true hb1
  refine GO (kb hb1 (tn 2 (ke (show 0 ≤ ((i : Nat) : Int) ∧ ((l.map strAV) : List AV)[i]? = some (vS (nth l i)) from (nth_at (by assumption))) (tn 3 z)))) (by kernel_rfl) ?_
  rcases Bool.eq_false_or_eq_true (eqs (nth l i) s) with hb2 | hb2
  ·refine GO (kb hb2 (tn 1 z)) (by kernel_rfl) ?_
   refine OUT z (by kernel_rfl) ?_
   exact LEAF .ret (S2 := (sx 18 [(4, (jB true))] [] [])) (by kernel_rfl) (WK (by kernel_rfl)) (ends (r := (jB true)) (by simp) (by kernel_rfl) (bres (by rw [← hE]; first | rw [hasI_end l s i (by omega)] | (rw [hasI_step l s i (by omega)]; simp [*]))) (by simp) (by simp))
  ·refine GO (kb hb2 (tn 1 (kn (wrE (((i : Nat) : Int) + 1) ((i + 1 : Nat) : Int) (by omega)) (tn 1 z)))) (by kernel_rfl) ?_
   exact AG (m := l.length - (i + 1)) ⟨i + 1, by omega, by rw [← hE, hasI_step l s i (by omega)]; simp [*], rfl, rfl, rfl⟩ (wtr (S' := (sx 18 [(0, (jL (l.map strAV))), (1, (jS s)), (5, (jI ((i + 1 : Nat) : Int)))] [] [])) (WK (by kernel_rfl)) (weak_sx (show WkX _ _ _ from ⟨rfl, rfl, (by rfl), trivial⟩) (show WkBx _ _ from trivial) (show WkG _ _ _ from trivial))) (by kernel_rfl) (by omega)
 ·have hb1p := of_decide_eq_false hb1
  refine GO (kb hb1 z) (by kernel_rfl) ?_
  refine OUT (tn 1 z) (by kernel_rfl) ?_
  exact LEAF .ret (S2 := (sx 18 [(4, (jB false))] [] [])) (by kernel_rfl) (WK (by kernel_rfl)) (ends (r := (jB false)) (by simp) (by kernel_rfl) (bres (by rw [← hE]; first | rw [hasI_end l s i (by omega)] | (rw [hasI_step l s i (by omega)]; simp [*]))) (by simp) (by simp))
set_option maxHeartbeats 2000000 in
theorem tokens_to (s : ByteArray) (hs : s.size ≤ 4096) : CallTo Tryz.prog 40 [(jS s)] [] [] (.av (.sl ((toks s 0).map strAV))) [] [] := by
 refine CallTo_of_body (n := 63) Tryz.func40 rfl (by kernel_rfl) Tryz.ntmps40 (by simp) (by simp) (by simp) (by simp [OkSV, SV.keys, ABox.svs, PV.keys]) (by simp [OkSV, SV.keys, ABox.svs, PV.keys]) (by simp [OkSV, SV.keys, ABox.svs, PV.keys]) (by simp [OkSV, SV.keys, ABox.svs, PV.keys]) rfl rfl ?_
 refine W_eq (sx 63 [(0, (jS s))] [] []) (by kernel_rfl) ?_
 refine WN ?_
 refine GO (tn 3 z) (by kernel_rfl) ?_
 refine LP (I := fun N M S => ∃ i : Nat, ∃ g : Nat, ∃ acc : List ByteArray, (i ≤ s.size) ∧ (acc.length ≤ i) ∧ (acc ++ toks s i = toks s 0) ∧ N = s.size - i ∧ M = () ∧ S = (sx 63 [(0, (jS s)), (3, (.own (200, 10) g 1 (acc.map strAV))), (4, (jI ((i : Nat) : Int)))] [] [((200, 10), g)])) (n := s.size - 0) (by kernel_rfl) ⟨0, 0, [], Nat.zero_le _, Nat.le_refl _, rfl, rfl, rfl, rfl⟩ (wtr (S' := (sx 63 [(0, (jS s)), (3, .nil), (4, (jI 0))] [] [])) (WK (by kernel_rfl)) (weak_sx (show WkX _ _ _ from ⟨rfl, ⟨rfl, by decide, rfl⟩, (by rfl), trivial⟩) (show WkBx _ _ from trivial) (show WkG _ _ _ from ⟨(by rfl), trivial⟩))) ?_
 rintro N M S ⟨i, g, acc, hi, hl, hE, rfl, rfl, rfl⟩
 refine GO (tn 4 z) (by kernel_rfl) ?_
 rcases Bool.eq_false_or_eq_true (decide (((i : Nat) : Int) < ((ByteArray.size s : Nat) : Int))) with hb1 | hb1
 ·have hb1p := of_decide_eq_true hb1
  refine GO (kb hb1 (tn 2 (kp (ib s ((i : Nat) : Int) (by omega)) (tn 2 z)))) (by kernel_rfl) ?_
  rcases Bool.eq_false_or_eq_true (((byt s i : Nat) : Int) == 32) with hb2 | hb2
  ·have hb2p := eq_of_beq hb2
   refine GO (kb hb2 (tn 1 (kn (wrE (((i : Nat) : Int) + 1) ((i + 1 : Nat) : Int) (by omega)) (tn 1 z)))) (by kernel_rfl) ?_
   exact AG (m := s.size - (i + 1)) ⟨i + 1, g, acc, by omega, by first | omega | (simp; omega), by rw [← hE]; first | (rw [toks_sp s i (by omega) (by assumption)]; done) | (rw [toks_par s i (by omega) (by left; assumption)]; simp; done) | (rw [toks_word s i (by omega) hsep, hw]; simp; done), rfl, rfl, rfl⟩ (wtr (S' := (sx 63 [(0, (jS s)), (3, (.own (200, 10) g 1 (acc.map strAV))), (4, (jI ((i + 1 : Nat) : Int)))] [] [((200, 10), g)])) (WK (by kernel_rfl)) (weak_sx (show WkX _ _ _ from ⟨rfl, ⟨rfl, (by omega), rfl, (by simp [strAV])⟩, (by rfl), trivial⟩) (show WkBx _ _ from trivial) (show WkG _ _ _ from ⟨(by rfl), (by rfl), trivial⟩))) (by kernel_rfl) (by omega)
  ·have hb2p := ne_of_beq_false hb2
   refine GO (kb hb2 (tn 2 z)) (by kernel_rfl) ?_
   rcases Bool.eq_false_or_eq_true (((byt s i : Nat) : Int) == 40) with hb3 | hb3
   ·have hb3p := eq_of_beq hb3
    refine GO (kb hb3 (kb hb3 (tn 4 (kn (wrE (((i : Nat) : Int) + 1) ((i + 1 : Nat) : Int) (by omega)) (kp (show 0 ≤ ((i : Nat) : Int) ∧ ((i : Nat) : Int) ≤ ((i + 1 : Nat) : Int) ∧ ((i + 1 : Nat) : Int) ≤ ((ByteArray.size s : Nat) : Int) from (by omega)) (kp (show Uni 1 [(vS (ByteArray.extract s i (i + 1)))] from (by simp [Uni, AV.cells, AV.isTup])) (kp (show (g : Nat) = g ∧ Uni 1 [(vS (ByteArray.extract s i (i + 1)))] ∧ (((acc.map strAV) : List AV).length + ([(vS (ByteArray.extract s i (i + 1)))] : List AV).length) * 16 ≤ 140737488355328 from ⟨rfl, by simp [Uni, AV.cells, AV.isTup], by simp; omega⟩) (kw (show (((acc.map strAV) ++ [(vS (ByteArray.extract s i (i + 1)))]) : List AV) = _ from rfl) (tn 2 (kn (wrE (((i : Nat) : Int) + 1) ((i + 1 : Nat) : Int) (by omega)) (tn 1 z))))))))))) (by kernel_rfl) ?_
    exact AG (m := s.size - (i + 1)) ⟨i + 1, g + 1, acc ++ [ByteArray.extract s i (i + 1)], by omega, by first | omega | (simp; omega), by rw [← hE]; first | (rw [toks_sp s i (by omega) (by assumption)]; done) | (rw [toks_par s i (by omega) (by left; assumption)]; simp; done) | (rw [toks_word s i (by omega) hsep, hw]; simp; done), rfl, rfl, rfl⟩ (wtr (S' := (sx 63 [(0, (jS s)), (3, (.own (200, 10) (g + 1) 1 ((acc.map strAV) ++ [(vS (ByteArray.extract s i (i + 1)))]))), (4, (jI ((i + 1 : Nat) : Int)))] [] [((200, 10), g + 1)])) (WK (by kernel_rfl)) (weak_sx (show WkX _ _ _ from ⟨rfl, ⟨rfl, (by omega), rfl, (by simp [strAV])⟩, (by rfl), trivial⟩) (show WkBx _ _ from trivial) (show WkG _ _ _ from ⟨(by rfl), (by rfl), trivial⟩))) (by kernel_rfl) (by omega)
   ·have hb3p := ne_of_beq_false hb3
    refine GO (kb hb3 (tn 2 z)) (by kernel_rfl) ?_
    rcases Bool.eq_false_or_eq_true (((byt s i : Nat) : Int) == 41) with hb4 | hb4
    ·have hb4p := eq_of_beq hb4
     refine GO (kb hb4 (tn 4 (kn (wrE (((i : Nat) : Int) + 1) ((i + 1 : Nat) : Int) (by omega)) (kp (show 0 ≤ ((i : Nat) : Int) ∧ ((i : Nat) : Int) ≤ ((i + 1 : Nat) : Int) ∧ ((i + 1 : Nat) : Int) ≤ ((ByteArray.size s : Nat) : Int) from (by omega)) (kp (show Uni 1 [(vS (ByteArray.extract s i (i + 1)))] from (by simp [Uni, AV.cells, AV.isTup])) (kp (show (g : Nat) = g ∧ Uni 1 [(vS (ByteArray.extract s i (i + 1)))] ∧ (((acc.map strAV) : List AV).length + ([(vS (ByteArray.extract s i (i + 1)))] : List AV).length) * 16 ≤ 140737488355328 from ⟨rfl, by simp [Uni, AV.cells, AV.isTup], by simp; omega⟩) (kw (show (((acc.map strAV) ++ [(vS (ByteArray.extract s i (i + 1)))]) : List AV) = _ from rfl) (tn 2 (kn (wrE (((i : Nat) : Int) + 1) ((i + 1 : Nat) : Int) (by omega)) (tn 1 z)))))))))) (by kernel_rfl) ?_
     exact AG (m := s.size - (i + 1)) ⟨i + 1, g + 1, acc ++ [ByteArray.extract s i (i + 1)], by omega, by first | omega | (simp; omega), by rw [← hE]; first | (rw [toks_sp s i (by omega) (by assumption)]; done) | (rw [toks_par s i (by omega) (by first | (left; assumption) | (right; assumption))]; simp; done) | (rw [toks_word s i (by omega) hsep, hw]; simp; done), rfl, rfl, rfl⟩ (wtr (S' := (sx 63 [(0, (jS s)), (3, (.own (200, 10) (g + 1) 1 ((acc.map strAV) ++ [(vS (ByteArray.extract s i (i + 1)))]))), (4, (jI ((i + 1 : Nat) : Int)))] [] [((200, 10), g + 1)])) (WK (by kernel_rfl)) (weak_sx (show WkX _ _ _ from ⟨rfl, ⟨rfl, (by omega), rfl, (by simp [strAV])⟩, (by first | rfl | (congr 3; omega) | simp), trivial⟩) (show WkBx _ _ from trivial) (show WkG _ _ _ from ⟨(by first | rfl | (simp; done) | (simp; omega)), (by first | rfl | (simp; done) | (simp; omega)), trivial⟩))) (by kernel_rfl) (by omega)
    ·have hb4p := ne_of_beq_false hb4
     refine GO (kb hb4 (tn 2 z)) (by kernel_rfl) ?_
     refine LP (I := fun N M S => ∃ k : Nat, (i ≤ k) ∧ (k ≤ s.size) ∧ (wend s k = wend s i) ∧ N = s.size - k ∧ M = () ∧ S = (sx 63 [(0, (jS s)), (3, (.own (200, 10) g 1 (acc.map strAV))), (4, (jI ((k : Nat) : Int))), (5, (jI ((i : Nat) : Int)))] [] [((200, 10), g)])) (n := s.size - i) (by kernel_rfl) ⟨i, Nat.le_refl _, by omega, rfl, rfl, rfl, rfl⟩ (wtr (S' := (sx 63 [(0, (jS s)), (3, (.own (200, 10) g 1 (acc.map strAV))), (4, (jI ((i : Nat) : Int))), (5, (jI ((i : Nat) : Int)))] [] [((200, 10), g)])) (WK (by kernel_rfl)) (weak_sx (show WkX _ _ _ from ⟨rfl, ⟨rfl, rfl, rfl, rfl⟩, (by rfl), rfl, trivial⟩) (show WkBx _ _ from trivial) (show WkG _ _ _ from ⟨rfl, rfl, trivial⟩))) ?_
     rintro N M S ⟨k, hk1, hk2, hW, rfl, rfl, rfl⟩
     have hsep : sepB ((byt s i : Nat) : Int) = false := by simp [sepB]; omega
     have hgt := wend_gt s i (by omega) hsep
     rcases Bool.eq_false_or_eq_true (decide (((k : Nat) : Int) < ((ByteArray.size s : Nat) : Int))) with hb5 | hb5
     ·have hb5p := of_decide_eq_true hb5
      rcases Bool.eq_false_or_eq_true (((byt s k : Nat) : Int) != 32) with hb6 | hb6
      ·have hb6p := bne_iff_ne.1 hb6
       rcases Bool.eq_false_or_eq_true (((byt s k : Nat) : Int) != 40) with hb7 | hb7
       ·have hb7p := bne_iff_ne.1 hb7
        refine GO (tn 5 (kb hb5 (tn 1 (kb hb5 (tn 1 (kb hb5 (kp (ib s ((k : Nat) : Int) (by omega)) (kb hb5 (tn 1 (kb hb5 (tn 1 (kb hb6 (tn 1 (kb hb6 (tn 1 (kb hb6 (kp (ib s ((k : Nat) : Int) (by omega)) (kb hb6 (tn 1 (kb hb6 (tn 1 (kb hb7 (tn 1 (kb hb7 (tn 1 (kb hb7 (kp (ib s ((k : Nat) : Int) (by omega)) (kb hb7 (tn 1 (kb hb7 z)))))))))))))))))))))))))))))) (by kernel_rfl) ?_
        rcases Bool.eq_false_or_eq_true (((byt s k : Nat) : Int) != 41) with hb8 | hb8
        ·have hb8p := bne_iff_ne.1 hb8
         refine GO (kb hb8 (tn 1 (kn (wrE (((k : Nat) : Int) + 1) ((k + 1 : Nat) : Int) (by omega)) (tn 1 z)))) (by kernel_rfl) ?_
         exact AG (m := s.size - (k + 1)) ⟨k + 1, by omega, by omega, by rw [← hW, wend_step s k (by omega) (by simp [sepB]; omega)], rfl, rfl, rfl⟩ (wtr (S' := (sx 63 [(0, (jS s)), (3, (.own (200, 10) g 1 (acc.map strAV))), (4, (jI ((k + 1 : Nat) : Int))), (5, (jI ((i : Nat) : Int)))] [] [((200, 10), g)])) (WK (by kernel_rfl)) (weak_sx (show WkX _ _ _ from ⟨rfl, ⟨rfl, rfl, rfl, rfl⟩, (by rfl), rfl, trivial⟩) (show WkBx _ _ from trivial) (show WkG _ _ _ from ⟨rfl, rfl, trivial⟩))) (by kernel_rfl) (by omega)
        ·have hb8p := eq_of_bne_false hb8
         refine GO (kb hb8 z) (by kernel_rfl) ?_
         refine OUT (tn 4 (kp (show 0 ≤ ((i : Nat) : Int) ∧ ((i : Nat) : Int) ≤ ((k : Nat) : Int) ∧ ((k : Nat) : Int) ≤ ((ByteArray.size s : Nat) : Int) from (by omega)) (kp (show Uni 1 [(vS (ByteArray.extract s i k))] from (by simp [Uni, AV.cells, AV.isTup])) (kp (show (g : Nat) = g ∧ Uni 1 [(vS (ByteArray.extract s i k))] ∧ (((acc.map strAV) : List AV).length + ([(vS (ByteArray.extract s i k))] : List AV).length) * 16 ≤ 140737488355328 from ⟨rfl, by simp [Uni, AV.cells, AV.isTup], by simp; omega⟩) (kw (show (((acc.map strAV) ++ [(vS (ByteArray.extract s i k))]) : List AV) = _ from rfl) (tn 1 z)))))) (by kernel_rfl) ?_
         have hw : wend s i = k := by rw [← hW]; first | exact wend_stop s k (by omega) | exact wend_sep s k (by simp [sepB]; omega)
         exact AG (m := s.size - k) ⟨k, g + 1, acc ++ [ByteArray.extract s i k], by omega, by first | omega | (simp; omega), by rw [← hE]; first | (rw [toks_sp s i (by omega) (by assumption)]; done) | (rw [toks_par s i (by omega) (by left; assumption)]; simp; done) | (rw [toks_word s i (by omega) hsep, hw]; simp; done), rfl, rfl, rfl⟩ (wtr (S' := (sx 63 [(0, (jS s)), (3, (.own (200, 10) (g + 1) 1 ((acc.map strAV) ++ [(vS (ByteArray.extract s i k))]))), (4, (jI ((k : Nat) : Int)))] [] [((200, 10), g + 1)])) (WK (by kernel_rfl)) (weak_sx (show WkX _ _ _ from ⟨rfl, ⟨rfl, (by omega), rfl, (by simp [strAV])⟩, (by rfl), trivial⟩) (show WkBx _ _ from trivial) (show WkG _ _ _ from ⟨(by rfl), (by rfl), trivial⟩))) (by kernel_rfl) (by omega)
       ·have hb7p := eq_of_bne_false hb7
        refine GO (tn 5 (kb hb5 (tn 1 (kb hb5 (tn 1 (kb hb5 (kp (ib s ((k : Nat) : Int) (by omega)) (kb hb5 (tn 1 (kb hb5 (tn 1 (kb hb6 (tn 1 (kb hb6 (tn 1 (kb hb6 (kp (ib s ((k : Nat) : Int) (by omega)) (kb hb6 (tn 1 (kb hb6 (tn 1 (kb hb7 (kb hb7 (kb hb7 (kb hb7 (kb hb7 (kb ff z))))))))))))))))))))))))))) (by kernel_rfl) ?_
        refine OUT (tn 4 (kp (show 0 ≤ ((i : Nat) : Int) ∧ ((i : Nat) : Int) ≤ ((k : Nat) : Int) ∧ ((k : Nat) : Int) ≤ ((ByteArray.size s : Nat) : Int) from (by omega)) (kp (show Uni 1 [(vS (ByteArray.extract s i k))] from (by simp [Uni, AV.cells, AV.isTup])) (kp (show (g : Nat) = g ∧ Uni 1 [(vS (ByteArray.extract s i k))] ∧ (((acc.map strAV) : List AV).length + ([(vS (ByteArray.extract s i k))] : List AV).length) * 16 ≤ 140737488355328 from ⟨rfl, by simp [Uni, AV.cells, AV.isTup], by simp; omega⟩) (kw (show (((acc.map strAV) ++ [(vS (ByteArray.extract s i k))]) : List AV) = _ from rfl) (tn 1 z)))))) (by kernel_rfl) ?_
        have hw : wend s i = k := by rw [← hW]; first | exact wend_stop s k (by omega) | exact wend_sep s k (by simp [sepB]; omega)
        exact AG (m := s.size - k) ⟨k, g + 1, acc ++ [ByteArray.extract s i k], by omega, by first | omega | (simp; omega), by rw [← hE]; first | (rw [toks_sp s i (by omega) (by assumption)]; done) | (rw [toks_par s i (by omega) (by left; assumption)]; simp; done) | (rw [toks_word s i (by omega) hsep, hw]; simp; done), rfl, rfl, rfl⟩ (wtr (S' := (sx 63 [(0, (jS s)), (3, (.own (200, 10) (g + 1) 1 ((acc.map strAV) ++ [(vS (ByteArray.extract s i k))]))), (4, (jI ((k : Nat) : Int)))] [] [((200, 10), g + 1)])) (WK (by kernel_rfl)) (weak_sx (show WkX _ _ _ from ⟨rfl, ⟨rfl, (by omega), rfl, (by simp [strAV])⟩, (by rfl), trivial⟩) (show WkBx _ _ from trivial) (show WkG _ _ _ from ⟨(by rfl), (by rfl), trivial⟩))) (by kernel_rfl) (by omega)
      ·have hb6p := eq_of_bne_false hb6
       refine GO (tn 5 (kb hb5 (tn 1 (kb hb5 (tn 1 (kb hb5 (kp (ib s ((k : Nat) : Int) (by omega)) (kb hb5 (tn 1 (kb hb5 (tn 1 (kb hb6 (kb hb6 (kb hb6 (kb hb6 (kb hb6 (tn 1 (kb ff (kb ff (kb ff (kb ff (kb ff (kb ff z))))))))))))))))))))))) (by kernel_rfl) ?_
       refine OUT (tn 4 (kp (show 0 ≤ ((i : Nat) : Int) ∧ ((i : Nat) : Int) ≤ ((k : Nat) : Int) ∧ ((k : Nat) : Int) ≤ ((ByteArray.size s : Nat) : Int) from (by omega)) (kp (show Uni 1 [(vS (ByteArray.extract s i k))] from (by simp [Uni, AV.cells, AV.isTup])) (kp (show (g : Nat) = g ∧ Uni 1 [(vS (ByteArray.extract s i k))] ∧ (((acc.map strAV) : List AV).length + ([(vS (ByteArray.extract s i k))] : List AV).length) * 16 ≤ 140737488355328 from ⟨rfl, by simp [Uni, AV.cells, AV.isTup], by simp; omega⟩) (kw (show (((acc.map strAV) ++ [(vS (ByteArray.extract s i k))]) : List AV) = _ from rfl) (tn 1 z)))))) (by kernel_rfl) ?_
       have hw : wend s i = k := by rw [← hW]; first | exact wend_stop s k (by omega) | exact wend_sep s k (by simp [sepB]; omega)
       exact AG (m := s.size - k) ⟨k, g + 1, acc ++ [ByteArray.extract s i k], by omega, by first | omega | (simp; omega), by rw [← hE]; first | (rw [toks_sp s i (by omega) (by assumption)]; done) | (rw [toks_par s i (by omega) (by left; assumption)]; simp; done) | (rw [toks_word s i (by omega) hsep, hw]; simp; done), rfl, rfl, rfl⟩ (wtr (S' := (sx 63 [(0, (jS s)), (3, (.own (200, 10) (g + 1) 1 ((acc.map strAV) ++ [(vS (ByteArray.extract s i k))]))), (4, (jI ((k : Nat) : Int)))] [] [((200, 10), g + 1)])) (WK (by kernel_rfl)) (weak_sx (show WkX _ _ _ from ⟨rfl, ⟨rfl, (by omega), rfl, (by simp [strAV])⟩, (by rfl), trivial⟩) (show WkBx _ _ from trivial) (show WkG _ _ _ from ⟨(by rfl), (by rfl), trivial⟩))) (by kernel_rfl) (by omega)
     ·have hb5p := of_decide_eq_false hb5
      refine GO (tn 5 (kb hb5 (kb hb5 (kb hb5 (kb hb5 (kb hb5 (tn 1 (kb ff (kb ff (kb ff (kb ff (kb ff (tn 1 (kb ff (kb ff (kb ff (kb ff (kb ff (kb ff z))))))))))))))))))) (by kernel_rfl) ?_
      refine OUT (tn 4 (kp (show 0 ≤ ((i : Nat) : Int) ∧ ((i : Nat) : Int) ≤ ((k : Nat) : Int) ∧ ((k : Nat) : Int) ≤ ((ByteArray.size s : Nat) : Int) from (by omega)) (kp (show Uni 1 [(vS (ByteArray.extract s i k))] from (by simp [Uni, AV.cells, AV.isTup])) (kp (show (g : Nat) = g ∧ Uni 1 [(vS (ByteArray.extract s i k))] ∧ (((acc.map strAV) : List AV).length + ([(vS (ByteArray.extract s i k))] : List AV).length) * 16 ≤ 140737488355328 from ⟨rfl, by simp [Uni, AV.cells, AV.isTup], by simp; omega⟩) (kw (show (((acc.map strAV) ++ [(vS (ByteArray.extract s i k))]) : List AV) = _ from rfl) (tn 1 z)))))) (by kernel_rfl) ?_
      have hw : wend s i = k := by rw [← hW]; first | exact wend_stop s k (by omega) | exact wend_sep s k (by simp [sepB]; omega)
      exact AG (m := s.size - k) ⟨k, g + 1, acc ++ [ByteArray.extract s i k], by omega, by first | omega | (simp; omega), by rw [← hE]; first | (rw [toks_sp s i (by omega) (by assumption)]; done) | (rw [toks_par s i (by omega) (by left; assumption)]; simp; done) | (rw [toks_word s i (by omega) hsep, hw]; simp; done), rfl, rfl, rfl⟩ (wtr (S' := (sx 63 [(0, (jS s)), (3, (.own (200, 10) (g + 1) 1 ((acc.map strAV) ++ [(vS (ByteArray.extract s i k))]))), (4, (jI ((k : Nat) : Int)))] [] [((200, 10), g + 1)])) (WK (by kernel_rfl)) (weak_sx (show WkX _ _ _ from ⟨rfl, ⟨rfl, (by omega), rfl, (by simp [strAV])⟩, (by rfl), trivial⟩) (show WkBx _ _ from trivial) (show WkG _ _ _ from ⟨(by rfl), (by rfl), trivial⟩))) (by kernel_rfl) (by omega)
 ·have hb1p := of_decide_eq_false hb1
  refine GO (kb hb1 z) (by kernel_rfl) ?_
  refine OUT (tn 2 z) (by kernel_rfl) ?_
  exact LEAF .ret (S2 := (sx 63 [(2, (.own (200, 10) g 1 (acc.map strAV)))] [] [((200, 10), g)])) (by kernel_rfl) (WK (by kernel_rfl)) (ends (r := (jL (acc.map strAV))) (by simp) (by kernel_rfl) (by rw [← hE, toks_end s i (by omega)]; simp) (by simp) (by simp))
set_option maxHeartbeats 2000000 in
theorem rtokens_to (s : ByteArray) (hs : s.size ≤ 4096) : CallTo Tryz.prog 88 [(jS s)] [] [] (.av (.sl ((toks s 0).map strAV))) [] [] := by
 refine CallTo_of_body (n := 65) Tryz.func88 rfl (by kernel_rfl) Tryz.ntmps88 (by simp) (by simp) (by simp) (by simp [OkSV, SV.keys, ABox.svs, PV.keys]) (by simp [OkSV, SV.keys, ABox.svs, PV.keys]) (by simp [OkSV, SV.keys, ABox.svs, PV.keys]) (by simp [OkSV, SV.keys, ABox.svs, PV.keys]) rfl rfl ?_
 refine W_eq (sx 65 [(0, (jS s))] [] []) (by kernel_rfl) ?_
 refine WN ?_
 refine GO (tn 4 z) (by kernel_rfl) ?_
 refine LP (I := fun N M S => ∃ i : Nat, ∃ f : Nat, ∃ g : Nat, ∃ acc : List ByteArray, (i ≤ s.size + 1) ∧ (f ≤ i) ∧ (acc.length ≤ 2 * i) ∧ (s.size < i → s.size < f) ∧ (∀ j, f ≤ j → j < i → sepB ((byt s j : Nat) : Int) = false) ∧ (acc ++ toks s f = toks s 0) ∧ N = s.size + 1 - i ∧ M = () ∧ S = (sx 65 [(0, (jS s)), (3, (.own (200, 10) g 1 (acc.map strAV))), (4, (jI ((f : Nat) : Int))), (5, (jI ((i : Nat) : Int)))] [] [((200, 10), g)])) (n := s.size + 1 - 0) (by kernel_rfl) ⟨0, 0, 0, [], by omega, Nat.le_refl _, by simp, by omega, by omega, rfl, rfl, rfl, rfl⟩ (wtr (S' := (sx 65 [(0, (jS s)), (3, .nil), (4, (jI 0)), (5, (jI 0))] [] [])) (WK (by kernel_rfl)) (weak_sx (show WkX _ _ _ from ⟨rfl, ⟨rfl, by decide, rfl⟩, (by rfl), (by rfl), trivial⟩) (show WkBx _ _ from trivial) (show WkG _ _ _ from ⟨(by rfl), trivial⟩))) ?_
 rintro N M S ⟨i, f, g, acc, hi, hf, hl, hX, hN, hE, rfl, rfl, rfl⟩
 refine GO (tn 4 z) (by kernel_rfl) ?_
 rcases Bool.eq_false_or_eq_true (decide (((i : Nat) : Int) ≤ ((ByteArray.size s : Nat) : Int))) with hb1 | hb1
 ·have hb1p := of_decide_eq_true hb1
  rcases Bool.eq_false_or_eq_true (decide (((i : Nat) : Int) < ((ByteArray.size s : Nat) : Int))) with hb2 | hb2
  ·have hb2p := of_decide_eq_true hb2
   rcases Bool.eq_false_or_eq_true (((byt s i : Nat) : Int) != 32) with hb3 | hb3
   ·have hb3p := bne_iff_ne.1 hb3
    rcases Bool.eq_false_or_eq_true (((byt s i : Nat) : Int) != 40) with hb4 | hb4
    ·have hb4p := bne_iff_ne.1 hb4
     refine GO (kb hb1 (tn 5 (kb hb2 (tn 1 (kb hb2 (tn 1 (kb hb2 (kp (ib s ((i : Nat) : Int) (by omega)) (kb hb2 (tn 1 (kb hb2 (tn 1 (kb hb3 (tn 1 (kb hb3 (tn 1 (kb hb3 (kp (ib s ((i : Nat) : Int) (by omega)) (kb hb3 (tn 1 (kb hb3 (tn 1 (kb hb4 (tn 1 (kb hb4 (tn 1 (kb hb4 (kp (ib s ((i : Nat) : Int) (by omega)) (kb hb4 (tn 1 (kb hb4 z))))))))))))))))))))))))))))))) (by kernel_rfl) ?_
     rcases Bool.eq_false_or_eq_true (((byt s i : Nat) : Int) != 41) with hb5 | hb5
     ·have hb5p := bne_iff_ne.1 hb5
      refine GO (kb hb5 (tn 1 (kn (wrE (((i : Nat) : Int) + 1) ((i + 1 : Nat) : Int) (by omega)) (tn 1 z)))) (by kernel_rfl) ?_
      exact AG (m := s.size + 1 - (i + 1)) ⟨i + 1, f, g, acc, by omega, by omega, by first | omega | (simp; omega), by omega, by first | exact nsep_none | exact nsep_snoc hN (by simp [sepB]; omega), by first | exact hE | (rw [← hE, toks_cut s f i (by omega) (by omega) hN (by left; omega)]; first | (rw [if_pos (by omega), if_pos (by omega)]; simp; done) | (rw [if_pos (by omega), if_neg (by omega)]; simp; done) | (rw [if_neg (by omega), if_pos (by omega)]; simp; done) | (rw [if_neg (by omega), if_neg (by omega)]; simp; done)), rfl, rfl, rfl⟩ (wtr (S' := (sx 65 [(0, (jS s)), (3, (.own (200, 10) g 1 (acc.map strAV))), (4, (jI ((f : Nat) : Int))), (5, (jI ((i + 1 : Nat) : Int)))] [] [((200, 10), g)])) (WK (by kernel_rfl)) (weak_sx (show WkX _ _ _ from ⟨rfl, ⟨rfl, (by omega), rfl, (by simp [strAV])⟩, (by rfl), (by rfl), trivial⟩) (show WkBx _ _ from trivial) (show WkG _ _ _ from ⟨(by rfl), (by rfl), trivial⟩))) (by kernel_rfl) (by omega)
     ·have hb5p := eq_of_bne_false hb5
      refine GO (kb hb5 (tn 3 z)) (by kernel_rfl) ?_
      rcases Bool.eq_false_or_eq_true (decide (((i : Nat) : Int) > ((f : Nat) : Int))) with hb6 | hb6
      ·have hb6p := of_decide_eq_true hb6
       refine GO (kb hb6 (tn 4 (kp (show 0 ≤ ((f : Nat) : Int) ∧ ((f : Nat) : Int) ≤ ((i : Nat) : Int) ∧ ((i : Nat) : Int) ≤ ((ByteArray.size s : Nat) : Int) from (by omega)) (kp (show Uni 1 [(vS (ByteArray.extract s f i))] from (by simp [Uni, AV.cells, AV.isTup])) (kp (show (g : Nat) = g ∧ Uni 1 [(vS (ByteArray.extract s f i))] ∧ (((acc.map strAV) : List AV).length + ([(vS (ByteArray.extract s f i))] : List AV).length) * 16 ≤ 140737488355328 from ⟨rfl, by simp [Uni, AV.cells, AV.isTup], by simp; omega⟩) (kw (show (((acc.map strAV) ++ [(vS (ByteArray.extract s f i))]) : List AV) = _ from rfl) (tn 6 (kb hb2 (tn 1 (kb hb2 (tn 1 (kb hb2 (kp (ib s ((i : Nat) : Int) (by omega)) (kb hb2 (tn 1 (kb hb2 (kb hb3 (tn 4 (kn (wrE (((i : Nat) : Int) + 1) ((i + 1 : Nat) : Int) (by omega)) (kp (show 0 ≤ ((i : Nat) : Int) ∧ ((i : Nat) : Int) ≤ ((i + 1 : Nat) : Int) ∧ ((i + 1 : Nat) : Int) ≤ ((ByteArray.size s : Nat) : Int) from (by omega)) (kp (show Uni 1 [(vS (ByteArray.extract s i (i + 1)))] from (by simp [Uni, AV.cells, AV.isTup])) (kp (show (g + 1 : Nat) = g + 1 ∧ Uni 1 [(vS (ByteArray.extract s i (i + 1)))] ∧ ((((acc.map strAV) ++ [(vS (ByteArray.extract s f i))]) : List AV).length + ([(vS (ByteArray.extract s i (i + 1)))] : List AV).length) * 16 ≤ 140737488355328 from ⟨rfl, by simp [Uni, AV.cells, AV.isTup], by simp; omega⟩) (kw (show ((((acc.map strAV) ++ [(vS (ByteArray.extract s f i))]) ++ [(vS (ByteArray.extract s i (i + 1)))]) : List AV) = _ from rfl) (tn 2 (kn (wrE (((i : Nat) : Int) + 1) ((i + 1 : Nat) : Int) (by omega)) (tn 2 (kn (wrE (((i : Nat) : Int) + 1) ((i + 1 : Nat) : Int) (by omega)) (tn 1 z)))))))))))))))))))))))))))) (by kernel_rfl) ?_
       exact AG (m := s.size + 1 - (i + 1)) ⟨i + 1, i + 1, g + 1 + 1, acc ++ [ByteArray.extract s f i] ++ [ByteArray.extract s i (i + 1)], by omega, by omega, by first | omega | (simp; omega), by omega, by first | exact nsep_none | exact nsep_snoc hN (by simp [sepB]; omega), by first | exact hE | (rw [← hE, toks_cut s f i (by omega) (by omega) hN (by right; simp [sepB]; omega)]; first | (rw [if_pos (by omega), if_pos (by omega)]; simp; done) | (rw [if_pos (by omega), if_neg (by omega)]; simp; done) | (rw [if_neg (by omega), if_pos (by omega)]; simp; done) | (rw [if_neg (by omega), if_neg (by omega)]; simp; done)), rfl, rfl, rfl⟩ (wtr (S' := (sx 65 [(0, (jS s)), (3, (.own (200, 10) (g + 1 + 1) 1 (((acc.map strAV) ++ [(vS (ByteArray.extract s f i))]) ++ [(vS (ByteArray.extract s i (i + 1)))]))), (4, (jI ((i + 1 : Nat) : Int))), (5, (jI ((i + 1 : Nat) : Int)))] [] [((200, 10), g + 1 + 1)])) (WK (by kernel_rfl)) (weak_sx (show WkX _ _ _ from ⟨rfl, ⟨rfl, (by omega), rfl, (by simp [strAV])⟩, (by rfl), (by rfl), trivial⟩) (show WkBx _ _ from trivial) (show WkG _ _ _ from ⟨(by rfl), (by rfl), trivial⟩))) (by kernel_rfl) (by omega)
      ·have hb6p := of_decide_eq_false hb6
       refine GO (kb hb6 (tn 5 (kb hb2 (tn 1 (kb hb2 (tn 1 (kb hb2 (kp (ib s ((i : Nat) : Int) (by omega)) (kb hb2 (tn 1 (kb hb2 (kb hb3 (tn 4 (kn (wrE (((i : Nat) : Int) + 1) ((i + 1 : Nat) : Int) (by omega)) (kp (show 0 ≤ ((i : Nat) : Int) ∧ ((i : Nat) : Int) ≤ ((i + 1 : Nat) : Int) ∧ ((i + 1 : Nat) : Int) ≤ ((ByteArray.size s : Nat) : Int) from (by omega)) (kp (show Uni 1 [(vS (ByteArray.extract s i (i + 1)))] from (by simp [Uni, AV.cells, AV.isTup])) (kp (show (g : Nat) = g ∧ Uni 1 [(vS (ByteArray.extract s i (i + 1)))] ∧ (((acc.map strAV) : List AV).length + ([(vS (ByteArray.extract s i (i + 1)))] : List AV).length) * 16 ≤ 140737488355328 from ⟨rfl, by simp [Uni, AV.cells, AV.isTup], by simp; omega⟩) (kw (show (((acc.map strAV) ++ [(vS (ByteArray.extract s i (i + 1)))]) : List AV) = _ from rfl) (tn 2 (kn (wrE (((i : Nat) : Int) + 1) ((i + 1 : Nat) : Int) (by omega)) (tn 2 (kn (wrE (((i : Nat) : Int) + 1) ((i + 1 : Nat) : Int) (by omega)) (tn 1 z))))))))))))))))))))))) (by kernel_rfl) ?_
       exact AG (m := s.size + 1 - (i + 1)) ⟨i + 1, i + 1, g + 1, acc ++ [ByteArray.extract s i (i + 1)], by omega, by omega, by first | omega | (simp; omega), by omega, by first | exact nsep_none | exact nsep_snoc hN (by simp [sepB]; omega), by first | exact hE | (rw [← hE, toks_cut s f i (by omega) (by omega) hN (by right; simp [sepB]; omega)]; first | (rw [if_pos (by omega), if_pos (by omega)]; simp; done) | (rw [if_pos (by omega), if_neg (by omega)]; simp; done) | (rw [if_neg (by omega), if_pos (by omega)]; simp; done) | (rw [if_neg (by omega), if_neg (by omega)]; simp; done)), rfl, rfl, rfl⟩ (wtr (S' := (sx 65 [(0, (jS s)), (3, (.own (200, 10) (g + 1) 1 ((acc.map strAV) ++ [(vS (ByteArray.extract s i (i + 1)))]))), (4, (jI ((i + 1 : Nat) : Int))), (5, (jI ((i + 1 : Nat) : Int)))] [] [((200, 10), g + 1)])) (WK (by kernel_rfl)) (weak_sx (show WkX _ _ _ from ⟨rfl, ⟨rfl, (by omega), rfl, (by simp [strAV])⟩, (by rfl), (by rfl), trivial⟩) (show WkBx _ _ from trivial) (show WkG _ _ _ from ⟨(by rfl), (by rfl), trivial⟩))) (by kernel_rfl) (by omega)
    ·have hb4p := eq_of_bne_false hb4
     refine GO (kb hb1 (tn 5 (kb hb2 (tn 1 (kb hb2 (tn 1 (kb hb2 (kp (ib s ((i : Nat) : Int) (by omega)) (kb hb2 (tn 1 (kb hb2 (tn 1 (kb hb3 (tn 1 (kb hb3 (tn 1 (kb hb3 (kp (ib s ((i : Nat) : Int) (by omega)) (kb hb3 (tn 1 (kb hb3 (tn 1 (kb hb4 (kb hb4 (kb hb4 (kb hb4 (kb hb4 (kb ff (tn 3 z))))))))))))))))))))))))))))) (by kernel_rfl) ?_
     rcases Bool.eq_false_or_eq_true (decide (((i : Nat) : Int) > ((f : Nat) : Int))) with hb7 | hb7
     ·have hb7p := of_decide_eq_true hb7
      refine GO (kb hb7 (tn 4 (kp (show 0 ≤ ((f : Nat) : Int) ∧ ((f : Nat) : Int) ≤ ((i : Nat) : Int) ∧ ((i : Nat) : Int) ≤ ((ByteArray.size s : Nat) : Int) from (by omega)) (kp (show Uni 1 [(vS (ByteArray.extract s f i))] from (by simp [Uni, AV.cells, AV.isTup])) (kp (show (g : Nat) = g ∧ Uni 1 [(vS (ByteArray.extract s f i))] ∧ (((acc.map strAV) : List AV).length + ([(vS (ByteArray.extract s f i))] : List AV).length) * 16 ≤ 140737488355328 from ⟨rfl, by simp [Uni, AV.cells, AV.isTup], by simp; omega⟩) (kw (show (((acc.map strAV) ++ [(vS (ByteArray.extract s f i))]) : List AV) = _ from rfl) (tn 6 (kb hb2 (tn 1 (kb hb2 (tn 1 (kb hb2 (kp (ib s ((i : Nat) : Int) (by omega)) (kb hb2 (tn 1 (kb hb2 (kb hb3 (tn 4 (kn (wrE (((i : Nat) : Int) + 1) ((i + 1 : Nat) : Int) (by omega)) (kp (show 0 ≤ ((i : Nat) : Int) ∧ ((i : Nat) : Int) ≤ ((i + 1 : Nat) : Int) ∧ ((i + 1 : Nat) : Int) ≤ ((ByteArray.size s : Nat) : Int) from (by omega)) (kp (show Uni 1 [(vS (ByteArray.extract s i (i + 1)))] from (by simp [Uni, AV.cells, AV.isTup])) (kp (show (g + 1 : Nat) = g + 1 ∧ Uni 1 [(vS (ByteArray.extract s i (i + 1)))] ∧ ((((acc.map strAV) ++ [(vS (ByteArray.extract s f i))]) : List AV).length + ([(vS (ByteArray.extract s i (i + 1)))] : List AV).length) * 16 ≤ 140737488355328 from ⟨rfl, by simp [Uni, AV.cells, AV.isTup], by simp; omega⟩) (kw (show ((((acc.map strAV) ++ [(vS (ByteArray.extract s f i))]) ++ [(vS (ByteArray.extract s i (i + 1)))]) : List AV) = _ from rfl) (tn 2 (kn (wrE (((i : Nat) : Int) + 1) ((i + 1 : Nat) : Int) (by omega)) (tn 2 (kn (wrE (((i : Nat) : Int) + 1) ((i + 1 : Nat) : Int) (by omega)) (tn 1 z)))))))))))))))))))))))))))) (by kernel_rfl) ?_
      exact AG (m := s.size + 1 - (i + 1)) ⟨i + 1, i + 1, g + 1 + 1, acc ++ [ByteArray.extract s f i] ++ [ByteArray.extract s i (i + 1)], by omega, by omega, by first | omega | (simp; omega), by omega, by first | exact nsep_none | exact nsep_snoc hN (by simp [sepB]; omega), by first | exact hE | (rw [← hE, toks_cut s f i (by omega) (by omega) hN (by right; simp [sepB]; omega)]; first | (rw [if_pos (by omega), if_pos (by omega)]; simp; done) | (rw [if_pos (by omega), if_neg (by omega)]; simp; done) | (rw [if_neg (by omega), if_pos (by omega)]; simp; done) | (rw [if_neg (by omega), if_neg (by omega)]; simp; done)), rfl, rfl, rfl⟩ (wtr (S' := (sx 65 [(0, (jS s)), (3, (.own (200, 10) (g + 1 + 1) 1 (((acc.map strAV) ++ [(vS (ByteArray.extract s f i))]) ++ [(vS (ByteArray.extract s i (i + 1)))]))), (4, (jI ((i + 1 : Nat) : Int))), (5, (jI ((i + 1 : Nat) : Int)))] [] [((200, 10), g + 1 + 1)])) (WK (by kernel_rfl)) (weak_sx (show WkX _ _ _ from ⟨rfl, ⟨rfl, (by omega), rfl, (by simp [strAV])⟩, (by rfl), (by rfl), trivial⟩) (show WkBx _ _ from trivial) (show WkG _ _ _ from ⟨(by rfl), (by rfl), trivial⟩))) (by kernel_rfl) (by omega)
     ·have hb7p := of_decide_eq_false hb7
      refine GO (kb hb7 (tn 5 (kb hb2 (tn 1 (kb hb2 (tn 1 (kb hb2 (kp (ib s ((i : Nat) : Int) (by omega)) (kb hb2 (tn 1 (kb hb2 (kb hb3 (tn 4 (kn (wrE (((i : Nat) : Int) + 1) ((i + 1 : Nat) : Int) (by omega)) (kp (show 0 ≤ ((i : Nat) : Int) ∧ ((i : Nat) : Int) ≤ ((i + 1 : Nat) : Int) ∧ ((i + 1 : Nat) : Int) ≤ ((ByteArray.size s : Nat) : Int) from (by omega)) (kp (show Uni 1 [(vS (ByteArray.extract s i (i + 1)))] from (by simp [Uni, AV.cells, AV.isTup])) (kp (show (g : Nat) = g ∧ Uni 1 [(vS (ByteArray.extract s i (i + 1)))] ∧ (((acc.map strAV) : List AV).length + ([(vS (ByteArray.extract s i (i + 1)))] : List AV).length) * 16 ≤ 140737488355328 from ⟨rfl, by simp [Uni, AV.cells, AV.isTup], by simp; omega⟩) (kw (show (((acc.map strAV) ++ [(vS (ByteArray.extract s i (i + 1)))]) : List AV) = _ from rfl) (tn 2 (kn (wrE (((i : Nat) : Int) + 1) ((i + 1 : Nat) : Int) (by omega)) (tn 2 (kn (wrE (((i : Nat) : Int) + 1) ((i + 1 : Nat) : Int) (by omega)) (tn 1 z))))))))))))))))))))))) (by kernel_rfl) ?_
      exact AG (m := s.size + 1 - (i + 1)) ⟨i + 1, i + 1, g + 1, acc ++ [ByteArray.extract s i (i + 1)], by omega, by omega, by first | omega | (simp; omega), by omega, by first | exact nsep_none | exact nsep_snoc hN (by simp [sepB]; omega), by first | exact hE | (rw [← hE, toks_cut s f i (by omega) (by omega) hN (by right; simp [sepB]; omega)]; first | (rw [if_pos (by omega), if_pos (by omega)]; simp; done) | (rw [if_pos (by omega), if_neg (by omega)]; simp; done) | (rw [if_neg (by omega), if_pos (by omega)]; simp; done) | (rw [if_neg (by omega), if_neg (by omega)]; simp; done)), rfl, rfl, rfl⟩ (wtr (S' := (sx 65 [(0, (jS s)), (3, (.own (200, 10) (g + 1) 1 ((acc.map strAV) ++ [(vS (ByteArray.extract s i (i + 1)))]))), (4, (jI ((i + 1 : Nat) : Int))), (5, (jI ((i + 1 : Nat) : Int)))] [] [((200, 10), g + 1)])) (WK (by kernel_rfl)) (weak_sx (show WkX _ _ _ from ⟨rfl, ⟨rfl, (by omega), rfl, (by simp [strAV])⟩, (by rfl), (by rfl), trivial⟩) (show WkBx _ _ from trivial) (show WkG _ _ _ from ⟨(by rfl), (by rfl), trivial⟩))) (by kernel_rfl) (by omega)
   ·have hb3p := eq_of_bne_false hb3
    refine GO (kb hb1 (tn 5 (kb hb2 (tn 1 (kb hb2 (tn 1 (kb hb2 (kp (ib s ((i : Nat) : Int) (by omega)) (kb hb2 (tn 1 (kb hb2 (tn 1 (kb hb3 (kb hb3 (kb hb3 (kb hb3 (kb hb3 (tn 1 (kb ff (kb ff (kb ff (kb ff (kb ff (kb ff (tn 3 z))))))))))))))))))))))))) (by kernel_rfl) ?_
    rcases Bool.eq_false_or_eq_true (decide (((i : Nat) : Int) > ((f : Nat) : Int))) with hb8 | hb8
    ·have hb8p := of_decide_eq_true hb8
     refine GO (kb hb8 (tn 4 (kp (show 0 ≤ ((f : Nat) : Int) ∧ ((f : Nat) : Int) ≤ ((i : Nat) : Int) ∧ ((i : Nat) : Int) ≤ ((ByteArray.size s : Nat) : Int) from (by omega)) (kp (show Uni 1 [(vS (ByteArray.extract s f i))] from (by simp [Uni, AV.cells, AV.isTup])) (kp (show (g : Nat) = g ∧ Uni 1 [(vS (ByteArray.extract s f i))] ∧ (((acc.map strAV) : List AV).length + ([(vS (ByteArray.extract s f i))] : List AV).length) * 16 ≤ 140737488355328 from ⟨rfl, by simp [Uni, AV.cells, AV.isTup], by simp; omega⟩) (kw (show (((acc.map strAV) ++ [(vS (ByteArray.extract s f i))]) : List AV) = _ from rfl) (tn 6 (kb hb2 (tn 1 (kb hb2 (tn 1 (kb hb2 (kp (ib s ((i : Nat) : Int) (by omega)) (kb hb2 (tn 1 (kb hb2 (kb hb3 (tn 1 (kn (wrE (((i : Nat) : Int) + 1) ((i + 1 : Nat) : Int) (by omega)) (tn 2 (kn (wrE (((i : Nat) : Int) + 1) ((i + 1 : Nat) : Int) (by omega)) (tn 1 z)))))))))))))))))))))) (by kernel_rfl) ?_
     exact AG (m := s.size + 1 - (i + 1)) ⟨i + 1, i + 1, g + 1, acc ++ [ByteArray.extract s f i], by omega, by omega, by first | omega | (simp; omega), by omega, by first | exact nsep_none | exact nsep_snoc hN (by simp [sepB]; omega), by first | exact hE | (rw [← hE, toks_cut s f i (by omega) (by omega) hN (by right; simp [sepB]; omega)]; first | (rw [if_pos (by omega), if_pos (by omega)]; simp; done) | (rw [if_pos (by omega), if_neg (by omega)]; simp; done) | (rw [if_neg (by omega), if_pos (by omega)]; simp; done) | (rw [if_neg (by omega), if_neg (by omega)]; simp; done)), rfl, rfl, rfl⟩ (wtr (S' := (sx 65 [(0, (jS s)), (3, (.own (200, 10) (g + 1) 1 ((acc.map strAV) ++ [(vS (ByteArray.extract s f i))]))), (4, (jI ((i + 1 : Nat) : Int))), (5, (jI ((i + 1 : Nat) : Int)))] [] [((200, 10), g + 1)])) (WK (by kernel_rfl)) (weak_sx (show WkX _ _ _ from ⟨rfl, ⟨rfl, (by omega), rfl, (by simp [strAV])⟩, (by rfl), (by rfl), trivial⟩) (show WkBx _ _ from trivial) (show WkG _ _ _ from ⟨(by rfl), (by rfl), trivial⟩))) (by kernel_rfl) (by omega)
    ·have hb8p := of_decide_eq_false hb8
     refine GO (kb hb8 (tn 5 (kb hb2 (tn 1 (kb hb2 (tn 1 (kb hb2 (kp (ib s ((i : Nat) : Int) (by omega)) (kb hb2 (tn 1 (kb hb2 (kb hb3 (tn 1 (kn (wrE (((i : Nat) : Int) + 1) ((i + 1 : Nat) : Int) (by omega)) (tn 2 (kn (wrE (((i : Nat) : Int) + 1) ((i + 1 : Nat) : Int) (by omega)) (tn 1 z))))))))))))))))) (by kernel_rfl) ?_
     exact AG (m := s.size + 1 - (i + 1)) ⟨i + 1, i + 1, g, acc, by omega, by omega, by first | omega | (simp; omega), by omega, by first | exact nsep_none | exact nsep_snoc hN (by simp [sepB]; omega), by first | exact hE | (rw [← hE, toks_cut s f i (by omega) (by omega) hN (by right; simp [sepB]; omega)]; first | (rw [if_pos (by omega), if_pos (by omega)]; simp; done) | (rw [if_pos (by omega), if_neg (by omega)]; simp; done) | (rw [if_neg (by omega), if_pos (by omega)]; simp; done) | (rw [if_neg (by omega), if_neg (by omega)]; simp; done)), rfl, rfl, rfl⟩ (wtr (S' := (sx 65 [(0, (jS s)), (3, (.own (200, 10) g 1 (acc.map strAV))), (4, (jI ((i + 1 : Nat) : Int))), (5, (jI ((i + 1 : Nat) : Int)))] [] [((200, 10), g)])) (WK (by kernel_rfl)) (weak_sx (show WkX _ _ _ from ⟨rfl, ⟨rfl, (by omega), rfl, (by simp [strAV])⟩, (by rfl), (by rfl), trivial⟩) (show WkBx _ _ from trivial) (show WkG _ _ _ from ⟨(by rfl), (by rfl), trivial⟩))) (by kernel_rfl) (by omega)
  ·have hb2p := of_decide_eq_false hb2
   refine GO (kb hb1 (tn 5 (kb hb2 (kb hb2 (kb hb2 (kb hb2 (kb hb2 (tn 1 (kb ff (kb ff (kb ff (kb ff (kb ff (tn 1 (kb ff (kb ff (kb ff (kb ff (kb ff (kb ff (tn 3 z))))))))))))))))))))) (by kernel_rfl) ?_
   rcases Bool.eq_false_or_eq_true (decide (((i : Nat) : Int) > ((f : Nat) : Int))) with hb9 | hb9
   ·have hb9p := of_decide_eq_true hb9
    refine GO (kb hb9 (tn 4 (kp (show 0 ≤ ((f : Nat) : Int) ∧ ((f : Nat) : Int) ≤ ((i : Nat) : Int) ∧ ((i : Nat) : Int) ≤ ((ByteArray.size s : Nat) : Int) from (by omega)) (kp (show Uni 1 [(vS (ByteArray.extract s f i))] from (by simp [Uni, AV.cells, AV.isTup])) (kp (show (g : Nat) = g ∧ Uni 1 [(vS (ByteArray.extract s f i))] ∧ (((acc.map strAV) : List AV).length + ([(vS (ByteArray.extract s f i))] : List AV).length) * 16 ≤ 140737488355328 from ⟨rfl, by simp [Uni, AV.cells, AV.isTup], by simp; omega⟩) (kw (show (((acc.map strAV) ++ [(vS (ByteArray.extract s f i))]) : List AV) = _ from rfl) (tn 6 (kb hb2 (kb hb2 (kb hb2 (kb hb2 (kb hb2 (kb ff (tn 1 (kn (wrE (((i : Nat) : Int) + 1) ((i + 1 : Nat) : Int) (by omega)) (tn 2 (kn (wrE (((i : Nat) : Int) + 1) ((i + 1 : Nat) : Int) (by omega)) (tn 1 z)))))))))))))))))) (by kernel_rfl) ?_
    exact AG (m := s.size + 1 - (i + 1)) ⟨i + 1, i + 1, g + 1, acc ++ [ByteArray.extract s f i], by omega, by omega, by first | omega | (simp; omega), by omega, by first | exact nsep_none | exact nsep_snoc hN (by simp [sepB]; omega), by first | exact hE | (rw [← hE, toks_cut s f i (by omega) (by omega) hN (by left; omega)]; first | (rw [if_pos (by omega), if_pos (by omega)]; simp; done) | (rw [if_pos (by omega), if_neg (by omega)]; simp; done) | (rw [if_neg (by omega), if_pos (by omega)]; simp; done) | (rw [if_neg (by omega), if_neg (by omega)]; simp; done)), rfl, rfl, rfl⟩ (wtr (S' := (sx 65 [(0, (jS s)), (3, (.own (200, 10) (g + 1) 1 ((acc.map strAV) ++ [(vS (ByteArray.extract s f i))]))), (4, (jI ((i + 1 : Nat) : Int))), (5, (jI ((i + 1 : Nat) : Int)))] [] [((200, 10), g + 1)])) (WK (by kernel_rfl)) (weak_sx (show WkX _ _ _ from ⟨rfl, ⟨rfl, (by omega), rfl, (by simp [strAV])⟩, (by rfl), (by rfl), trivial⟩) (show WkBx _ _ from trivial) (show WkG _ _ _ from ⟨(by rfl), (by rfl), trivial⟩))) (by kernel_rfl) (by omega)
   ·have hb9p := of_decide_eq_false hb9
    refine GO (kb hb9 (tn 5 (kb hb2 (kb hb2 (kb hb2 (kb hb2 (kb hb2 (kb ff (tn 1 (kn (wrE (((i : Nat) : Int) + 1) ((i + 1 : Nat) : Int) (by omega)) (tn 2 (kn (wrE (((i : Nat) : Int) + 1) ((i + 1 : Nat) : Int) (by omega)) (tn 1 z))))))))))))) (by kernel_rfl) ?_
    exact AG (m := s.size + 1 - (i + 1)) ⟨i + 1, i + 1, g, acc, by omega, by omega, by first | omega | (simp; omega), by omega, by first | exact nsep_none | exact nsep_snoc hN (by simp [sepB]; omega), by first | exact hE | (rw [← hE, toks_cut s f i (by omega) (by omega) hN (by left; omega)]; first | (rw [if_pos (by omega), if_pos (by omega)]; simp; done) | (rw [if_pos (by omega), if_neg (by omega)]; simp; done) | (rw [if_neg (by omega), if_pos (by omega)]; simp; done) | (rw [if_neg (by omega), if_neg (by omega)]; simp; done)), rfl, rfl, rfl⟩ (wtr (S' := (sx 65 [(0, (jS s)), (3, (.own (200, 10) g 1 (acc.map strAV))), (4, (jI ((i + 1 : Nat) : Int))), (5, (jI ((i + 1 : Nat) : Int)))] [] [((200, 10), g)])) (WK (by kernel_rfl)) (weak_sx (show WkX _ _ _ from ⟨rfl, ⟨rfl, (by omega), rfl, (by simp [strAV])⟩, (by rfl), (by rfl), trivial⟩) (show WkBx _ _ from trivial) (show WkG _ _ _ from ⟨(by rfl), (by rfl), trivial⟩))) (by kernel_rfl) (by omega)
 ·have hb1p := of_decide_eq_false hb1
  refine GO (kb hb1 z) (by kernel_rfl) ?_
  refine OUT (tn 2 z) (by kernel_rfl) ?_
  exact LEAF .ret (S2 := (sx 65 [(2, (.own (200, 10) g 1 (acc.map strAV)))] [] [((200, 10), g)])) (by kernel_rfl) (WK (by kernel_rfl)) (ends (r := (jL (acc.map strAV))) (by simp) (by kernel_rfl) (by rw [← hE, toks_end s f (by omega)]; simp) (by simp) (by simp))
end Go.Proofs.YtdaglbjgdakmcaaGreat
namespace Go.Proofs.YtdaglbjgdakmcaaGreat
open Go Go.Eng
def gkid (op : Int) (x : Nd) : List Nd := if x.kind == op then x.kids else [x]
def gkids (op : Int) (l : List Nd) : List Nd := l.flatMap (gkid op)
def grp (op : Int) (l : List Nd) : Nd := if l.length = 1 then ndth l 0 else .mk op ⟨#[]⟩ (gkids op l)
theorem gkids_step (op : Int) (l : List Nd) (i : Nat) (h : i < l.length) : gkids op (l.drop i) = gkid op (ndth l i) ++ gkids op (l.drop (i + 1)) := by
 rw [List.drop_eq_getElem_cons h]
 simp only [gkids, List.flatMap_cons, ndth, List.getD_eq_getElem?_getD, List.getElem?_eq_getElem h, Option.getD_some]
theorem gkids_end (op : Int) (l : List Nd) (i : Nat) (h : l.length ≤ i) : gkids op (l.drop i) = [] := by
 rw [List.drop_eq_nil_of_le h]; rfl
def wt (x : Nd) : Nat := max 1 x.kids.length
def wsum (l : List Nd) : Nat := (l.map wt).sum
theorem wsum_app (l : List Nd) (x : Nd) : wsum (l ++ [x]) = wsum l + wt x := by simp [wsum]
theorem gkids_le (op : Int) : ∀ l : List Nd, (gkids op l).length ≤ wsum l
 | [] => by simp [gkids, wsum]
 | x :: l => by
  have h := gkids_le op l
  have : (gkid op x).length ≤ wt x := by unfold gkid wt; split <;> first | omega | (simp only [List.length_cons, List.length_nil]; omega)
  simp only [gkids, List.flatMap_cons, List.length_append, wsum, List.map_cons, List.sum_cons] at h ⊢
  omega
theorem wt_grp (op : Int) (l : List Nd) (h : l ≠ []) : wt (grp op l) ≤ wsum l := by
 unfold grp
 split
 ·rename_i h1
  match l, h1 with
  | [x], _ => simp [ndth, wsum]
 ·have := gkids_le op l
  have h2 : 1 ≤ wsum l := by
   match l, h with
   | x :: l, _ => simp only [wsum, List.map_cons, List.sum_cons, wt]; omega
  unfold wt; simp only [Nd.kids]; omega
structure RR where
 nd : Nd
 to : Nat
 most : Int
 ok : Bool
def rbad : RR := ⟨nd0, 0, 0, false⟩
def RR.av (r : RR) : SV := .av (.tup [nav r.nd, .val (.int .i64 (r.to : Int)), .val (.int .i64 r.most), .val (.bool r.ok)])
def oneR (rec lst : Nat → Nat → RR) (t : List ByteArray) (i l : Nat) : RR :=
 if t.length ≤ i then rbad else if eqs (nth t i) ⟨#[111, 114]⟩ then rbad else if eqs (nth t i) ⟨#[97, 110, 100]⟩ then rbad else if eqs (nth t i) ⟨#[41]⟩ then rbad
 else if eqs (nth t i) ⟨#[110, 111, 116]⟩ then ⟨.mk 4 ⟨#[]⟩ [(rec (i + 1) (l + 1)).nd], (rec (i + 1) (l + 1)).to, (rec (i + 1) (l + 1)).most, (rec (i + 1) (l + 1)).ok⟩
 else if eqs (nth t i) ⟨#[40]⟩ then
  if (lst (i + 1) (l + 1)).ok = false then rbad else if t.length ≤ (lst (i + 1) (l + 1)).to then rbad else if eqs (nth t (lst (i + 1) (l + 1)).to) ⟨#[41]⟩ = false then rbad
  else ⟨(lst (i + 1) (l + 1)).nd, (lst (i + 1) (l + 1)).to + 1, max (lst (i + 1) (l + 1)).most (l : Int), true⟩
 else if eqs (nth t i) ⟨#[116, 114, 117, 101]⟩ then ⟨.mk 2 ⟨#[]⟩ [], i + 1, l, true⟩
 else if eqs (nth t i) ⟨#[102, 97, 108, 115, 101]⟩ then ⟨.mk 3 ⟨#[]⟩ [], i + 1, l, true⟩
 else ⟨.mk 1 (nth t i) [], i + 1, l, true⟩
def listR (opnd : Nat → RR) (word : ByteArray) (op : Int) (t : List ByteArray) : Nat → Nat → List Nd → Int → RR
  | 0, _, _, _ => rbad
  | m + 1, i, acc, most => if (opnd i).ok = false then rbad
    else if t.length ≤ (opnd i).to then ⟨grp op (acc ++ [(opnd i).nd]), (opnd i).to, max most (opnd i).most, true⟩
    else if eqs (nth t (opnd i).to) word = false then ⟨grp op (acc ++ [(opnd i).nd]), (opnd i).to, max most (opnd i).most, true⟩
    else listR opnd word op t m ((opnd i).to + 1) (acc ++ [(opnd i).nd]) (max most (opnd i).most)
def randR (one : Nat → Nat → RR) (t : List ByteArray) (i l : Nat) : RR := listR (fun k => one k l) ⟨#[97, 110, 100]⟩ 5 t (t.length + 1) i [] 0
def rorR (one : Nat → Nat → RR) (t : List ByteArray) (i l : Nat) : RR := listR (fun k => randR one t k l) ⟨#[111, 114]⟩ 6 t (t.length + 1) i [] 0
def rone (t : List ByteArray) : Nat → Nat → Nat → RR
 | 0 => oneR (fun _ _ => rbad) (fun _ _ => rbad) t
 | n + 1 => oneR (rone t n) (rorR (rone t n) t) t
def Fair (t : List ByteArray) (i : Nat) (r : RR) : Prop := r.ok = true → i + wt r.nd ≤ r.to ∧ r.to ≤ t.length
theorem fair_bad (t : List ByteArray) (i : Nat) : Fair t i rbad := by intro h; simp [rbad] at h
theorem fair_one {rec lst : Nat → Nat → RR} {t : List ByteArray} (hr : ∀ i l, i ≤ t.length → Fair t i (rec i l)) (hl : ∀ i l, i ≤ t.length → Fair t i (lst i l)) (i l : Nat) : Fair t i (oneR rec lst t i l) := by
 unfold oneR
 split
 ·exact fair_bad t i
 ·rename_i h0
  split
  ·exact fair_bad t i
  split
  ·exact fair_bad t i
  split
  ·exact fair_bad t i
  split
  ·intro h; have := hr (i + 1) (l + 1) (by omega) h
   simp only [wt, Nd.kids, List.length_singleton] at this ⊢; omega
  split
  ·split
   ·exact fair_bad t i
   split
   ·exact fair_bad t i
   split
   ·exact fair_bad t i
   ·rename_i h1 h2 h3
    intro _
    have := hl (i + 1) (l + 1) (by omega) (by simpa using h1)
    simp only at this ⊢; omega
  split
  ·intro _; simp only [wt, Nd.kids]; simp; omega
  split
  ·intro _; simp only [wt, Nd.kids]; simp; omega
  ·intro _; simp only [wt, Nd.kids]; simp; omega
theorem fair_list {opnd : Nat → RR} {word : ByteArray} {op : Int} {t : List ByteArray} (ho : ∀ i, i ≤ t.length → Fair t i (opnd i)) (i0 : Nat) : ∀ (m i : Nat) (acc : List Nd) (most : Int), i ≤ t.length → i0 + wsum acc ≤ i → Fair t i0 (listR opnd word op t m i acc most)
 | 0, i, acc, most, _, _ => by simp only [listR]; exact fair_bad t i0
 | m + 1, i, acc, most, hi, hw => by
  simp only [listR]
  split
  ·exact fair_bad t i0
  ·rename_i h1
   have hf := ho i hi (by simpa using h1)
   have hs := wsum_app acc (opnd i).nd
   have hg := wt_grp op (acc ++ [(opnd i).nd]) (by simp)
   split
   ·intro _; simp only; omega
   ·split
    ·intro _; simp only; omega
    ·exact fair_list ho i0 m _ _ _ (by omega) (by omega)
theorem fair_and {one : Nat → Nat → RR} {t : List ByteArray} (h : ∀ i l, i ≤ t.length → Fair t i (one i l)) (i l : Nat) (hi : i ≤ t.length) : Fair t i (randR one t i l) :=
 fair_list (fun j hj => h j l hj) i _ i [] 0 hi (by simp [wsum])
theorem fair_or {one : Nat → Nat → RR} {t : List ByteArray} (h : ∀ i l, i ≤ t.length → Fair t i (one i l)) (i l : Nat) (hi : i ≤ t.length) : Fair t i (rorR one t i l) :=
 fair_list (fun j hj => fair_and h j l hj) i _ i [] 0 hi (by simp [wsum])
theorem fair_rone (t : List ByteArray) : ∀ (n i l : Nat), i ≤ t.length → Fair t i (rone t n i l)
 | 0, i, l, _ => fair_one (fun j _ _ => fair_bad t j) (fun j _ _ => fair_bad t j) i l
 | n + 1, i, l, _ => fair_one (fair_rone t n) (fair_or (fair_rone t n)) i l
end Go.Proofs.YtdaglbjgdakmcaaGreat
namespace Go.Proofs.YtdaglbjgdakmcaaGreat
open Go Go.Eng
theorem toks_len (s : ByteArray) : ∀ (n i : Nat), s.size - i = n → (toks s i).length ≤ s.size - i := by
 intro n
 induction n using Nat.strongRecOn with
 | _ n ih =>
  intro i hn
  by_cases hi : s.size ≤ i
  ·rw [toks_end s i hi]; simp
  ·have hlt : i < s.size := by omega
   cases hb : sepB ((byt s i : Nat) : Int) with
   | true =>
    by_cases h32 : ((byt s i : Nat) : Int) = 32
    ·rw [toks_sp s i hlt h32]; have := ih (s.size - (i + 1)) (by omega) (i + 1) rfl; omega
    ·have : ((byt s i : Nat) : Int) = 40 ∨ ((byt s i : Nat) : Int) = 41 := by
      simp only [sepB, Bool.or_eq_true, beq_iff_eq] at hb
      rcases hb with (hb | hb) | hb
      ·exact absurd hb h32
      ·exact .inl hb
      ·exact .inr hb
     rw [toks_par s i hlt this]; have := ih (s.size - (i + 1)) (by omega) (i + 1) rfl
     simp only [List.length_cons]; omega
   | false =>
    have hw := wend_gt s i hlt hb
    rw [toks_word s i hlt hb]
    have := ih (s.size - wend s i) (by omega) (wend s i) rfl
    simp only [List.length_cons]; omega
theorem toks_size (s : ByteArray) : ∀ (n i : Nat), s.size - i = n → ∀ x ∈ toks s i, x.size ≤ s.size := by
 intro n
 induction n using Nat.strongRecOn with
 | _ n ih =>
  intro i hn x hx
  have hex : ∀ a b, (s.extract a b).size ≤ s.size := by intro a b; rw [ByteArray.size_extract]; omega
  by_cases hi : s.size ≤ i
  ·rw [toks_end s i hi] at hx; simp at hx
  ·have hlt : i < s.size := by omega
   cases hb : sepB ((byt s i : Nat) : Int) with
   | true =>
    by_cases h32 : ((byt s i : Nat) : Int) = 32
    ·rw [toks_sp s i hlt h32] at hx; exact ih (s.size - (i + 1)) (by omega) (i + 1) rfl x hx
    ·have : ((byt s i : Nat) : Int) = 40 ∨ ((byt s i : Nat) : Int) = 41 := by
      simp only [sepB, Bool.or_eq_true, beq_iff_eq] at hb
      rcases hb with (hb | hb) | hb
      ·exact absurd hb h32
      ·exact .inl hb
      ·exact .inr hb
     rw [toks_par s i hlt this] at hx
     rcases List.mem_cons.1 hx with rfl | hx
     ·exact hex _ _
     ·exact ih (s.size - (i + 1)) (by omega) (i + 1) rfl x hx
   | false =>
    have hw := wend_gt s i hlt hb
    rw [toks_word s i hlt hb] at hx
    rcases List.mem_cons.1 hx with rfl | hx
    ·exact hex _ _
    ·exact ih (s.size - wend s i) (by omega) (wend s i) rfl x hx
theorem nth_mem {t : List ByteArray} {i : Nat} (h : i < t.length) : nth t i ∈ t := by
 simp [nth, List.getElem?_eq_getElem h]
def badF (x : ByteArray) : Bool := !specB x && !nameB x
def badI (t : List ByteArray) (i : Nat) : Bool := (t.drop i).any badF
theorem badI_end (t : List ByteArray) (i : Nat) (h : t.length ≤ i) : badI t i = false := by
 simp [badI, List.drop_eq_nil_of_le h]
theorem badI_step (t : List ByteArray) (i : Nat) (h : i < t.length) : badI t i = (badF (nth t i) || badI t (i + 1)) := by
 simp only [badI]
 rw [List.drop_eq_getElem_cons h, List.any_cons]
 simp only [nth, List.getD_eq_getElem?_getD, List.getElem?_eq_getElem h, Option.getD_some]
def NE (x : Nd × Int) : SV := .av (.tup [nav x.1, .val (.int .i64 x.2)])
def rtop (t : List ByteArray) : RR := rorR (rone t t.length) t 0 0
def readT (t : List ByteArray) : Nd × Int :=
 if badI t 0 then (nd0, 6) else if (rtop t).ok = false then (nd0, 5) else if (rtop t).to ≠ t.length then (nd0, 5) else if (rtop t).most > 16 then (nd0, 11) else ((rtop t).nd, 0)
def readR (s : ByteArray) : Nd × Int := if s.size > 4096 then (nd0, 3) else readT (toks s 0)
def valL (v : Nd → Bool) (k : Int) : List Nd → Bool
 | [] => k == 5
 | x :: l => if v x == (k == 6) then k == 6 else valL v k l
def valB (v : Nd → Bool) (fl : List ByteArray) (x : Nd) : Bool :=
 if x.kind == 1 then hasI fl x.name 0 else if x.kind == 2 then true else if x.kind == 4 then !v (ndth x.kids 0)
 else if x.kind == 5 || x.kind == 6 then valL v x.kind x.kids else false
theorem valL_step (v : Nd → Bool) (k : Int) (l : List Nd) (i : Nat) (h : i < l.length) : valL v k (l.drop i) = if v (ndth l i) == (k == 6) then k == 6 else valL v k (l.drop (i + 1)) := by
 rw [List.drop_eq_getElem_cons h, valL]
 simp only [ndth, List.getD_eq_getElem?_getD, List.getElem?_eq_getElem h, Option.getD_some]
theorem valL_end (v : Nd → Bool) (k : Int) (l : List Nd) (i : Nat) (h : l.length ≤ i) : valL v k (l.drop i) = (k == 5) := by
 rw [List.drop_eq_nil_of_le h]; rfl
mutual
def valR (fl : List ByteArray) : Nd → Bool
  | .mk k nm kids => if k == 1 then hasI fl nm 0 else if k == 2 then true else if k == 4 then !valH fl kids
    else if k == 5 || k == 6 then valG fl k kids else false
def valH (fl : List ByteArray) : List Nd → Bool
 | [] => false
 | x :: _ => valR fl x
def valG (fl : List ByteArray) (k : Int) : List Nd → Bool
 | [] => k == 5
 | x :: l => if valR fl x == (k == 6) then k == 6 else valG fl k l
end
theorem valG_eq (fl : List ByteArray) (k : Int) : ∀ l, valG fl k l = valL (valR fl) k l
 | [] => by simp only [valG, valL]
 | x :: l => by simp only [valG, valL, valG_eq fl k l]
theorem valH_eq (fl : List ByteArray) : ∀ l, valH fl l = valR fl (ndth l 0)
 | [] => by simp [valH, ndth, nd0, valR]
 | x :: l => by simp [valH, ndth]
theorem valR_eq (fl : List ByteArray) (x : Nd) : valR fl x = valB (valR fl) fl x := by
 cases x with
 | mk k nm kids => simp only [valR, valB, Nd.kind, Nd.name, Nd.kids, valG_eq, valH_eq]; rfl
mutual
def okN : Nd → Prop
 | .mk k _ kids => (k = 4 → 1 ≤ kids.length) ∧ kids.length ≤ 1000000 ∧ okNs kids
def okNs : List Nd → Prop
 | [] => True
 | x :: l => okN x ∧ okNs l
end
theorem okNs_iff : ∀ l, okNs l ↔ ∀ x ∈ l, okN x
 | [] => by simp [okNs]
 | x :: l => by simp [okNs, okNs_iff l]
end Go.Proofs.YtdaglbjgdakmcaaGreat
namespace Go.Proofs.YtdaglbjgdakmcaaGreat
open Go Go.Eng
def evalR (s : ByteArray) (fl : List ByteArray) : Bool × Int := if (readR s).2 = 0 then (valR fl (readR s).1, 0) else (false, (readR s).2)
def namesL : List ByteArray → List ByteArray → List ByteArray
 | [], acc => acc
 | x :: l, acc => if !specB x && !hasI acc x 0 then namesL l (acc ++ [x]) else namesL l acc
theorem namesL_step (t acc : List ByteArray) (i : Nat) (h : i < t.length) : namesL (t.drop i) acc = if !specB (nth t i) && !hasI acc (nth t i) 0 then namesL (t.drop (i + 1)) (acc ++ [nth t i]) else namesL (t.drop (i + 1)) acc := by
 rw [List.drop_eq_getElem_cons h, namesL]
 simp only [nth, List.getD_eq_getElem?_getD, List.getElem?_eq_getElem h, Option.getD_some]
theorem namesL_end (t acc : List ByteArray) (i : Nat) (h : t.length ≤ i) : namesL (t.drop i) acc = acc := by
 rw [List.drop_eq_nil_of_le h]; rfl
theorem okN_kids {x : Nd} (h : okN x) : ∀ y ∈ x.kids, okN y := by
 cases x with
 | mk k nm kids => simp only [okN] at h; exact (okNs_iff kids).1 h.2.2
theorem okN_nd0 : okN nd0 := by simp [nd0, okN, okNs]
theorem okN_ndth {l : List Nd} (h : ∀ x ∈ l, okN x) (i : Nat) : okN (ndth l i) := by
 unfold ndth
 rw [List.getD_eq_getElem?_getD]
 rcases Nat.lt_or_ge i l.length with hi | hi
 ·rw [List.getElem?_eq_getElem hi]; exact h _ (List.getElem_mem hi)
 ·rw [List.getElem?_eq_none hi]; exact okN_nd0
theorem okN_grp {op : Int} {l : List Nd} (ho : op ≠ 4) (hw : wsum l ≤ 1000000) (h : ∀ x ∈ l, okN x) : okN (grp op l) := by
 unfold grp
 split
 ·exact okN_ndth h 0
 ·simp only [okN]
  refine ⟨fun e => absurd e ho, Nat.le_trans (gkids_le op l) hw, (okNs_iff _).2 fun y hy => ?_⟩
  simp only [gkids, List.mem_flatMap] at hy
  obtain ⟨x, hx, hy⟩ := hy
  unfold gkid at hy
  split at hy
  ·exact okN_kids (h x hx) y hy
  ·simp at hy; subst hy; exact h _ hx
theorem ok_one {rec lst : Nat → Nat → RR} {t : List ByteArray} (hr : ∀ i l, i ≤ t.length → okN (rec i l).nd) (hl : ∀ i l, i ≤ t.length → okN (lst i l).nd) (i l : Nat) : okN (oneR rec lst t i l).nd := by
 unfold oneR
 split
 ·exact okN_nd0
 ·rename_i h0
  split
  ·exact okN_nd0
  split
  ·exact okN_nd0
  split
  ·exact okN_nd0
  split
  ·simp only [okN, okNs]; exact ⟨fun _ => by simp, by simp, hr _ _ (by omega), trivial⟩
  split
  ·split
   ·exact okN_nd0
   split
   ·exact okN_nd0
   split
   ·exact okN_nd0
   ·exact hl _ _ (by omega)
  split
  ·simp [okN, okNs]
  split
  ·simp [okN, okNs]
  ·simp [okN, okNs]
theorem ok_list {opnd : Nat → RR} {word : ByteArray} {op : Int} (hop : op ≠ 4) {t : List ByteArray} (ht : t.length ≤ 4096) (hf : ∀ i, i ≤ t.length → Fair t i (opnd i)) (ho : ∀ i, i ≤ t.length → okN (opnd i).nd) :
  ∀ (m i : Nat) (acc : List Nd) (most : Int), i ≤ t.length → wsum acc ≤ i → (∀ x ∈ acc, okN x) → okN (listR opnd word op t m i acc most).nd
 | 0, i, acc, most, _, _, _ => by simp only [listR]; exact okN_nd0
 | m + 1, i, acc, most, hi, hw, ha => by
  simp only [listR]
  split
  ·exact okN_nd0
  ·rename_i h1
   have hf1 := hf i hi (by simpa using h1)
   have hs := wsum_app acc (opnd i).nd
   have ha' : ∀ x ∈ acc ++ [(opnd i).nd], okN x := by
    intro x hx
    rcases List.mem_append.1 hx with hx | hx
    ·exact ha x hx
    ·simp at hx; subst hx; exact ho i hi
   split
   ·exact okN_grp hop (by omega) ha'
   ·split
    ·exact okN_grp hop (by omega) ha'
    ·exact ok_list hop ht hf ho m _ _ _ (by omega) (by omega) ha'
theorem ok_and {one : Nat → Nat → RR} {t : List ByteArray} (ht : t.length ≤ 4096) (hf : ∀ i l, i ≤ t.length → Fair t i (one i l)) (h : ∀ i l, i ≤ t.length → okN (one i l).nd) (i l : Nat) (hi : i ≤ t.length) : okN (randR one t i l).nd :=
 ok_list (by decide) ht (fun j hj => hf j l hj) (fun j hj => h j l hj) _ i [] 0 hi (by simp [wsum]) (by simp)
theorem ok_or {one : Nat → Nat → RR} {t : List ByteArray} (ht : t.length ≤ 4096) (hf : ∀ i l, i ≤ t.length → Fair t i (one i l)) (h : ∀ i l, i ≤ t.length → okN (one i l).nd) (i l : Nat) (hi : i ≤ t.length) : okN (rorR one t i l).nd :=
 ok_list (by decide) ht (fun j hj => fair_and hf j l hj) (fun j hj => ok_and ht hf h j l hj) _ i [] 0 hi (by simp [wsum]) (by simp)
theorem ok_rone {t : List ByteArray} (ht : t.length ≤ 4096) : ∀ (n i l : Nat), i ≤ t.length → okN (rone t n i l).nd
 | 0, i, l, _ => ok_one (fun _ _ _ => okN_nd0) (fun _ _ _ => okN_nd0) i l
 | n + 1, i, l, _ => ok_one (ok_rone ht n) (ok_or ht (fair_rone t n) (ok_rone ht n)) i l
theorem ok_readR (s : ByteArray) : okN (readR s).1 := by
 unfold readR
 split
 ·exact okN_nd0
 ·rename_i h
  have hl := toks_len s _ 0 rfl
  unfold readT
  split
  ·exact okN_nd0
  split
  ·exact okN_nd0
  split
  ·exact okN_nd0
  split
  ·exact okN_nd0
  ·exact ok_or (by omega) (fair_rone _ _) (ok_rone (by omega) _) 0 0 (Nat.zero_le _)
end Go.Proofs.YtdaglbjgdakmcaaGreat
