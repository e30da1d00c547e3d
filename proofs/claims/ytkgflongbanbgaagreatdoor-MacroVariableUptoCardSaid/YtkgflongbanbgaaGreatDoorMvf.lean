/- Texts joined by a program (merge.py). -/
import Derived.Test.YtkgflongbanbgaaGreatDoorMve
import Derived.KernelRfl
import Derived.Test.YtkgflongbanbgaaGreatDoorMvd
set_option linter.unusedSimpArgs false
set_option linter.unusedVariables false
set_option maxRecDepth 100000
set_option maxHeartbeats 4000000
namespace Go.Proofs.YtkgflongbanbgaaGreatDoor
open Go Go.Eng
def zl18 (s : ByteArray) : List AV := [(vS (⟨#[118]⟩)), (.sl []), (.sl [(.agg (zl2 s))])]
def zb1 : List (Nat × ABox) := [(1000, (.cells 69 [(.own (1002, 55) 0 3 []), (.mp 1001)])), (1001, (.map ([]) ([])))]
def zb2 (s : ByteArray) : List (Nat × ABox) := [(1000, (.cells 69 [(.own (1002, 55) 1 3 [(.agg (zl18 s))]), (.mp 1001)])), (1001, (.map ([⟨#[118]⟩]) ([(vB true)])))]
theorem rg1 {s : ByteArray} (hQ : Qs s) : W Tryz.prog (.region 1 (regOps 1 Tryz.f13) false) (fun e S1 => e = .normal ∧ Weak S1 (sx 16 [(1, (.ptr 1 0)), (4, (.ptr 4 0))] [(4, (.cells 69 [.nil, (.mp 6)])), (6, (.map ([]) ([]))), (1, (.cells 42 [(jL []), (jL [(.agg (zl6 s)), (.agg zl7)])]))] [])) (sx 16 [(1, (.ptr 1 0))] [(1, (.cells 42 [(jL []), (jL [(.agg (zl6 s)), (.agg zl7)])]))] []) := by
 refine W_regionO ?_
 rw [show (regOps 1 Tryz.f13).toList = [regO 1 Tryz.f13 0, regO 1 Tryz.f13 1, regO 1 Tryz.f13 2, regO 1 Tryz.f13 3] by kernel_rfl]
 refine WO_own (.mp 6) 6 (by kernel_rfl) (sound_makeMap (t := 67) (k := 9) (e := 4) (r := none) (id := 6) (by kernel_rfl) (by kernel_rfl) (by intro x h; cases h) (by decide) (by kernel_rfl)) ?_
 refine WO_col (t := 69) (m := 6) (d1 := 7) (d2 := 4) (b := 6) (bt := 32) (by kernel_rfl) (by kernel_rfl) (by kernel_rfl) (by kernel_rfl) (by kernel_rfl) (by kernel_rfl) (by kernel_rfl) (by kernel_rfl) (by kernel_rfl) (by kernel_rfl) (by kernel_rfl) (by kernel_rfl) (by decide) (by decide) (by decide) (Nat.lt_of_lt_of_eq (by decide : 7 < 16) (by kernel_rfl)) (Nat.lt_of_lt_of_eq (by decide : 4 < 16) (by kernel_rfl)) (by decide) (by kernel_rfl) ?_
 exact WO_nil rfl ⟨rfl, WK (by kernel_rfl)⟩
theorem q124_to {s : ByteArray} (hQ : Qs s) : CallTo Tryz.prog 33 [(.av (.agg (zl6 s)))] [] [] (jB (eqs (⟨#[109, 97, 99, 114, 111]⟩) (⟨#[109, 97, 99, 114, 111]⟩))) [] [] := by
 refine bG Tryz.func33 ?_
 refine gO (tn 6 (kb tt (tn 1 (kb tt (tn 1 (kb tt (tn 1 (kb tt (tn 1 z))))))))) ?_
 exact eN
theorem q126_to {s : ByteArray} (hQ : Qs s) : CallTo Tryz.prog 64 [(.av (.agg zl9)), (jS (⟨#[110, 97, 109, 101]⟩))] [] [] (.av (.tup [(vS (⟨#[118]⟩)), (vB true)])) [] [] := by
 refine bG Tryz.func64 ?_
 refine gO (tn 7 z) ?_
 refine uN (sx 22 [(1, (jS (⟨#[110, 97, 109, 101]⟩))), (9, (jL [(.agg zl4), (.agg zl5)])), (10, (jI 2)), (11, (jI 0))] [] []) 60 ?_
 refine gO (tn 1 (kb tt (ke (el0 (.agg zl4) [(.agg zl5)]) (tn 7 (kb (show eqs (⟨#[110, 97, 109, 101]⟩) (⟨#[110, 97, 109, 101]⟩) = true from (by kernel_rfl)) (tn 4 z)))))) ?_
 refine uO z ?_
 exact eN
theorem q127_to {s : ByteArray} (hQ : Qs s) : CallTo Tryz.prog 64 [(.av (.agg zl9)), (jS (⟨#[97, 114, 103, 115]⟩))] [] [] (.av (.tup [(vS (⟨#[]⟩)), (vB true)])) [] [] := by
 have ⟨hc, he, hs, hz, hes⟩ := hQ.a
 refine bG Tryz.func64 ?_
 refine gO (tn 7 z) ?_
 refine uN (sx 22 [(1, (jS (⟨#[97, 114, 103, 115]⟩))), (9, (jL [(.agg zl4), (.agg zl5)])), (10, (jI 2)), (11, (jI 0))] [] []) 60 ?_
 refine gO (tn 1 (kb tt (ke (el0 (.agg zl4) [(.agg zl5)]) (tn 7 (kb (show eqs (⟨#[110, 97, 109, 101]⟩) (⟨#[97, 114, 103, 115]⟩) = false from (by kernel_rfl)) (kn (wrE (0 + 1) 1 (by omega)) (tn 1 z))))))) ?_
 refine uA (sx 22 [(1, (jS (⟨#[97, 114, 103, 115]⟩))), (9, (jL [(.agg zl4), (.agg zl5)])), (10, (jI 2)), (11, (jI 1))] [] []) ?_
 refine gO (tn 1 (kb tt (ke (el1 (.agg zl4) (.agg zl5) []) (tn 7 (kb (show eqs (⟨#[97, 114, 103, 115]⟩) (⟨#[97, 114, 103, 115]⟩) = true from (by kernel_rfl)) (tn 4 z)))))) ?_
 refine uO z ?_
 exact eN
theorem q128_to {s : ByteArray} (hQ : Qs s) : CallTo Tryz.prog 65 [(jS (⟨#[]⟩))] [] [] (jL []) [] [] := by
 have ⟨hc, he, hs, hz, hes⟩ := hQ.a
 refine bG Tryz.func65 ?_
 refine gO (tn 3 (kc split_e (tn 2 z))) ?_
 refine uN (sx 21 [(3, .nil), (7, (jL [(vS (⟨#[]⟩))])), (8, (jI 1)), (9, (jI 0))] [] []) 60 ?_
 refine gO (tn 1 (kb tt (ke (el0 (vS (⟨#[]⟩)) []) (tn 4 (kb (show (!eqs (⟨#[]⟩) (⟨#[]⟩)) = false from (by rw [show eqs (⟨#[]⟩) (⟨#[]⟩) = true from (by kernel_rfl)]; rfl)) (kn (wrE (0 + 1) 1 (by omega)) (tn 1 z))))))) ?_
 refine uA (sx 21 [(3, .nil), (7, (jL [(vS (⟨#[]⟩))])), (8, (jI 1)), (9, (jI 1))] [] []) ?_
 refine gO (tn 1 (kb ff z)) ?_
 refine uO (tn 2 z) ?_
 exact eN
theorem q130_to {s : ByteArray} (hQ : Qs s) : CallTo Tryz.prog 39 [(.av (.agg [(vS (⟨#[]⟩)), (.sl []), (.sl [])]))] [] [] (.av (.agg [(vS (⟨#[]⟩)), (.sl []), (.sl [])])) [] [] := by
 have ⟨hc, he, hs, hz, hes⟩ := hQ.a
 refine bG Tryz.func39 ?_
 refine gO (tn 2 z) ?_
 refine DR3 (tn 8 (kp (show Uni 1 [] ∧ ([] : List AV).length * 16 ≤ 140737488355328 from ⟨by simp [Uni, AV.cells, AV.isTup], by first | omega | (simp; done) | (simp; omega)⟩) (tn 4 (kp (show Uni 2 [] ∧ ([] : List AV).length * 32 ≤ 140737488355328 from ⟨by simp [Uni, AV.cells, AV.isTup], by first | omega | (simp; done) | (simp; omega)⟩) (tn 2 z))))) (by kernel_rfl) (by kernel_rfl) (by kernel_rfl) ?_
 exact eN
theorem q132_to {s : ByteArray} (hQ : Qs s) : CallTo Tryz.prog 58 [(.av (.agg (zl1 s)))] [] [] (.av (.agg (zl1 s))) [] [] := by
 have ⟨hc, he, hs, hz, hes⟩ := hQ.a
 refine bG Tryz.func58 ?_
 refine gO (tn 4 (kc (q130_to hQ) (tn 4 (kp (show Uni 1 [] ∧ ([] : List AV).length * 16 ≤ 140737488355328 from ⟨by simp [Uni, AV.cells, AV.isTup], by first | omega | (simp; done) | (simp; omega)⟩) (kw (show ([] : List AV) = _ from rfl) (tn 4 (kp (show Uni 4 [] ∧ ([] : List AV).length * 56 ≤ 140737488355328 from ⟨by simp [Uni, AV.cells, AV.isTup], by first | omega | (simp; done) | (simp; omega)⟩) (kw (show ([] : List AV) = _ from rfl) (tn 4 z))))))))) ?_
 exact eN
theorem q133_to {s : ByteArray} (hQ : Qs s) : CallTo Tryz.prog 82 [(jL [])] [] [] (jL []) [] [] := by
 refine bG Tryz.func82 ?_
 refine gO (tn 5 z) ?_
 refine uN (sx 24 [(3, .nil), (6, (jL [])), (7, (jI 0)), (8, (jI 0))] [] []) 60 ?_
 refine gO (tn 1 (kb ff z)) ?_
 refine uO (tn 2 z) ?_
 exact eN
theorem q131_to {s : ByteArray} (hQ : Qs s) : CallTo Tryz.prog 82 [(jL [(.agg (zl1 s))])] [] [] (jL [(.agg (zl1 s))]) [] [] := by
 have ⟨hc, he, hs, hz, hes⟩ := hQ.a
 refine bG Tryz.func82 ?_
 refine gO (tn 5 z) ?_
 refine uN (sx 24 [(3, .nil), (6, (jL [(.agg (zl1 s))])), (7, (jI 1)), (8, (jI 0))] [] []) 60 ?_
 refine gO (tn 1 (kb tt (ke (el0 (.agg (zl1 s)) []) (tn 4 (kc (q132_to hQ) (tn 3 (kc (q133_to hQ) (tn 4 (kp (show Uni 10 [(.agg (zl1 s))] from (uni_one rfl rfl)) (kp (show Uni 10 [(.agg (zl1 s))] ∧ ([(.agg (zl1 s))] : List AV).length * 192 ≤ 140737488355328 from ⟨uni_one rfl rfl, by first | omega | (simp; done) | (simp; omega)⟩) (kw (show ([(.agg (zl1 s))] : List AV) = _ from rfl) (tn 1 (kn (wrE (0 + 1) 1 (by omega)) (tn 1 z)))))))))))))) ?_
 refine uA (sx 24 [(3, (.own (21, 34) 1 10 [(.agg (zl1 s))])), (6, (jL [(.agg (zl1 s))])), (7, (jI 1)), (8, (jI 1))] [] [((21, 34), 1)]) ?_
 refine gO (tn 1 (kb ff z)) ?_
 refine uO (tn 2 z) ?_
 exact eN
theorem q134_to {s : ByteArray} (hQ : Qs s) : CallTo Tryz.prog 66 [(jL [])] [] [] (jL []) [] [] := by
 refine bG Tryz.func66 ?_
 refine gO (tn 5 z) ?_
 refine uN (sx 30 [(3, .nil), (6, (jL [])), (7, (jI 0)), (8, (jI 0))] [] []) 60 ?_
 refine gO (tn 1 (kb ff z)) ?_
 refine uO (tn 2 z) ?_
 exact eN
theorem q129_to {s : ByteArray} (hQ : Qs s) : CallTo Tryz.prog 66 [(jL [(.agg (zl2 s))])] [] [] (jL [(.agg (zl2 s))]) [] [] := by
 have ⟨hc, he, hs, hz, hes⟩ := hQ.a
 refine bG Tryz.func66 ?_
 refine gO (tn 5 z) ?_
 refine uN (sx 30 [(3, .nil), (6, (jL [(.agg (zl2 s))])), (7, (jI 1)), (8, (jI 0))] [] []) 60 ?_
 refine gO (tn 1 (kb tt (ke (el0 (.agg (zl2 s)) []) (tn 3 z)))) ?_
 have d1 := (q130_to hQ)
 have d2 := (q131_to hQ)
 have d3 := (q134_to hQ)
 refine DR3 (tn 2 (ko (cO d1) (kp d1 (tn 3 (ko (cO d2) (kp d2 (tn 3 (ko (cO d3) (kp d3 (tn 9 (kp (show Uni 11 [(.agg (zl2 s))] from (uni_one rfl rfl)) (kp (show Uni 11 [(.agg (zl2 s))] ∧ ([(.agg (zl2 s))] : List AV).length * 192 ≤ 140737488355328 from ⟨uni_one rfl rfl, by first | omega | (simp; done) | (simp; omega)⟩) (kw (show ([(.agg (zl2 s))] : List AV) = _ from rfl) (tn 1 (kn (wrE (0 + 1) 1 (by omega)) (tn 1 z)))))))))))))))) (by kernel_rfl) (by kernel_rfl) (by kernel_rfl) ?_
 refine uA (sx 30 [(3, (.own (27, 39) 1 11 [(.agg (zl2 s))])), (6, (jL [(.agg (zl2 s))])), (7, (jI 1)), (8, (jI 1)), (12, (.ptr 5 6)), (13, (.av (.agg [(vS (⟨#[]⟩)), (.sl []), (.sl [])]))), (14, (.av (.agg [(vS (⟨#[]⟩)), (.sl []), (.sl [])]))), (15, (.ptr 5 9)), (16, (jL [(.agg (zl1 s))])), (17, (jL [(.agg (zl1 s))])), (18, (.ptr 5 10)), (19, (jL [])), (20, (jL [])), (21, (.ptr 5 6)), (22, (.ptr 5 9)), (23, (.ptr 5 10))] [(5, (.cells 38 [(jI 1), (jI 0), (jS (⟨#[]⟩)), (jS (⟨#[]⟩)), (jS (⟨#[]⟩)), (jS (⟨#[]⟩)), (jS (⟨#[]⟩)), (jL []), (jL []), (jL [(.agg (zl1 s))]), (jL [])]))] [((27, 39), 1)]) ?_
 refine gO (tn 1 (kb ff z)) ?_
 refine uO (tn 2 z) ?_
 exact eN
theorem q125_to {s : ByteArray} (hQ : Qs s) : CallTo Tryz.prog 44 [(.ptr 1000 0), (.av (.agg (zl6 s)))] zb1 [((1002, 55), 0)] (jI 0) (zb2 s) [((1002, 55), 1)] := by
 have ⟨hc, he, hs, hz, hes⟩ := hQ.a
 refine bGs Tryz.func44 ?_
 refine gO (tn 4 (kc (q126_to hQ) (tn 7 (kb ff (tn 2 (kc (q127_to hQ) (tn 6 (kc (q128_to hQ) (tn 2 (kc (q62_to hQ) (tn 1 (kb ff (tn 3 z))))))))))))) ?_
 refine uN (sx 94 [(0, (.ptr 1000 0)), (3, (.ptr 3 0)), (5, (jS (⟨#[118]⟩))), (9, (jL [])), (34, (jL [])), (35, (jI 0)), (36, (jI 0))] [(3, (.cells 38 [(jI 13), (jI 0), (jS (⟨#[109, 97, 99, 114, 111]⟩)), (jS (⟨#[]⟩)), (jS (⟨#[]⟩)), (jS (⟨#[]⟩)), (jS (⟨#[]⟩)), (jL []), (jL [(.agg zl4), (.agg zl5)]), (jL []), (jL [(.agg (zl2 s))])])), (1000, (.cells 69 [(.own (1002, 55) 0 3 []), (.mp 1001)])), (1001, (.map ([]) ([])))] [((1002, 55), 0)]) 60 ?_
 refine gO (tn 1 (kb ff z)) ?_
 refine uO (tn 5 z) ?_
 refine uN (sx 94 [(0, (.ptr 1000 0)), (3, (.ptr 3 0)), (5, (jS (⟨#[118]⟩))), (9, (jL [])), (12, (.mp 44)), (45, (jL [])), (46, (jI 0)), (47, (jI 0))] [(44, (.map ([]) ([]))), (3, (.cells 38 [(jI 13), (jI 0), (jS (⟨#[109, 97, 99, 114, 111]⟩)), (jS (⟨#[]⟩)), (jS (⟨#[]⟩)), (jS (⟨#[]⟩)), (jS (⟨#[]⟩)), (jL []), (jL [(.agg zl4), (.agg zl5)]), (jL []), (jL [(.agg (zl2 s))])])), (1000, (.cells 69 [(.own (1002, 55) 0 3 []), (.mp 1001)])), (1001, (.map ([]) ([])))] [((1002, 55), 0)]) 60 ?_
 refine gO (tn 1 (kb ff z)) ?_
 refine uO (tn 5 (kl (show mgetT false (vB false) ([]) ([]) (⟨#[118]⟩) = (vB false) from (by kernel_rfl)) (kb ff (tn 4 (kb ff (tn 1 (kb ff (tn 1 (kb ff (tn 1 (kb ff (tn 1 (kb ff (tn 1 (kb ff (tn 1 (kb ff (kb ff (tn 6 z))))))))))))))))))) ?_
 have d1 := (q129_to hQ)
 refine DR3 (tn 10 (ko (cO d1) (kp d1 (tn 2 (kp (show Uni 3 [(.agg (zl18 s))] from (uni_one rfl rfl)) (kp (show (0 : Nat) = 0 ∧ Uni 3 [(.agg (zl18 s))] ∧ (([] : List AV).length + ([(.agg (zl18 s))] : List AV).length) * 64 ≤ 140737488355328 from ⟨rfl, uni_one rfl rfl, by first | omega | (simp; done) | (simp; omega)⟩) (tn 4 z))))))) (by kernel_rfl) (by kernel_rfl) (by kernel_rfl) ?_
 exact eNs
theorem q136_to {s : ByteArray} (hQ : Qs s) : CallTo Tryz.prog 33 [(.av (.agg (zl2 s)))] [] [] (jB false) [] [] := by
 refine bG Tryz.func33 ?_
 refine gO (tn 6 (kb ff (kb ff (kb ff (kb ff (tn 1 z)))))) ?_
 exact eN
theorem q137_to {s : ByteArray} (hQ : Qs s) : CallTo Tryz.prog 24 [(.ptr 1000 0), (jL []), (jB true)] (zb2 s) [((1002, 55), 1)] (jI 0) (zb2 s) [((1002, 55), 1)] := by
 refine bGs Tryz.func24 ?_
 refine gO (tn 4 z) ?_
 refine uN (sx 37 [(0, (.ptr 1000 0)), (2, (jB true)), (12, (jL [])), (13, (jI 0)), (14, (jI 0))] (zb2 s) [((1002, 55), 1)]) 60 ?_
 refine gO (tn 1 (kb ff z)) ?_
 refine uO (tn 1 z) ?_
 exact eNs
theorem q135_to {s : ByteArray} (hQ : Qs s) : CallTo Tryz.prog 24 [(.ptr 1000 0), (jL [(.agg (zl2 s))]), (jB true)] (zb2 s) [((1002, 55), 1)] (jI 0) (zb2 s) [((1002, 55), 1)] := by
 have ⟨hc, he, hs, hz, hes⟩ := hQ.a
 refine bGs Tryz.func24 ?_
 refine gO (tn 4 z) ?_
 refine uN (sx 37 [(0, (.ptr 1000 0)), (2, (jB true)), (12, (jL [(.agg (zl2 s))])), (13, (jI 1)), (14, (jI 0))] (zb2 s) [((1002, 55), 1)]) 60 ?_
 refine gO (tn 1 (kb tt (ke (el0 (.agg (zl2 s)) []) (tn 6 (kc (q136_to hQ) (kb ff (tn 4 (kg (q137_to hQ) (show (1 : Nat) = 1 ∧ True from ⟨rfl, trivial⟩) (tn 3 (kb ff (kn (wrE (0 + 1) 1 (by omega)) (tn 1 z)))))))))))) ?_
 refine uA (sx 37 [(0, (.ptr 1000 0)), (2, (jB true)), (12, (jL [(.agg (zl2 s))])), (13, (jI 1)), (14, (jI 1))] (zb2 s) [((1002, 55), 1)]) ?_
 refine gO (tn 1 (kb ff z)) ?_
 refine uO (tn 1 z) ?_
 exact eNs
theorem q138_to {s : ByteArray} (hQ : Qs s) : CallTo Tryz.prog 33 [(.av (.agg zl7))] [] [] (jB false) [] [] := by
 refine bG Tryz.func33 ?_
 refine gO (tn 6 (kb ff (kb ff (kb ff (kb ff (tn 1 z)))))) ?_
 exact eN
theorem q139_to {s : ByteArray} (hQ : Qs s) : CallTo Tryz.prog 24 [(.ptr 1000 0), (jL []), (jB false)] (zb2 s) [((1002, 55), 1)] (jI 0) (zb2 s) [((1002, 55), 1)] := by
 refine bGs Tryz.func24 ?_
 refine gO (tn 4 z) ?_
 refine uN (sx 37 [(0, (.ptr 1000 0)), (2, (jB false)), (12, (jL [])), (13, (jI 0)), (14, (jI 0))] (zb2 s) [((1002, 55), 1)]) 60 ?_
 refine gO (tn 1 (kb ff z)) ?_
 refine uO (tn 1 z) ?_
 exact eNs
theorem q123_to {s : ByteArray} (hQ : Qs s) : CallTo Tryz.prog 24 [(.ptr 1000 0), (jL [(.agg (zl6 s)), (.agg zl7)]), (jB false)] zb1 [((1002, 55), 0)] (jI 0) (zb2 s) [((1002, 55), 1)] := by
 have ⟨hc, he, hs, hz, hes⟩ := hQ.a
 refine bGs Tryz.func24 ?_
 refine gO (tn 4 z) ?_
 refine uN (sx 37 [(0, (.ptr 1000 0)), (2, (jB false)), (12, (jL [(.agg (zl6 s)), (.agg zl7)])), (13, (jI 2)), (14, (jI 0))] zb1 [((1002, 55), 0)]) 60 ?_
 refine gO (tn 1 (kb tt (ke (el0 (.agg (zl6 s)) [(.agg zl7)]) (tn 6 (kc (q124_to hQ) (kb (show eqs (⟨#[109, 97, 99, 114, 111]⟩) (⟨#[109, 97, 99, 114, 111]⟩) = true from (by kernel_rfl)) (tn 1 (kb ff (tn 2 (kg (q125_to hQ) (show (0 : Nat) = 0 ∧ True from ⟨rfl, trivial⟩) (tn 3 (kb ff (tn 5 (kg (q135_to hQ) (show (1 : Nat) = 1 ∧ True from ⟨rfl, trivial⟩) (tn 3 (kb ff (kn (wrE (0 + 1) 1 (by omega)) (tn 1 z)))))))))))))))))) ?_
 refine uA (sx 37 [(0, (.ptr 1000 0)), (2, (jB false)), (12, (jL [(.agg (zl6 s)), (.agg zl7)])), (13, (jI 2)), (14, (jI 1))] (zb2 s) [((1002, 55), 1)]) ?_
 refine gO (tn 1 (kb tt (ke (el1 (.agg (zl6 s)) (.agg zl7) []) (tn 6 (kc (q138_to hQ) (kb ff (tn 4 (kg (q139_to hQ) (show (1 : Nat) = 1 ∧ True from ⟨rfl, trivial⟩) (tn 3 (kb ff (kn (wrE (1 + 1) 2 (by omega)) (tn 1 z)))))))))))) ?_
 refine uA (sx 37 [(0, (.ptr 1000 0)), (2, (jB false)), (12, (jL [(.agg (zl6 s)), (.agg zl7)])), (13, (jI 2)), (14, (jI 2))] (zb2 s) [((1002, 55), 1)]) ?_
 refine gO (tn 1 (kb ff z)) ?_
 refine uO (tn 1 z) ?_
 exact eNs
theorem q122_to {s : ByteArray} (hQ : Qs s) : CallTo Tryz.prog 13 [(.av (.agg (zl8 s)))] [] [] (.av (.tup [(.sl [(.agg (zl18 s))]), (vI 0)])) [] [] := by
 refine bG Tryz.func13 ?_
 refine gO (tn 3 (kq 1 z)) ?_
 refine NXW (sx 16 [(1, (.ptr 1 0)), (4, (.ptr 4 0))] [(4, (.cells 69 [.nil, (.mp 6)])), (6, (.map ([]) ([]))), (1, (.cells 42 [(jL []), (jL [(.agg (zl6 s)), (.agg zl7)])]))] []) (kq 2 z) (by kernel_rfl) (W_weak (S' := (sx 16 [(1, (.ptr 1 0))] [(1, (.cells 42 [(jL []), (jL [(.agg (zl6 s)), (.agg zl7)])]))] [])) (WK (by kernel_rfl)) (W_code (c' := .region 1 (regOps 1 Tryz.f13) false) (by kernel_rfl) (rg1 hQ))) (by kernel_rfl) ?_
 refine RT [(4, 0, (.own (1302, 55) 0 3 []))] (ac (show ([] : List AV) = [] ∧ 0 < 55 ∧ (0 : Nat) = 0 from ⟨rfl, by decide, rfl⟩) an) (by kernel_rfl) ?_
 refine gO (tn 2 (kg (CallTo_ren (swap_inv (1302, 55) (1002, 55) rfl) (CallTo_ren (swap_inv (6, 0) (1001, 0) rfl) (CallTo_ren (swap_inv (4, 0) (1000, 0) rfl) (q123_to hQ)))) (show (0 : Nat) = 0 ∧ True from ⟨rfl, trivial⟩) (tn 3 (kb ff (tn 4 z))))) ?_
 exact eN
theorem rg2 {s : ByteArray} (hQ : Qs s) : W Tryz.prog (.region 1 (regOps 1 Tryz.f13) false) (fun e S1 => e = .normal ∧ Weak S1 (sx 16 [(1, (.ptr 1 0)), (4, (.ptr 4 0))] [(4, (.cells 69 [.nil, (.mp 6)])), (6, (.map ([]) ([]))), (1, (.cells 42 [(jL []), (jL [(.agg zl7)])]))] [])) (sx 16 [(1, (.ptr 1 0))] [(1, (.cells 42 [(jL []), (jL [(.agg zl7)])]))] []) := by
 refine W_regionO ?_
 rw [show (regOps 1 Tryz.f13).toList = [regO 1 Tryz.f13 0, regO 1 Tryz.f13 1, regO 1 Tryz.f13 2, regO 1 Tryz.f13 3] by kernel_rfl]
 refine WO_own (.mp 6) 6 (by kernel_rfl) (sound_makeMap (t := 67) (k := 9) (e := 4) (r := none) (id := 6) (by kernel_rfl) (by kernel_rfl) (by intro x h; cases h) (by decide) (by kernel_rfl)) ?_
 refine WO_col (t := 69) (m := 6) (d1 := 7) (d2 := 4) (b := 6) (bt := 32) (by kernel_rfl) (by kernel_rfl) (by kernel_rfl) (by kernel_rfl) (by kernel_rfl) (by kernel_rfl) (by kernel_rfl) (by kernel_rfl) (by kernel_rfl) (by kernel_rfl) (by kernel_rfl) (by kernel_rfl) (by decide) (by decide) (by decide) (Nat.lt_of_lt_of_eq (by decide : 7 < 16) (by kernel_rfl)) (Nat.lt_of_lt_of_eq (by decide : 4 < 16) (by kernel_rfl)) (by decide) (by kernel_rfl) ?_
 exact WO_nil rfl ⟨rfl, WK (by kernel_rfl)⟩
theorem q142_to {s : ByteArray} (hQ : Qs s) : CallTo Tryz.prog 24 [(.ptr 1000 0), (jL []), (jB false)] zb1 [((1002, 55), 0)] (jI 0) zb1 [((1002, 55), 0)] := by
 refine bGs Tryz.func24 ?_
 refine gO (tn 4 z) ?_
 refine uN (sx 37 [(0, (.ptr 1000 0)), (2, (jB false)), (12, (jL [])), (13, (jI 0)), (14, (jI 0))] zb1 [((1002, 55), 0)]) 60 ?_
 refine gO (tn 1 (kb ff z)) ?_
 refine uO (tn 1 z) ?_
 exact eNs
theorem q141_to {s : ByteArray} (hQ : Qs s) : CallTo Tryz.prog 24 [(.ptr 1000 0), (jL [(.agg zl7)]), (jB false)] zb1 [((1002, 55), 0)] (jI 0) zb1 [((1002, 55), 0)] := by
 have ⟨hc, he, hs, hz, hes⟩ := hQ.a
 refine bGs Tryz.func24 ?_
 refine gO (tn 4 z) ?_
 refine uN (sx 37 [(0, (.ptr 1000 0)), (2, (jB false)), (12, (jL [(.agg zl7)])), (13, (jI 1)), (14, (jI 0))] zb1 [((1002, 55), 0)]) 60 ?_
 refine gO (tn 1 (kb tt (ke (el0 (.agg zl7) []) (tn 6 (kc (q138_to hQ) (kb ff (tn 4 (kg (q142_to hQ) (show (0 : Nat) = 0 ∧ True from ⟨rfl, trivial⟩) (tn 3 (kb ff (kn (wrE (0 + 1) 1 (by omega)) (tn 1 z)))))))))))) ?_
 refine uA (sx 37 [(0, (.ptr 1000 0)), (2, (jB false)), (12, (jL [(.agg zl7)])), (13, (jI 1)), (14, (jI 1))] zb1 [((1002, 55), 0)]) ?_
 refine gO (tn 1 (kb ff z)) ?_
 refine uO (tn 1 z) ?_
 exact eNs
theorem q140_to {s : ByteArray} (hQ : Qs s) : CallTo Tryz.prog 13 [(.av (.agg [(.sl []), (.sl [(.agg zl7)])]))] [] [] (.av (.tup [(.sl []), (vI 0)])) [] [] := by
 refine bG Tryz.func13 ?_
 refine gO (tn 3 (kq 1 z)) ?_
 refine NXW (sx 16 [(1, (.ptr 1 0)), (4, (.ptr 4 0))] [(4, (.cells 69 [.nil, (.mp 6)])), (6, (.map ([]) ([]))), (1, (.cells 42 [(jL []), (jL [(.agg zl7)])]))] []) (kq 2 z) (by kernel_rfl) (W_weak (S' := (sx 16 [(1, (.ptr 1 0))] [(1, (.cells 42 [(jL []), (jL [(.agg zl7)])]))] [])) (WK (by kernel_rfl)) (W_code (c' := .region 1 (regOps 1 Tryz.f13) false) (by kernel_rfl) (rg2 hQ))) (by kernel_rfl) ?_
 refine RT [(4, 0, (.own (1302, 55) 0 3 []))] (ac (show ([] : List AV) = [] ∧ 0 < 55 ∧ (0 : Nat) = 0 from ⟨rfl, by decide, rfl⟩) an) (by kernel_rfl) ?_
 refine gO (tn 2 (kg (CallTo_ren (swap_inv (1302, 55) (1002, 55) rfl) (CallTo_ren (swap_inv (6, 0) (1001, 0) rfl) (CallTo_ren (swap_inv (4, 0) (1000, 0) rfl) (q141_to hQ)))) (show (0 : Nat) = 0 ∧ True from ⟨rfl, trivial⟩) (tn 3 (kb ff (tn 4 z))))) ?_
 exact eN
theorem rg3 {s : ByteArray} (hQ : Qs s) : W Tryz.prog (.region 1 (regOps 1 Tryz.f13) false) (fun e S1 => e = .normal ∧ Weak S1 (sx 16 [(1, (.ptr 1 0)), (4, (.ptr 4 0))] [(4, (.cells 69 [.nil, (.mp 6)])), (6, (.map ([]) ([]))), (1, (.cells 42 [(jL []), (jL [(.agg (zl6 s)), (.agg zl11)])]))] [])) (sx 16 [(1, (.ptr 1 0))] [(1, (.cells 42 [(jL []), (jL [(.agg (zl6 s)), (.agg zl11)])]))] []) := by
 refine W_regionO ?_
 rw [show (regOps 1 Tryz.f13).toList = [regO 1 Tryz.f13 0, regO 1 Tryz.f13 1, regO 1 Tryz.f13 2, regO 1 Tryz.f13 3] by kernel_rfl]
 refine WO_own (.mp 6) 6 (by kernel_rfl) (sound_makeMap (t := 67) (k := 9) (e := 4) (r := none) (id := 6) (by kernel_rfl) (by kernel_rfl) (by intro x h; cases h) (by decide) (by kernel_rfl)) ?_
 refine WO_col (t := 69) (m := 6) (d1 := 7) (d2 := 4) (b := 6) (bt := 32) (by kernel_rfl) (by kernel_rfl) (by kernel_rfl) (by kernel_rfl) (by kernel_rfl) (by kernel_rfl) (by kernel_rfl) (by kernel_rfl) (by kernel_rfl) (by kernel_rfl) (by kernel_rfl) (by kernel_rfl) (by decide) (by decide) (by decide) (Nat.lt_of_lt_of_eq (by decide : 7 < 16) (by kernel_rfl)) (Nat.lt_of_lt_of_eq (by decide : 4 < 16) (by kernel_rfl)) (by decide) (by kernel_rfl) ?_
 exact WO_nil rfl ⟨rfl, WK (by kernel_rfl)⟩
theorem q145_to {s : ByteArray} (hQ : Qs s) : CallTo Tryz.prog 33 [(.av (.agg zl11))] [] [] (jB false) [] [] := by
 refine bG Tryz.func33 ?_
 refine gO (tn 6 (kb ff (kb ff (kb ff (kb ff (tn 1 z)))))) ?_
 exact eN
theorem q144_to {s : ByteArray} (hQ : Qs s) : CallTo Tryz.prog 24 [(.ptr 1000 0), (jL [(.agg (zl6 s)), (.agg zl11)]), (jB false)] zb1 [((1002, 55), 0)] (jI 0) (zb2 s) [((1002, 55), 1)] := by
 have ⟨hc, he, hs, hz, hes⟩ := hQ.a
 refine bGs Tryz.func24 ?_
 refine gO (tn 4 z) ?_
 refine uN (sx 37 [(0, (.ptr 1000 0)), (2, (jB false)), (12, (jL [(.agg (zl6 s)), (.agg zl11)])), (13, (jI 2)), (14, (jI 0))] zb1 [((1002, 55), 0)]) 60 ?_
 refine gO (tn 1 (kb tt (ke (el0 (.agg (zl6 s)) [(.agg zl11)]) (tn 6 (kc (q124_to hQ) (kb (show eqs (⟨#[109, 97, 99, 114, 111]⟩) (⟨#[109, 97, 99, 114, 111]⟩) = true from (by kernel_rfl)) (tn 1 (kb ff (tn 2 (kg (q125_to hQ) (show (0 : Nat) = 0 ∧ True from ⟨rfl, trivial⟩) (tn 3 (kb ff (tn 5 (kg (q135_to hQ) (show (1 : Nat) = 1 ∧ True from ⟨rfl, trivial⟩) (tn 3 (kb ff (kn (wrE (0 + 1) 1 (by omega)) (tn 1 z)))))))))))))))))) ?_
 refine uA (sx 37 [(0, (.ptr 1000 0)), (2, (jB false)), (12, (jL [(.agg (zl6 s)), (.agg zl11)])), (13, (jI 2)), (14, (jI 1))] (zb2 s) [((1002, 55), 1)]) ?_
 refine gO (tn 1 (kb tt (ke (el1 (.agg (zl6 s)) (.agg zl11) []) (tn 6 (kc (q145_to hQ) (kb ff (tn 4 (kg (q139_to hQ) (show (1 : Nat) = 1 ∧ True from ⟨rfl, trivial⟩) (tn 3 (kb ff (kn (wrE (1 + 1) 2 (by omega)) (tn 1 z)))))))))))) ?_
 refine uA (sx 37 [(0, (.ptr 1000 0)), (2, (jB false)), (12, (jL [(.agg (zl6 s)), (.agg zl11)])), (13, (jI 2)), (14, (jI 2))] (zb2 s) [((1002, 55), 1)]) ?_
 refine gO (tn 1 (kb ff z)) ?_
 refine uO (tn 1 z) ?_
 exact eNs
theorem q143_to {s : ByteArray} (hQ : Qs s) : CallTo Tryz.prog 13 [(.av (.agg (zl12 s)))] [] [] (.av (.tup [(.sl [(.agg (zl18 s))]), (vI 0)])) [] [] := by
 refine bG Tryz.func13 ?_
 refine gO (tn 3 (kq 1 z)) ?_
 refine NXW (sx 16 [(1, (.ptr 1 0)), (4, (.ptr 4 0))] [(4, (.cells 69 [.nil, (.mp 6)])), (6, (.map ([]) ([]))), (1, (.cells 42 [(jL []), (jL [(.agg (zl6 s)), (.agg zl11)])]))] []) (kq 2 z) (by kernel_rfl) (W_weak (S' := (sx 16 [(1, (.ptr 1 0))] [(1, (.cells 42 [(jL []), (jL [(.agg (zl6 s)), (.agg zl11)])]))] [])) (WK (by kernel_rfl)) (W_code (c' := .region 1 (regOps 1 Tryz.f13) false) (by kernel_rfl) (rg3 hQ))) (by kernel_rfl) ?_
 refine RT [(4, 0, (.own (1302, 55) 0 3 []))] (ac (show ([] : List AV) = [] ∧ 0 < 55 ∧ (0 : Nat) = 0 from ⟨rfl, by decide, rfl⟩) an) (by kernel_rfl) ?_
 refine gO (tn 2 (kg (CallTo_ren (swap_inv (1302, 55) (1002, 55) rfl) (CallTo_ren (swap_inv (6, 0) (1001, 0) rfl) (CallTo_ren (swap_inv (4, 0) (1000, 0) rfl) (q144_to hQ)))) (show (0 : Nat) = 0 ∧ True from ⟨rfl, trivial⟩) (tn 3 (kb ff (tn 4 z))))) ?_
 exact eN
theorem rg4 {s : ByteArray} (hQ : Qs s) : W Tryz.prog (.region 1 (regOps 1 Tryz.f13) false) (fun e S1 => e = .normal ∧ Weak S1 (sx 16 [(1, (.ptr 1 0)), (4, (.ptr 4 0))] [(4, (.cells 69 [.nil, (.mp 6)])), (6, (.map ([]) ([]))), (1, (.cells 42 [(jL []), (jL [(.agg zl11)])]))] [])) (sx 16 [(1, (.ptr 1 0))] [(1, (.cells 42 [(jL []), (jL [(.agg zl11)])]))] []) := by
 refine W_regionO ?_
 rw [show (regOps 1 Tryz.f13).toList = [regO 1 Tryz.f13 0, regO 1 Tryz.f13 1, regO 1 Tryz.f13 2, regO 1 Tryz.f13 3] by kernel_rfl]
 refine WO_own (.mp 6) 6 (by kernel_rfl) (sound_makeMap (t := 67) (k := 9) (e := 4) (r := none) (id := 6) (by kernel_rfl) (by kernel_rfl) (by intro x h; cases h) (by decide) (by kernel_rfl)) ?_
 refine WO_col (t := 69) (m := 6) (d1 := 7) (d2 := 4) (b := 6) (bt := 32) (by kernel_rfl) (by kernel_rfl) (by kernel_rfl) (by kernel_rfl) (by kernel_rfl) (by kernel_rfl) (by kernel_rfl) (by kernel_rfl) (by kernel_rfl) (by kernel_rfl) (by kernel_rfl) (by kernel_rfl) (by decide) (by decide) (by decide) (Nat.lt_of_lt_of_eq (by decide : 7 < 16) (by kernel_rfl)) (Nat.lt_of_lt_of_eq (by decide : 4 < 16) (by kernel_rfl)) (by decide) (by kernel_rfl) ?_
 exact WO_nil rfl ⟨rfl, WK (by kernel_rfl)⟩
theorem q147_to {s : ByteArray} (hQ : Qs s) : CallTo Tryz.prog 24 [(.ptr 1000 0), (jL [(.agg zl11)]), (jB false)] zb1 [((1002, 55), 0)] (jI 0) zb1 [((1002, 55), 0)] := by
 have ⟨hc, he, hs, hz, hes⟩ := hQ.a
 refine bGs Tryz.func24 ?_
 refine gO (tn 4 z) ?_
 refine uN (sx 37 [(0, (.ptr 1000 0)), (2, (jB false)), (12, (jL [(.agg zl11)])), (13, (jI 1)), (14, (jI 0))] zb1 [((1002, 55), 0)]) 60 ?_
 refine gO (tn 1 (kb tt (ke (el0 (.agg zl11) []) (tn 6 (kc (q145_to hQ) (kb ff (tn 4 (kg (q142_to hQ) (show (0 : Nat) = 0 ∧ True from ⟨rfl, trivial⟩) (tn 3 (kb ff (kn (wrE (0 + 1) 1 (by omega)) (tn 1 z)))))))))))) ?_
 refine uA (sx 37 [(0, (.ptr 1000 0)), (2, (jB false)), (12, (jL [(.agg zl11)])), (13, (jI 1)), (14, (jI 1))] zb1 [((1002, 55), 0)]) ?_
 refine gO (tn 1 (kb ff z)) ?_
 refine uO (tn 1 z) ?_
 exact eNs
theorem q146_to {s : ByteArray} (hQ : Qs s) : CallTo Tryz.prog 13 [(.av (.agg [(.sl []), (.sl [(.agg zl11)])]))] [] [] (.av (.tup [(.sl []), (vI 0)])) [] [] := by
 refine bG Tryz.func13 ?_
 refine gO (tn 3 (kq 1 z)) ?_
 refine NXW (sx 16 [(1, (.ptr 1 0)), (4, (.ptr 4 0))] [(4, (.cells 69 [.nil, (.mp 6)])), (6, (.map ([]) ([]))), (1, (.cells 42 [(jL []), (jL [(.agg zl11)])]))] []) (kq 2 z) (by kernel_rfl) (W_weak (S' := (sx 16 [(1, (.ptr 1 0))] [(1, (.cells 42 [(jL []), (jL [(.agg zl11)])]))] [])) (WK (by kernel_rfl)) (W_code (c' := .region 1 (regOps 1 Tryz.f13) false) (by kernel_rfl) (rg4 hQ))) (by kernel_rfl) ?_
 refine RT [(4, 0, (.own (1302, 55) 0 3 []))] (ac (show ([] : List AV) = [] ∧ 0 < 55 ∧ (0 : Nat) = 0 from ⟨rfl, by decide, rfl⟩) an) (by kernel_rfl) ?_
 refine gO (tn 2 (kg (CallTo_ren (swap_inv (1302, 55) (1002, 55) rfl) (CallTo_ren (swap_inv (6, 0) (1001, 0) rfl) (CallTo_ren (swap_inv (4, 0) (1000, 0) rfl) (q147_to hQ)))) (show (0 : Nat) = 0 ∧ True from ⟨rfl, trivial⟩) (tn 3 (kb ff (tn 4 z))))) ?_
 exact eN
theorem rg5 {s : ByteArray} (hQ : Qs s) : W Tryz.prog (.region 1 (regOps 1 Tryz.f13) false) (fun e S1 => e = .normal ∧ Weak S1 (sx 16 [(1, (.ptr 1 0)), (4, (.ptr 4 0))] [(4, (.cells 69 [.nil, (.mp 6)])), (6, (.map ([]) ([]))), (1, (.cells 42 [(jL []), (jL [(.agg (zl6 s)), (.agg zl14)])]))] [])) (sx 16 [(1, (.ptr 1 0))] [(1, (.cells 42 [(jL []), (jL [(.agg (zl6 s)), (.agg zl14)])]))] []) := by
 refine W_regionO ?_
 rw [show (regOps 1 Tryz.f13).toList = [regO 1 Tryz.f13 0, regO 1 Tryz.f13 1, regO 1 Tryz.f13 2, regO 1 Tryz.f13 3] by kernel_rfl]
 refine WO_own (.mp 6) 6 (by kernel_rfl) (sound_makeMap (t := 67) (k := 9) (e := 4) (r := none) (id := 6) (by kernel_rfl) (by kernel_rfl) (by intro x h; cases h) (by decide) (by kernel_rfl)) ?_
 refine WO_col (t := 69) (m := 6) (d1 := 7) (d2 := 4) (b := 6) (bt := 32) (by kernel_rfl) (by kernel_rfl) (by kernel_rfl) (by kernel_rfl) (by kernel_rfl) (by kernel_rfl) (by kernel_rfl) (by kernel_rfl) (by kernel_rfl) (by kernel_rfl) (by kernel_rfl) (by kernel_rfl) (by decide) (by decide) (by decide) (Nat.lt_of_lt_of_eq (by decide : 7 < 16) (by kernel_rfl)) (Nat.lt_of_lt_of_eq (by decide : 4 < 16) (by kernel_rfl)) (by decide) (by kernel_rfl) ?_
 exact WO_nil rfl ⟨rfl, WK (by kernel_rfl)⟩
theorem q150_to {s : ByteArray} (hQ : Qs s) : CallTo Tryz.prog 33 [(.av (.agg zl14))] [] [] (jB false) [] [] := by
 refine bG Tryz.func33 ?_
 refine gO (tn 6 (kb ff (kb ff (kb ff (kb ff (tn 1 z)))))) ?_
 exact eN
theorem q149_to {s : ByteArray} (hQ : Qs s) : CallTo Tryz.prog 24 [(.ptr 1000 0), (jL [(.agg (zl6 s)), (.agg zl14)]), (jB false)] zb1 [((1002, 55), 0)] (jI 0) (zb2 s) [((1002, 55), 1)] := by
 have ⟨hc, he, hs, hz, hes⟩ := hQ.a
 refine bGs Tryz.func24 ?_
 refine gO (tn 4 z) ?_
 refine uN (sx 37 [(0, (.ptr 1000 0)), (2, (jB false)), (12, (jL [(.agg (zl6 s)), (.agg zl14)])), (13, (jI 2)), (14, (jI 0))] zb1 [((1002, 55), 0)]) 60 ?_
 refine gO (tn 1 (kb tt (ke (el0 (.agg (zl6 s)) [(.agg zl14)]) (tn 6 (kc (q124_to hQ) (kb (show eqs (⟨#[109, 97, 99, 114, 111]⟩) (⟨#[109, 97, 99, 114, 111]⟩) = true from (by kernel_rfl)) (tn 1 (kb ff (tn 2 (kg (q125_to hQ) (show (0 : Nat) = 0 ∧ True from ⟨rfl, trivial⟩) (tn 3 (kb ff (tn 5 (kg (q135_to hQ) (show (1 : Nat) = 1 ∧ True from ⟨rfl, trivial⟩) (tn 3 (kb ff (kn (wrE (0 + 1) 1 (by omega)) (tn 1 z)))))))))))))))))) ?_
 refine uA (sx 37 [(0, (.ptr 1000 0)), (2, (jB false)), (12, (jL [(.agg (zl6 s)), (.agg zl14)])), (13, (jI 2)), (14, (jI 1))] (zb2 s) [((1002, 55), 1)]) ?_
 refine gO (tn 1 (kb tt (ke (el1 (.agg (zl6 s)) (.agg zl14) []) (tn 6 (kc (q150_to hQ) (kb ff (tn 4 (kg (q139_to hQ) (show (1 : Nat) = 1 ∧ True from ⟨rfl, trivial⟩) (tn 3 (kb ff (kn (wrE (1 + 1) 2 (by omega)) (tn 1 z)))))))))))) ?_
 refine uA (sx 37 [(0, (.ptr 1000 0)), (2, (jB false)), (12, (jL [(.agg (zl6 s)), (.agg zl14)])), (13, (jI 2)), (14, (jI 2))] (zb2 s) [((1002, 55), 1)]) ?_
 refine gO (tn 1 (kb ff z)) ?_
 refine uO (tn 1 z) ?_
 exact eNs
theorem q148_to {s : ByteArray} (hQ : Qs s) : CallTo Tryz.prog 13 [(.av (.agg (zl15 s)))] [] [] (.av (.tup [(.sl [(.agg (zl18 s))]), (vI 0)])) [] [] := by
 refine bG Tryz.func13 ?_
 refine gO (tn 3 (kq 1 z)) ?_
 refine NXW (sx 16 [(1, (.ptr 1 0)), (4, (.ptr 4 0))] [(4, (.cells 69 [.nil, (.mp 6)])), (6, (.map ([]) ([]))), (1, (.cells 42 [(jL []), (jL [(.agg (zl6 s)), (.agg zl14)])]))] []) (kq 2 z) (by kernel_rfl) (W_weak (S' := (sx 16 [(1, (.ptr 1 0))] [(1, (.cells 42 [(jL []), (jL [(.agg (zl6 s)), (.agg zl14)])]))] [])) (WK (by kernel_rfl)) (W_code (c' := .region 1 (regOps 1 Tryz.f13) false) (by kernel_rfl) (rg5 hQ))) (by kernel_rfl) ?_
 refine RT [(4, 0, (.own (1302, 55) 0 3 []))] (ac (show ([] : List AV) = [] ∧ 0 < 55 ∧ (0 : Nat) = 0 from ⟨rfl, by decide, rfl⟩) an) (by kernel_rfl) ?_
 refine gO (tn 2 (kg (CallTo_ren (swap_inv (1302, 55) (1002, 55) rfl) (CallTo_ren (swap_inv (6, 0) (1001, 0) rfl) (CallTo_ren (swap_inv (4, 0) (1000, 0) rfl) (q149_to hQ)))) (show (0 : Nat) = 0 ∧ True from ⟨rfl, trivial⟩) (tn 3 (kb ff (tn 4 z))))) ?_
 exact eN
theorem rg6 {s : ByteArray} (hQ : Qs s) : W Tryz.prog (.region 1 (regOps 1 Tryz.f13) false) (fun e S1 => e = .normal ∧ Weak S1 (sx 16 [(1, (.ptr 1 0)), (4, (.ptr 4 0))] [(4, (.cells 69 [.nil, (.mp 6)])), (6, (.map ([]) ([]))), (1, (.cells 42 [(jL []), (jL [(.agg zl14)])]))] [])) (sx 16 [(1, (.ptr 1 0))] [(1, (.cells 42 [(jL []), (jL [(.agg zl14)])]))] []) := by
 refine W_regionO ?_
 rw [show (regOps 1 Tryz.f13).toList = [regO 1 Tryz.f13 0, regO 1 Tryz.f13 1, regO 1 Tryz.f13 2, regO 1 Tryz.f13 3] by kernel_rfl]
 refine WO_own (.mp 6) 6 (by kernel_rfl) (sound_makeMap (t := 67) (k := 9) (e := 4) (r := none) (id := 6) (by kernel_rfl) (by kernel_rfl) (by intro x h; cases h) (by decide) (by kernel_rfl)) ?_
 refine WO_col (t := 69) (m := 6) (d1 := 7) (d2 := 4) (b := 6) (bt := 32) (by kernel_rfl) (by kernel_rfl) (by kernel_rfl) (by kernel_rfl) (by kernel_rfl) (by kernel_rfl) (by kernel_rfl) (by kernel_rfl) (by kernel_rfl) (by kernel_rfl) (by kernel_rfl) (by kernel_rfl) (by decide) (by decide) (by decide) (Nat.lt_of_lt_of_eq (by decide : 7 < 16) (by kernel_rfl)) (Nat.lt_of_lt_of_eq (by decide : 4 < 16) (by kernel_rfl)) (by decide) (by kernel_rfl) ?_
 exact WO_nil rfl ⟨rfl, WK (by kernel_rfl)⟩
theorem q152_to {s : ByteArray} (hQ : Qs s) : CallTo Tryz.prog 24 [(.ptr 1000 0), (jL [(.agg zl14)]), (jB false)] zb1 [((1002, 55), 0)] (jI 0) zb1 [((1002, 55), 0)] := by
 have ⟨hc, he, hs, hz, hes⟩ := hQ.a
 refine bGs Tryz.func24 ?_
 refine gO (tn 4 z) ?_
 refine uN (sx 37 [(0, (.ptr 1000 0)), (2, (jB false)), (12, (jL [(.agg zl14)])), (13, (jI 1)), (14, (jI 0))] zb1 [((1002, 55), 0)]) 60 ?_
 refine gO (tn 1 (kb tt (ke (el0 (.agg zl14) []) (tn 6 (kc (q150_to hQ) (kb ff (tn 4 (kg (q142_to hQ) (show (0 : Nat) = 0 ∧ True from ⟨rfl, trivial⟩) (tn 3 (kb ff (kn (wrE (0 + 1) 1 (by omega)) (tn 1 z)))))))))))) ?_
 refine uA (sx 37 [(0, (.ptr 1000 0)), (2, (jB false)), (12, (jL [(.agg zl14)])), (13, (jI 1)), (14, (jI 1))] zb1 [((1002, 55), 0)]) ?_
 refine gO (tn 1 (kb ff z)) ?_
 refine uO (tn 1 z) ?_
 exact eNs
theorem q151_to {s : ByteArray} (hQ : Qs s) : CallTo Tryz.prog 13 [(.av (.agg [(.sl []), (.sl [(.agg zl14)])]))] [] [] (.av (.tup [(.sl []), (vI 0)])) [] [] := by
 refine bG Tryz.func13 ?_
 refine gO (tn 3 (kq 1 z)) ?_
 refine NXW (sx 16 [(1, (.ptr 1 0)), (4, (.ptr 4 0))] [(4, (.cells 69 [.nil, (.mp 6)])), (6, (.map ([]) ([]))), (1, (.cells 42 [(jL []), (jL [(.agg zl14)])]))] []) (kq 2 z) (by kernel_rfl) (W_weak (S' := (sx 16 [(1, (.ptr 1 0))] [(1, (.cells 42 [(jL []), (jL [(.agg zl14)])]))] [])) (WK (by kernel_rfl)) (W_code (c' := .region 1 (regOps 1 Tryz.f13) false) (by kernel_rfl) (rg6 hQ))) (by kernel_rfl) ?_
 refine RT [(4, 0, (.own (1302, 55) 0 3 []))] (ac (show ([] : List AV) = [] ∧ 0 < 55 ∧ (0 : Nat) = 0 from ⟨rfl, by decide, rfl⟩) an) (by kernel_rfl) ?_
 refine gO (tn 2 (kg (CallTo_ren (swap_inv (1302, 55) (1002, 55) rfl) (CallTo_ren (swap_inv (6, 0) (1001, 0) rfl) (CallTo_ren (swap_inv (4, 0) (1000, 0) rfl) (q152_to hQ)))) (show (0 : Nat) = 0 ∧ True from ⟨rfl, trivial⟩) (tn 3 (kb ff (tn 4 z))))) ?_
 exact eN
theorem rg7 {s : ByteArray} (hQ : Qs s) : W Tryz.prog (.region 1 (regOps 1 Tryz.f13) false) (fun e S1 => e = .normal ∧ Weak S1 (sx 16 [(1, (.ptr 1 0)), (4, (.ptr 4 0))] [(4, (.cells 69 [.nil, (.mp 6)])), (6, (.map ([]) ([]))), (1, (.cells 42 [(jL []), (jL [(.agg (zl6 s)), (.agg zl16)])]))] [])) (sx 16 [(1, (.ptr 1 0))] [(1, (.cells 42 [(jL []), (jL [(.agg (zl6 s)), (.agg zl16)])]))] []) := by
 refine W_regionO ?_
 rw [show (regOps 1 Tryz.f13).toList = [regO 1 Tryz.f13 0, regO 1 Tryz.f13 1, regO 1 Tryz.f13 2, regO 1 Tryz.f13 3] by kernel_rfl]
 refine WO_own (.mp 6) 6 (by kernel_rfl) (sound_makeMap (t := 67) (k := 9) (e := 4) (r := none) (id := 6) (by kernel_rfl) (by kernel_rfl) (by intro x h; cases h) (by decide) (by kernel_rfl)) ?_
 refine WO_col (t := 69) (m := 6) (d1 := 7) (d2 := 4) (b := 6) (bt := 32) (by kernel_rfl) (by kernel_rfl) (by kernel_rfl) (by kernel_rfl) (by kernel_rfl) (by kernel_rfl) (by kernel_rfl) (by kernel_rfl) (by kernel_rfl) (by kernel_rfl) (by kernel_rfl) (by kernel_rfl) (by decide) (by decide) (by decide) (Nat.lt_of_lt_of_eq (by decide : 7 < 16) (by kernel_rfl)) (Nat.lt_of_lt_of_eq (by decide : 4 < 16) (by kernel_rfl)) (by decide) (by kernel_rfl) ?_
 exact WO_nil rfl ⟨rfl, WK (by kernel_rfl)⟩
theorem q155_to {s : ByteArray} (hQ : Qs s) : CallTo Tryz.prog 33 [(.av (.agg zl16))] [] [] (jB false) [] [] := by
 refine bG Tryz.func33 ?_
 refine gO (tn 6 (kb ff (kb ff (kb ff (kb ff (tn 1 z)))))) ?_
 exact eN
theorem q154_to {s : ByteArray} (hQ : Qs s) : CallTo Tryz.prog 24 [(.ptr 1000 0), (jL [(.agg (zl6 s)), (.agg zl16)]), (jB false)] zb1 [((1002, 55), 0)] (jI 0) (zb2 s) [((1002, 55), 1)] := by
 have ⟨hc, he, hs, hz, hes⟩ := hQ.a
 refine bGs Tryz.func24 ?_
 refine gO (tn 4 z) ?_
 refine uN (sx 37 [(0, (.ptr 1000 0)), (2, (jB false)), (12, (jL [(.agg (zl6 s)), (.agg zl16)])), (13, (jI 2)), (14, (jI 0))] zb1 [((1002, 55), 0)]) 60 ?_
 refine gO (tn 1 (kb tt (ke (el0 (.agg (zl6 s)) [(.agg zl16)]) (tn 6 (kc (q124_to hQ) (kb (show eqs (⟨#[109, 97, 99, 114, 111]⟩) (⟨#[109, 97, 99, 114, 111]⟩) = true from (by kernel_rfl)) (tn 1 (kb ff (tn 2 (kg (q125_to hQ) (show (0 : Nat) = 0 ∧ True from ⟨rfl, trivial⟩) (tn 3 (kb ff (tn 5 (kg (q135_to hQ) (show (1 : Nat) = 1 ∧ True from ⟨rfl, trivial⟩) (tn 3 (kb ff (kn (wrE (0 + 1) 1 (by omega)) (tn 1 z)))))))))))))))))) ?_
 refine uA (sx 37 [(0, (.ptr 1000 0)), (2, (jB false)), (12, (jL [(.agg (zl6 s)), (.agg zl16)])), (13, (jI 2)), (14, (jI 1))] (zb2 s) [((1002, 55), 1)]) ?_
 refine gO (tn 1 (kb tt (ke (el1 (.agg (zl6 s)) (.agg zl16) []) (tn 6 (kc (q155_to hQ) (kb ff (tn 4 (kg (q139_to hQ) (show (1 : Nat) = 1 ∧ True from ⟨rfl, trivial⟩) (tn 3 (kb ff (kn (wrE (1 + 1) 2 (by omega)) (tn 1 z)))))))))))) ?_
 refine uA (sx 37 [(0, (.ptr 1000 0)), (2, (jB false)), (12, (jL [(.agg (zl6 s)), (.agg zl16)])), (13, (jI 2)), (14, (jI 2))] (zb2 s) [((1002, 55), 1)]) ?_
 refine gO (tn 1 (kb ff z)) ?_
 refine uO (tn 1 z) ?_
 exact eNs
theorem q153_to {s : ByteArray} (hQ : Qs s) : CallTo Tryz.prog 13 [(.av (.agg (zl17 s)))] [] [] (.av (.tup [(.sl [(.agg (zl18 s))]), (vI 0)])) [] [] := by
 refine bG Tryz.func13 ?_
 refine gO (tn 3 (kq 1 z)) ?_
 refine NXW (sx 16 [(1, (.ptr 1 0)), (4, (.ptr 4 0))] [(4, (.cells 69 [.nil, (.mp 6)])), (6, (.map ([]) ([]))), (1, (.cells 42 [(jL []), (jL [(.agg (zl6 s)), (.agg zl16)])]))] []) (kq 2 z) (by kernel_rfl) (W_weak (S' := (sx 16 [(1, (.ptr 1 0))] [(1, (.cells 42 [(jL []), (jL [(.agg (zl6 s)), (.agg zl16)])]))] [])) (WK (by kernel_rfl)) (W_code (c' := .region 1 (regOps 1 Tryz.f13) false) (by kernel_rfl) (rg7 hQ))) (by kernel_rfl) ?_
 refine RT [(4, 0, (.own (1302, 55) 0 3 []))] (ac (show ([] : List AV) = [] ∧ 0 < 55 ∧ (0 : Nat) = 0 from ⟨rfl, by decide, rfl⟩) an) (by kernel_rfl) ?_
 refine gO (tn 2 (kg (CallTo_ren (swap_inv (1302, 55) (1002, 55) rfl) (CallTo_ren (swap_inv (6, 0) (1001, 0) rfl) (CallTo_ren (swap_inv (4, 0) (1000, 0) rfl) (q154_to hQ)))) (show (0 : Nat) = 0 ∧ True from ⟨rfl, trivial⟩) (tn 3 (kb ff (tn 4 z))))) ?_
 exact eN
theorem rg8 {s : ByteArray} (hQ : Qs s) : W Tryz.prog (.region 1 (regOps 1 Tryz.f13) false) (fun e S1 => e = .normal ∧ Weak S1 (sx 16 [(1, (.ptr 1 0)), (4, (.ptr 4 0))] [(4, (.cells 69 [.nil, (.mp 6)])), (6, (.map ([]) ([]))), (1, (.cells 42 [(jL []), (jL [(.agg zl16)])]))] [])) (sx 16 [(1, (.ptr 1 0))] [(1, (.cells 42 [(jL []), (jL [(.agg zl16)])]))] []) := by
 refine W_regionO ?_
 rw [show (regOps 1 Tryz.f13).toList = [regO 1 Tryz.f13 0, regO 1 Tryz.f13 1, regO 1 Tryz.f13 2, regO 1 Tryz.f13 3] by kernel_rfl]
 refine WO_own (.mp 6) 6 (by kernel_rfl) (sound_makeMap (t := 67) (k := 9) (e := 4) (r := none) (id := 6) (by kernel_rfl) (by kernel_rfl) (by intro x h; cases h) (by decide) (by kernel_rfl)) ?_
 refine WO_col (t := 69) (m := 6) (d1 := 7) (d2 := 4) (b := 6) (bt := 32) (by kernel_rfl) (by kernel_rfl) (by kernel_rfl) (by kernel_rfl) (by kernel_rfl) (by kernel_rfl) (by kernel_rfl) (by kernel_rfl) (by kernel_rfl) (by kernel_rfl) (by kernel_rfl) (by kernel_rfl) (by decide) (by decide) (by decide) (Nat.lt_of_lt_of_eq (by decide : 7 < 16) (by kernel_rfl)) (Nat.lt_of_lt_of_eq (by decide : 4 < 16) (by kernel_rfl)) (by decide) (by kernel_rfl) ?_
 exact WO_nil rfl ⟨rfl, WK (by kernel_rfl)⟩
theorem q157_to {s : ByteArray} (hQ : Qs s) : CallTo Tryz.prog 24 [(.ptr 1000 0), (jL [(.agg zl16)]), (jB false)] zb1 [((1002, 55), 0)] (jI 0) zb1 [((1002, 55), 0)] := by
 have ⟨hc, he, hs, hz, hes⟩ := hQ.a
 refine bGs Tryz.func24 ?_
 refine gO (tn 4 z) ?_
 refine uN (sx 37 [(0, (.ptr 1000 0)), (2, (jB false)), (12, (jL [(.agg zl16)])), (13, (jI 1)), (14, (jI 0))] zb1 [((1002, 55), 0)]) 60 ?_
 refine gO (tn 1 (kb tt (ke (el0 (.agg zl16) []) (tn 6 (kc (q155_to hQ) (kb ff (tn 4 (kg (q142_to hQ) (show (0 : Nat) = 0 ∧ True from ⟨rfl, trivial⟩) (tn 3 (kb ff (kn (wrE (0 + 1) 1 (by omega)) (tn 1 z)))))))))))) ?_
 refine uA (sx 37 [(0, (.ptr 1000 0)), (2, (jB false)), (12, (jL [(.agg zl16)])), (13, (jI 1)), (14, (jI 1))] zb1 [((1002, 55), 0)]) ?_
 refine gO (tn 1 (kb ff z)) ?_
 refine uO (tn 1 z) ?_
 exact eNs
theorem q156_to {s : ByteArray} (hQ : Qs s) : CallTo Tryz.prog 13 [(.av (.agg [(.sl []), (.sl [(.agg zl16)])]))] [] [] (.av (.tup [(.sl []), (vI 0)])) [] [] := by
 refine bG Tryz.func13 ?_
 refine gO (tn 3 (kq 1 z)) ?_
 refine NXW (sx 16 [(1, (.ptr 1 0)), (4, (.ptr 4 0))] [(4, (.cells 69 [.nil, (.mp 6)])), (6, (.map ([]) ([]))), (1, (.cells 42 [(jL []), (jL [(.agg zl16)])]))] []) (kq 2 z) (by kernel_rfl) (W_weak (S' := (sx 16 [(1, (.ptr 1 0))] [(1, (.cells 42 [(jL []), (jL [(.agg zl16)])]))] [])) (WK (by kernel_rfl)) (W_code (c' := .region 1 (regOps 1 Tryz.f13) false) (by kernel_rfl) (rg8 hQ))) (by kernel_rfl) ?_
 refine RT [(4, 0, (.own (1302, 55) 0 3 []))] (ac (show ([] : List AV) = [] ∧ 0 < 55 ∧ (0 : Nat) = 0 from ⟨rfl, by decide, rfl⟩) an) (by kernel_rfl) ?_
 refine gO (tn 2 (kg (CallTo_ren (swap_inv (1302, 55) (1002, 55) rfl) (CallTo_ren (swap_inv (6, 0) (1001, 0) rfl) (CallTo_ren (swap_inv (4, 0) (1000, 0) rfl) (q157_to hQ)))) (show (0 : Nat) = 0 ∧ True from ⟨rfl, trivial⟩) (tn 3 (kb ff (tn 4 z))))) ?_
 exact eN
end Go.Proofs.YtkgflongbanbgaaGreatDoor
namespace Go.Proofs.YtkgflongbanbgaaGreatDoor
open Go Go.Eng
def zl19 (s : ByteArray) : List AV := [(vI 1), (vS ((⟨#[]⟩) ++ s)), (vS (⟨#[]⟩)), (vS (⟨#[]⟩)), (vS (⟨#[]⟩)), (.sl []), (.sl []), (.sl []), (.sl []), (.sl [])]
def zl20 (s : ByteArray) : List AV := [(vI 1), (vI 0), (vS (⟨#[]⟩)), (vS (⟨#[]⟩)), (vS (⟨#[]⟩)), (vS (⟨#[]⟩)), (vS (⟨#[]⟩)), (.sl []), (.sl []), (.sl [(.agg (zl19 s))]), (.sl [])]
def zl21 (s : ByteArray) : List AV := [(vI 1), (vS (((⟨#[]⟩) ++ s) ++ (⟨#[32, 116, 119, 111]⟩))), (vS (⟨#[]⟩)), (vS (⟨#[]⟩)), (vS (⟨#[]⟩)), (.sl []), (.sl []), (.sl []), (.sl []), (.sl [])]
def zl22 (s : ByteArray) : List AV := [(vI 1), (vI 0), (vS (⟨#[]⟩)), (vS (⟨#[]⟩)), (vS (⟨#[]⟩)), (vS (⟨#[]⟩)), (vS (⟨#[]⟩)), (.sl []), (.sl []), (.sl [(.agg (zl21 s))]), (.sl [])]
def zl23 (s : ByteArray) : List AV := [(vI 1), (vS (((⟨#[]⟩) ++ (⟨#[111, 110, 101, 32]⟩)) ++ s)), (vS (⟨#[]⟩)), (vS (⟨#[]⟩)), (vS (⟨#[]⟩)), (.sl []), (.sl []), (.sl []), (.sl []), (.sl [])]
def zl24 (s : ByteArray) : List AV := [(vI 1), (vI 0), (vS (⟨#[]⟩)), (vS (⟨#[]⟩)), (vS (⟨#[]⟩)), (vS (⟨#[]⟩)), (vS (⟨#[]⟩)), (.sl []), (.sl []), (.sl [(.agg (zl23 s))]), (.sl [])]
def zl25 (s : ByteArray) : List AV := [(.agg zl13), (.agg (zl1 s)), (.agg zl10)]
def zl26 (s : ByteArray) : List AV := [(vI 1), (vS ((((⟨#[]⟩) ++ (⟨#[111, 110, 101, 32]⟩)) ++ s) ++ (⟨#[32, 116, 119, 111]⟩))), (vS (⟨#[]⟩)), (vS (⟨#[]⟩)), (vS (⟨#[]⟩)), (.sl []), (.sl []), (.sl []), (.sl []), (.sl [])]
def zl27 (s : ByteArray) : List AV := [(vI 1), (vI 0), (vS (⟨#[]⟩)), (vS (⟨#[]⟩)), (vS (⟨#[]⟩)), (vS (⟨#[]⟩)), (vS (⟨#[]⟩)), (.sl []), (.sl []), (.sl [(.agg (zl26 s))]), (.sl [])]
def zb3 (s : ByteArray) (o : List DPair) : List (Nat × ABox) := [(20, (.cells 83 [(.mp 16), (.mp 17), (.mp 18), (jI 0)])), (16, (.map ([⟨#[118]⟩]) ([(.agg (zl18 s))]))), (17, (.map ((varsM o).1) ((varsM o).2))), (18, (.map ([]) ([])))]
def zb4 (s : ByteArray) (o : List DPair) : List (Nat × ABox) := [(1000, (.cells 83 [(.mp 1001), (.mp 1002), (.mp 1003), (jI 0)])), (1001, (.map ([⟨#[118]⟩]) ([(.agg (zl18 s))]))), (1002, (.map ((varsM o).1) ((varsM o).2))), (1003, (.map ([]) ([])))]
def zb5 (s : ByteArray) (o : List DPair) : List (Nat × ABox) := [(1000, (.cells 83 [(.mp 1001), (.mp 1002), (.mp 1003), (jI 3)])), (1001, (.map ([⟨#[118]⟩]) ([(.agg (zl18 s))]))), (1002, (.map ((varsM o).1) ((varsM o).2))), (1003, (.map ([]) ([])))]
def zb6 (s : ByteArray) (o : List DPair) : List (Nat × ABox) := [(20, (.cells 83 [(.mp 16), (.mp 17), (.mp 18), (jI 0)])), (16, (.map ([]) ([]))), (17, (.map ((varsM ([DPair.mk (⟨#[118]⟩) s] ++ o)).1) ((varsM ([DPair.mk (⟨#[118]⟩) s] ++ o)).2))), (18, (.map ([]) ([])))]
def zb7 (s : ByteArray) (o : List DPair) : List (Nat × ABox) := [(1000, (.cells 83 [(.mp 1001), (.mp 1002), (.mp 1003), (jI 0)])), (1001, (.map ([]) ([]))), (1002, (.map ((varsM ([DPair.mk (⟨#[118]⟩) s] ++ o)).1) ((varsM ([DPair.mk (⟨#[118]⟩) s] ++ o)).2))), (1003, (.map ([]) ([])))]
def zb8 (s : ByteArray) (o : List DPair) : List (Nat × ABox) := [(1000, (.cells 83 [(.mp 1001), (.mp 1002), (.mp 1003), (jI 2)])), (1001, (.map ([]) ([]))), (1002, (.map ((varsM ([DPair.mk (⟨#[118]⟩) s] ++ o)).1) ((varsM ([DPair.mk (⟨#[118]⟩) s] ++ o)).2))), (1003, (.map ([]) ([])))]
def zb9 (s : ByteArray) (o : List DPair) : List (Nat × ABox) := [(1000, (.cells 83 [(.mp 1001), (.mp 1002), (.mp 1003), (jI 2)])), (1001, (.map ([⟨#[118]⟩]) ([(.agg (zl18 s))]))), (1002, (.map ((varsM o).1) ((varsM o).2))), (1003, (.map ([]) ([])))]
theorem cto {f : FuncId} {a : List SV} {r r2 : SV} (h : CallTo Tryz.prog f a [] [] r [] []) (e : r = r2) : CallTo Tryz.prog f a [] [] r2 [] [] := by rw [← e]; exact h
theorem body_w (s : ByteArray) (hs : s.size ≤ 21) : wl wBlock ([DBlock.mk 1 0 (⟨#[]⟩) (⟨#[]⟩) (⟨#[]⟩) (⟨#[]⟩) (DAttr.mk (⟨#[]⟩) ([]) ([])) ([DInline.mk 1 s (⟨#[]⟩) (⟨#[]⟩) (DAttr.mk (⟨#[]⟩) ([]) ([])) ([]) ([]) ([])]) ([])]) ≤ 1073741824 := by
 simp only [wl, wBlock_eq, wInline_eq, wAttr_eq, wStr, w1, show (ByteArray.mk #[]).size = 0 from rfl]
 omega
theorem nwc {a b : List SV} {x y : List (Nat × ABox)} {r : SV} (h : CallNew Tryz.prog 17 a x r) (e : (a, x) = (b, y)) : CallNew Tryz.prog 17 b y r := by
 obtain ⟨rfl, rfl⟩ := Prod.mk.inj e; exact h
theorem q160_to {s : ByteArray} (hQ : Qs s) : CallTo Tryz.prog 14 [(jL [(.agg (zl2 s))])] [] [] (jL []) [] [] := by
 have ⟨hc, he, hs, hz, hes⟩ := hQ.a
 refine bG Tryz.func14 ?_
 refine gO (tn 5 (kc (cto (r2 := (jL [(.agg (zl1 s))])) (ilsT_to ([DBlock.mk 1 0 (⟨#[]⟩) (⟨#[]⟩) (⟨#[]⟩) (⟨#[]⟩) (DAttr.mk (⟨#[]⟩) ([]) ([])) ([DInline.mk 1 s (⟨#[]⟩) (⟨#[]⟩) (DAttr.mk (⟨#[]⟩) ([]) ([])) ([]) ([]) ([])]) ([])]) (body_w s hs)) (by kernel_rfl)) (tn 2 z))) ?_
 refine uN (sx 35 [(3, .nil), (4, (.mp 7)), (9, (jL [(.agg (zl1 s))])), (10, (jI 1)), (11, (jI 0))] [(7, (.map ([]) ([])))] []) 60 ?_
 refine gO (tn 1 (kb tt (ke (el0 (.agg (zl1 s)) []) (tn 7 (kb ff (kb ff (kb ff (kb ff (kb ff (kb ff (kb ff (kn (wrE (0 + 1) 1 (by omega)) (tn 1 z))))))))))))) ?_
 refine uA (sx 35 [(3, .nil), (4, (.mp 7)), (9, (jL [(.agg (zl1 s))])), (10, (jI 1)), (11, (jI 1))] [(7, (.map ([]) ([])))] []) ?_
 refine gO (tn 1 (kb ff z)) ?_
 refine uO (tn 2 z) ?_
 exact eN
theorem q159_to {s : ByteArray} (hQ : Qs s) : CallTo Tryz.prog 26 [(jL [(.agg (zl18 s))])] [] [] (jL [(.sl [])]) [] [] := by
 have ⟨hc, he, hs, hz, hes⟩ := hQ.a
 refine bG Tryz.func26 ?_
 refine gO (tn 8 z) ?_
 refine uN (sx 106 [(0, (jL [(.agg (zl18 s))])), (3, (.mp 20)), (21, (jL [(.agg (zl18 s))])), (22, (jI 1)), (23, (jI 0))] [(20, (.map ([]) ([])))] []) 60 ?_
 refine gO (tn 1 (kb tt (tn 1 (ke (el0 (.agg (zl18 s)) []) (tn 7 (kl (show mgetT true (vI 0) ([]) ([]) (⟨#[118]⟩) = (.tup [(vI 0), (vB false)]) from (by kernel_rfl)) (tn 7 (kb tt (tn 5 (kn (wrE (0 + 1) 1 (by omega)) (tn 1 z))))))))))) ?_
 refine uA (sx 106 [(0, (jL [(.agg (zl18 s))])), (3, (.mp 20)), (21, (jL [(.agg (zl18 s))])), (22, (jI 1)), (23, (jI 1))] [(20, (.map ([⟨#[118]⟩]) ([(vI 0)])))] []) ?_
 refine gO (tn 1 (kb ff z)) ?_
 refine uO (tn 2 (kp (show 0 ≤ (1 : Int) ∧ ((24 : Nat) : Int) * (1 : Int) ≤ 281474976710656 ∧ (1 : Int) ≤ 9223372036854775807 from (by decide)) (tn 4 z))) ?_
 refine uN (sx 106 [(3, (.mp 20)), (8, (jL [(.sl [])])), (45, (jL [(.agg (zl18 s))])), (46, (jI 1)), (47, (jI 0))] [(20, (.map ([⟨#[118]⟩]) ([(vI 0)])))] []) 60 ?_
 refine gO (tn 1 (kb tt (tn 1 (ke (el0 (.agg (zl18 s)) []) (tn 7 (kl (show mgetT false (vI 0) ([⟨#[118]⟩]) ([(vI 0)]) (⟨#[118]⟩) = (vI 0) from (by kernel_rfl)) (tn 2 (kb ff (tn 9 z))))))))) ?_
 refine uN (sx 106 [(3, (.mp 20)), (8, (jL [(.sl [])])), (9, (jI 0)), (10, (.ptr 10 0)), (11, (.mp 61)), (45, (jL [(.agg (zl18 s))])), (46, (jI 1)), (47, (jI 0)), (63, (jL [])), (64, (jI 0)), (65, (jI 0))] [(61, (.map ([]) ([]))), (10, (.cells 54 [(jS (⟨#[118]⟩)), (jL []), (jL [(.agg (zl2 s))])])), (20, (.map ([⟨#[118]⟩]) ([(vI 0)])))] []) 60 ?_
 refine gO (tn 1 (kb ff z)) ?_
 refine uO (tn 2 (kc (q160_to hQ) (tn 2 z))) ?_
 refine uN (sx 106 [(3, (.mp 20)), (8, (jL [(.sl [])])), (9, (jI 0)), (11, (.mp 61)), (45, (jL [(.agg (zl18 s))])), (46, (jI 1)), (47, (jI 0)), (74, (jL [])), (75, (jI 0)), (76, (jI 0))] [(61, (.map ([]) ([]))), (20, (.map ([⟨#[118]⟩]) ([(vI 0)])))] []) 60 ?_
 refine gO (tn 1 (kb ff z)) ?_
 refine uO (kn (wrE (0 + 1) 1 (by omega)) (tn 1 z)) ?_
 refine uA (sx 106 [(3, (.mp 20)), (8, (jL [(.sl [])])), (45, (jL [(.agg (zl18 s))])), (46, (jI 1)), (47, (jI 1))] [(20, (.map ([⟨#[118]⟩]) ([(vI 0)])))] []) ?_
 refine gO (tn 1 (kb ff z)) ?_
 refine uO (tn 2 z) ?_
 exact eN
theorem q158_to {s : ByteArray} (hQ : Qs s) : CallTo Tryz.prog 15 [(jL [(.agg (zl18 s))])] [] [] (.av (.tup [(.sl []), (vB false)])) [] [] := by
 have ⟨hc, he, hs, hz, hes⟩ := hQ.a
 refine bG Tryz.func15 ?_
 refine gO (tn 3 (kc (q159_to hQ) (tn 4 z))) ?_
 refine uN (sx 84 [(0, (jL [(.agg (zl18 s))])), (4, (jL [(.sl [])])), (15, (jI 1)), (16, (jI 0))] [] []) 60 ?_
 refine gO (tn 1 (kb tt (tn 4 (ke (el0 (.sl []) []) (tn 4 (kb tt (kb tt (kb tt (kb tt (kb tt (kb tt (kn (wrE (0 + 1) 1 (by omega)) (tn 1 z))))))))))))) ?_
 refine uA (sx 84 [(0, (jL [(.agg (zl18 s))])), (4, (jL [(.sl [])])), (15, (jI 1)), (16, (jI 1))] [] []) ?_
 refine gO (tn 1 (kb ff z)) ?_
 refine uO (tn 2 z) ?_
 exact eN
theorem rg9 {s : ByteArray} {o : List DPair} (hQ : Qo s o) : W Tryz.prog (.region 10 (regOps 10 Tryz.f11) false) (fun e S1 => e = .normal ∧ Weak S1 (sx 71 [(2, (.ptr 2 0)), (4, (.ptr 4 0)), (11, (.ptr 20 0))] [(20, (.cells 83 [(.mp 16), (.mp 17), (.mp 18), (jI 0)])), (16, (.map ([⟨#[118]⟩]) ([(.agg (zl18 s))]))), (17, (.map ((varsM o).1) ((varsM o).2))), (18, (.map ([]) ([]))), (4, (.cells 42 [.nil, .nil])), (2, (.cells 42 [(jL []), (jL [(.agg (zl6 s)), (.agg zl7)])]))] [])) (sx 71 [(1, (jL (o.map aPair))), (2, (.ptr 2 0)), (4, (.ptr 4 0)), (7, (jL [(.agg (zl18 s))])), (34, (jB false))] [(4, (.cells 42 [.nil, .nil])), (2, (.cells 42 [(jL []), (jL [(.agg (zl6 s)), (.agg zl7)])]))] []) := by
 have ⟨hc, he, hs, hz, hes, ho⟩ := hQ.a
 refine W_regionO ?_
 rw [show (regOps 10 Tryz.f11).toList = [regO 10 Tryz.f11 0, regO 10 Tryz.f11 1, regO 10 Tryz.f11 2, regO 10 Tryz.f11 3, regO 10 Tryz.f11 4, regO 10 Tryz.f11 5] by kernel_rfl]
 refine WO_pure (jL [(.agg (zl18 s))]) 36 (by kernel_rfl) (by kernel_rfl) ?_
 refine WO_pure (.ptr 2 0) 37 (by kernel_rfl) (by kernel_rfl) ?_
 refine WO_pure (jL []) 38 (by kernel_rfl) (by kernel_rfl) ?_
 refine WO_pure (jL (o.map aPair)) 39 (by kernel_rfl) (by kernel_rfl) ?_
 refine WO_new (nb := (zb3 s o)) (res := .ptr 20 0) (x := .func 17) (args := #[.tmp 36, .tmp 38, .tmp 39]) (tys := #[50, 23, 23]) (f := 17) (fs := []) (cs := []) 40 (by kernel_rfl) (by kernel_rfl) (by kernel_rfl) (nwc (nwx_to ([DMacro.mk (⟨#[118]⟩) ([]) ([DBlock.mk 1 0 (⟨#[]⟩) (⟨#[]⟩) (⟨#[]⟩) (⟨#[]⟩) (DAttr.mk (⟨#[]⟩) ([]) ([])) ([DInline.mk 1 s (⟨#[]⟩) (⟨#[]⟩) (DAttr.mk (⟨#[]⟩) ([]) ([])) ([]) ([]) ([])]) ([])])]) [] o (by show 1 ≤ 1073741824; decide) (by decide) (by first | omega | (rw [List.length_append]; show 1 + _ ≤ _; omega))) (by kernel_rfl)) (by kernel_rfl) (by kernel_rfl) ?_
 refine WO_pure (.ptr 20 0) 11 (by kernel_rfl) (by kernel_rfl) ?_
 exact WO_nil rfl ⟨rfl, WK (by kernel_rfl)⟩
theorem u3_to {s : ByteArray} {o : List DPair} (hQ : Qo s o) : CallTo Tryz.prog 34 [(.ptr 1000 0), (.av (.agg zl7)), (.av (.val (.map none)))] (zb4 s o) [] (.av (.tup [(.agg (zl18 s)), (vB true)])) (zb4 s o) [] := by
 refine bGs Tryz.func34 ?_
 refine gO (tn 7 (kb ff (tn 1 (kb ff (tn 1 (kb ff (tn 1 (kb ff (tn 1 (kb ff (tn 1 (kb ff (tn 1 (kb ff (tn 1 (kb ff (ke (el0 (.agg zl3) []) (kb ff (tn 1 (kb ff (tn 1 (kb ff (tn 1 (kb ff (kb ff (tn 3 (ke (el0 (.agg zl3) []) (tn 2 (kl (show mgetT true (vS (⟨#[]⟩)) ([]) ([]) (⟨#[118]⟩) = (.tup [(vS (⟨#[]⟩)), (vB false)]) from (by kernel_rfl)) (tn 6 (kb ff z))))))))))))))))))))))))))))))) ?_
 have d1 := (el0 (.agg zl3) [])
 have d2 := (show mgetT true (.agg [(vS (⟨#[]⟩)), (.sl []), (.sl [])]) ([⟨#[118]⟩]) ([(.agg (zl18 s))]) (⟨#[118]⟩) = (.tup [(.agg (zl18 s)), (vB true)]) from (by kernel_rfl))
 refine DR3 (tn 6 (ko (eO d1) (kp d1 (tn 2 (ko (lO d2) (tn 1 (kp d2 (tn 11 z)))))))) (by kernel_rfl) (by kernel_rfl) (by kernel_rfl) ?_
 exact eNs
theorem q161_to {s : ByteArray} (hQ : Qs s) : CallTo Tryz.prog 19 [(.av (.agg [(.sl []), (.sl [(.agg (zl2 s))])]))] [] [] (jI 2) [] [] := by
 refine bG Tryz.func19 ?_
 refine gO (tn 4 (kc (q5_to hQ) (tn 1 z))) ?_
 exact eN
theorem u5_to {s : ByteArray} {o : List DPair} (hQ : Qo s o) : CallTo Tryz.prog 55 [(.ptr 1000 0), (jI 2)] (zb4 s o) [] (jI 0) (zb5 s o) [] := by
 have ⟨hc, he, hs, hz, hes, ho⟩ := hQ.a
 refine bGs Tryz.func55 ?_
 refine gO (tn 6 (kn (wrE (1 + 2) 3 (by omega)) (kn (wrE (0 + 3) 3 (by omega)) (tn 8 (kb ff (tn 1 z)))))) ?_
 exact eNs
theorem q162_to {s : ByteArray} (hQ : Qs s) : CallTo Tryz.prog 56 [(.av (.agg zl3)), (.av (.agg (zl18 s)))] [] [] (.av (.rm ([]) ([]))) [] [] := by
 refine BEGf Tryz.func56 (by kernel_rfl) ?_
 refine gO (tn 12 z) ?_
 refine uN (sx 29 [(2, (.ptr 2 0)), (5, (.mp 11)), (13, (jL [])), (14, (jI 0)), (15, (jI 0))] [(11, (.map ([]) ([]))), (2, (.cells 33 [(jI 15), (jS (⟨#[118]⟩)), (jS (⟨#[]⟩)), (jS (⟨#[]⟩)), (jS (⟨#[]⟩)), (jL []), (jL []), (jL []), (jL []), (jL [])]))] []) 60 ?_
 refine gO (tn 1 (kb ff z)) ?_
 refine uO (tn 2 z) ?_
 exact ENf (ks := []) (vs := []) 11 (by kernel_rfl) (by kernel_rfl) (by kernel_rfl)
theorem u7_to {s : ByteArray} {o : List DPair} (hQ : Qo s o) : CallTo Tryz.prog 34 [(.ptr 1000 0), (.av (.agg (zl2 s))), (.av (.rm ([]) ([])))] (zb5 s o) [] (.av (.tup [(.agg [(vS (⟨#[]⟩)), (.sl []), (.sl [])]), (vB false)])) (zb5 s o) [] := by
 refine bGs Tryz.func34 ?_
 refine gO (tn 7 (kb ff (tn 1 (kb ff (tn 1 (kb ff (tn 1 (kb ff (tn 1 (kb ff (tn 1 (kb ff (tn 1 (kb ff (tn 1 (kb ff (ke (el0 (.agg (zl1 s)) []) (kb ff (tn 1 (kb ff (tn 1 (kb ff (tn 1 (kb ff (kb tt (tn 3 z)))))))))))))))))))))))))) ?_
 exact eNs
theorem q164_to {s : ByteArray} (hQ : Qs s) : CallTo Tryz.prog 36 [(jL [])] [] [] (jB false) [] [] := by
 refine bG Tryz.func36 ?_
 refine gO (tn 4 z) ?_
 refine uN (sx 20 [(5, (jL [])), (6, (jI 0)), (7, (jI 0))] [] []) 60 ?_
 refine gO (tn 1 (kb ff z)) ?_
 refine uO (tn 1 z) ?_
 exact eN
theorem q163_to {s : ByteArray} (hQ : Qs s) : CallTo Tryz.prog 36 [(jL [(.agg (zl1 s))])] [] [] (jB false) [] [] := by
 have ⟨hc, he, hs, hz, hes⟩ := hQ.a
 refine bG Tryz.func36 ?_
 refine gO (tn 4 z) ?_
 refine uN (sx 20 [(5, (jL [(.agg (zl1 s))])), (6, (jI 1)), (7, (jI 0))] [] []) 60 ?_
 refine gO (tn 1 (kb tt (ke (el0 (.agg (zl1 s)) []) (tn 7 (kb ff (tn 1 (kb ff (tn 1 (kb ff (kc (q164_to hQ) (kb ff (kb ff (kn (wrE (0 + 1) 1 (by omega)) (tn 1 z)))))))))))))) ?_
 refine uA (sx 20 [(5, (jL [(.agg (zl1 s))])), (6, (jI 1)), (7, (jI 1))] [] []) ?_
 refine gO (tn 1 (kb ff z)) ?_
 refine uO (tn 1 z) ?_
 exact eN
theorem u9_to {s : ByteArray} {o : List DPair} (hQ : Qo s o) : CallTo Tryz.prog 37 [(.ptr 1000 0), (jL []), (.av (.rm ([]) ([])))] (zb5 s o) [] (.av (.tup [(.sl []), (vI 0)])) (zb5 s o) [] := by
 refine bGs Tryz.func37 ?_
 refine gO (tn 6 z) ?_
 refine uN (sx 58 [(0, (.ptr 1000 0)), (2, (.av (.rm ([]) ([])))), (8, .nil), (15, (jL [])), (16, (jI 0)), (17, (jI 0))] (zb5 s o) []) 60 ?_
 refine gO (tn 1 (kb ff z)) ?_
 refine uO (tn 3 z) ?_
 exact eNs
theorem u8_to {s : ByteArray} {o : List DPair} (hQ : Qo s o) : CallTo Tryz.prog 37 [(.ptr 1000 0), (jL [(.agg (zl1 s))]), (.av (.rm ([]) ([])))] (zb5 s o) [] (.av (.tup [(.sl [(.agg (zl1 s))]), (vI 0)])) (zb5 s o) [] := by
 have ⟨hc, he, hs, hz, hes, ho⟩ := hQ.a
 refine bGs Tryz.func37 ?_
 refine gO (tn 6 z) ?_
 refine uN (sx 58 [(0, (.ptr 1000 0)), (2, (.av (.rm ([]) ([])))), (8, .nil), (15, (jL [(.agg (zl1 s))])), (16, (jI 1)), (17, (jI 0))] (zb5 s o) []) 60 ?_
 refine gO (tn 1 (kb tt (ke (el0 (.agg (zl1 s)) []) (tn 6 (kb ff (tn 4 (kg (u9_to hQ) trivial (tn 7 (kb ff (tn 1 (kc (q132_to hQ.1) (tn 6 (kp (show Uni 10 [(.agg (zl1 s))] from (uni_one rfl rfl)) (kp (show Uni 10 [(.agg (zl1 s))] ∧ ([(.agg (zl1 s))] : List AV).length * 192 ≤ 140737488355328 from ⟨uni_one rfl rfl, by first | omega | (simp; done) | (simp; omega)⟩) (kw (show ([(.agg (zl1 s))] : List AV) = _ from rfl) (tn 1 (kn (wrE (0 + 1) 1 (by omega)) (tn 1 z)))))))))))))))))) ?_
 refine uA (sx 58 [(0, (.ptr 1000 0)), (2, (.av (.rm ([]) ([])))), (8, (.own (55, 34) 1 10 [(.agg (zl1 s))])), (15, (jL [(.agg (zl1 s))])), (16, (jI 1)), (17, (jI 1))] (zb5 s o) [((55, 34), 1)]) ?_
 refine gO (tn 1 (kb ff z)) ?_
 refine uO (tn 3 z) ?_
 exact eNs
theorem u10_to {s : ByteArray} {o : List DPair} (hQ : Qo s o) : CallTo Tryz.prog 18 [(.ptr 1000 0), (jL []), (.av (.rm ([]) ([])))] (zb5 s o) [] (.av (.tup [(.sl []), (vI 0)])) (zb5 s o) [] := by
 refine bGs Tryz.func18 ?_
 refine gO (tn 6 z) ?_
 refine uN (sx 105 [(0, (.ptr 1000 0)), (2, (.av (.rm ([]) ([])))), (8, .nil), (19, (jL [])), (20, (jI 0)), (21, (jI 0))] (zb5 s o) []) 60 ?_
 refine gO (tn 1 (kb ff z)) ?_
 refine uO (tn 3 z) ?_
 exact eNs
theorem u6_to {s : ByteArray} {o : List DPair} (hQ : Qo s o) : CallTo Tryz.prog 18 [(.ptr 1000 0), (jL [(.agg (zl2 s))]), (.av (.rm ([]) ([])))] (zb5 s o) [] (.av (.tup [(.sl [(.agg (zl2 s))]), (vI 0)])) (zb5 s o) [] := by
 have ⟨hc, he, hs, hz, hes, ho⟩ := hQ.a
 refine bGs Tryz.func18 ?_
 refine gO (tn 6 z) ?_
 refine uN (sx 105 [(0, (.ptr 1000 0)), (2, (.av (.rm ([]) ([])))), (8, .nil), (19, (jL [(.agg (zl2 s))])), (20, (jI 1)), (21, (jI 0))] (zb5 s o) []) 60 ?_
 refine gO (tn 1 (kb tt (ke (el0 (.agg (zl2 s)) []) (tn 4 (kc (q136_to hQ.1) (kb ff (tn 3 (kg (u7_to hQ) trivial (tn 7 (kb ff (tn 2 (kc (q163_to hQ.1) (tn 5 (kg (u8_to hQ) trivial (tn 7 (kb ff (tn 4 (kg (u10_to hQ) trivial (tn 7 (kb ff (tn 1 (kb ff (tn 2 (kc (q130_to hQ.1) (tn 11 (kb tt (kb tt (kb tt (kb tt (tn 1 (kb tt (kb tt (kb tt (kb tt (kb tt (tn 2 (kp (show Uni 11 [(.agg (zl2 s))] from (uni_one rfl rfl)) (kp (show Uni 11 [(.agg (zl2 s))] ∧ ([(.agg (zl2 s))] : List AV).length * 192 ≤ 140737488355328 from ⟨uni_one rfl rfl, by first | omega | (simp; done) | (simp; omega)⟩) (kw (show ([(.agg (zl2 s))] : List AV) = _ from rfl) (tn 1 (kn (wrE (0 + 1) 1 (by omega)) (tn 1 z)))))))))))))))))))))))))))))))))))))))))) ?_
 refine uA (sx 105 [(0, (.ptr 1000 0)), (2, (.av (.rm ([]) ([])))), (8, (.own (102, 39) 1 11 [(.agg (zl2 s))])), (19, (jL [(.agg (zl2 s))])), (20, (jI 1)), (21, (jI 1))] (zb5 s o) [((102, 39), 1)]) ?_
 refine gO (tn 1 (kb ff z)) ?_
 refine uO (tn 3 z) ?_
 exact eNs
theorem u4_to {s : ByteArray} {o : List DPair} (hQ : Qo s o) : CallTo Tryz.prog 35 [(.ptr 1000 0), (.av (.agg zl3)), (.av (.agg (zl18 s)))] (zb4 s o) [] (.av (.tup [(.sl [(.agg (zl2 s))]), (vI 0)])) (zb5 s o) [] := by
 refine bGs Tryz.func35 ?_
 refine gO (tn 11 (kb ff (tn 4 (kc (q161_to hQ.1) (kg (u5_to hQ) trivial (tn 3 (kb ff z))))))) ?_
 have d1 := (q162_to hQ.1)
 have d2 := (u6_to hQ)
 refine DR3 (tn 5 (ko (cO d1) (kp d1 (tn 1 (ko (cO d2) (kp d2 (tn 5 z))))))) (by kernel_rfl) (by kernel_rfl) (by kernel_rfl) ?_
 exact eNs
theorem u2_to {s : ByteArray} {o : List DPair} (hQ : Qo s o) : CallTo Tryz.prog 18 [(.ptr 1000 0), (jL [(.agg (zl6 s)), (.agg zl7)]), (.av (.val (.map none)))] (zb4 s o) [] (.av (.tup [(.sl [(.agg (zl2 s))]), (vI 0)])) (zb5 s o) [] := by
 have ⟨hc, he, hs, hz, hes, ho⟩ := hQ.a
 refine bGs Tryz.func18 ?_
 refine gO (tn 6 z) ?_
 refine uN (sx 105 [(0, (.ptr 1000 0)), (2, (.av (.val (.map none)))), (8, .nil), (19, (jL [(.agg (zl6 s)), (.agg zl7)])), (20, (jI 2)), (21, (jI 0))] (zb4 s o) []) 60 ?_
 refine gO (tn 1 (kb tt (ke (el0 (.agg (zl6 s)) [(.agg zl7)]) (tn 4 (kc (q124_to hQ.1) (kb (show eqs (⟨#[109, 97, 99, 114, 111]⟩) (⟨#[109, 97, 99, 114, 111]⟩) = true from (by kernel_rfl)) (kn (wrE (0 + 1) 1 (by omega)) (tn 1 z)))))))) ?_
 refine uA (sx 105 [(0, (.ptr 1000 0)), (2, (.av (.val (.map none)))), (8, .nil), (19, (jL [(.agg (zl6 s)), (.agg zl7)])), (20, (jI 2)), (21, (jI 1))] (zb4 s o) []) ?_
 refine gO (tn 1 (kb tt (ke (el1 (.agg (zl6 s)) (.agg zl7) []) (tn 4 (kc (q138_to hQ.1) (kb ff (tn 3 (kg (u3_to hQ) trivial (tn 7 (kb tt z)))))))))) ?_
 have d1 := (el0 (.agg zl3) [])
 have d2 := (u4_to hQ)
 refine DR3 (tn 3 (ko (eO d1) (kp d1 (tn 2 (ko (cO d2) (kp d2 (tn 8 (kb ff (tn 2 (kp (show Uni 11 [(.agg (zl2 s))] ∧ ([(.agg (zl2 s))] : List AV).length * 192 ≤ 140737488355328 from ⟨uni_one rfl rfl, by first | omega | (simp; done) | (simp; omega)⟩) (kw (show ([(.agg (zl2 s))] : List AV) = _ from rfl) (tn 1 (kn (wrE (1 + 1) 2 (by omega)) (tn 1 z)))))))))))))) (by kernel_rfl) (by kernel_rfl) (by kernel_rfl) ?_
 refine uA (sx 105 [(0, (.ptr 1000 0)), (2, (.av (.val (.map none)))), (8, (.own (50, 39) 1 11 [(.agg (zl2 s))])), (13, (jL [(.agg (zl2 s))])), (14, (jI 0)), (19, (jL [(.agg (zl6 s)), (.agg zl7)])), (20, (jI 2)), (21, (jI 2)), (35, (.av (.tup [(.sl [(.agg (zl2 s))]), (vI 0)]))), (36, (.ptr 1000 0)), (37, (.ptr 10 9)), (38, (jL [(.agg zl3)])), (39, (.av (.ro zl3 0))), (40, (.av (.agg zl3))), (41, (.av (.agg (zl18 s)))), (42, (.av (.tup [(.sl [(.agg (zl2 s))]), (vI 0)]))), (43, (jL [(.agg (zl2 s))])), (44, (jI 0))] [(10, (.cells 38 [(jI 1), (jI 0), (jS (⟨#[]⟩)), (jS (⟨#[]⟩)), (jS (⟨#[]⟩)), (jS (⟨#[]⟩)), (jS (⟨#[]⟩)), (jL []), (jL []), (jL [(.agg zl3)]), (jL [])])), (1000, (.cells 83 [(.mp 1001), (.mp 1002), (.mp 1003), (jI 3)])), (1001, (.map ([⟨#[118]⟩]) ([(.agg (zl18 s))]))), (1002, (.map ((varsM o).1) ((varsM o).2))), (1003, (.map ([]) ([])))] [((50, 39), 1)]) ?_
 refine gO (tn 1 (kb ff z)) ?_
 refine uO (tn 3 z) ?_
 exact eNs
theorem q166_to {s : ByteArray} (hQ : Qs s) : CallTo Tryz.prog 20 [(jL [])] [] [] (jI 0) [] [] := by
 refine bG Tryz.func20 ?_
 refine gO (tn 5 z) ?_
 refine uN (sx 21 [(0, (jL [])), (3, (jI 0)), (6, (jI 0)), (7, (jI 0))] [] []) 60 ?_
 refine gO (tn 1 (kb ff z)) ?_
 refine uO (tn 2 z) ?_
 exact eN
theorem q165_to {s : ByteArray} (hQ : Qs s) : CallTo Tryz.prog 20 [(jL [(.agg (zl2 s))])] [] [] (jI 1) [] [] := by
 have ⟨hc, he, hs, hz, hes⟩ := hQ.a
 refine bG Tryz.func20 ?_
 refine gO (tn 5 z) ?_
 refine uN (sx 21 [(0, (jL [(.agg (zl2 s))])), (3, (jI 0)), (6, (jI 1)), (7, (jI 0))] [] []) 60 ?_
 refine gO (tn 1 (kb tt (tn 5 (ke (el0 (.agg (zl2 s)) []) (tn 2 (kc (q166_to hQ) (kn (wrE (1 + 0) 1 (by omega)) (tn 2 (kn (wrE (0 + 1) 1 (by omega)) (tn 1 z)))))))))) ?_
 refine uA (sx 21 [(0, (jL [(.agg (zl2 s))])), (3, (jI 1)), (6, (jI 1)), (7, (jI 1))] [] []) ?_
 refine gO (tn 1 (kb ff z)) ?_
 refine uO (tn 2 z) ?_
 exact eN
theorem q169_to {s : ByteArray} (hQ : Qs s) : CallTo Tryz.prog 41 [(jL [])] [] [] (jI 0) [] [] := by
 refine bG Tryz.func41 ?_
 refine gO (tn 5 z) ?_
 refine uN (sx 20 [(3, (jI 0)), (6, (jL [])), (7, (jI 0)), (8, (jI 0))] [] []) 60 ?_
 refine gO (tn 1 (kb ff z)) ?_
 refine uO (tn 2 z) ?_
 exact eN
theorem q168_to {s : ByteArray} (hQ : Qs s) : CallTo Tryz.prog 41 [(jL [(.agg (zl1 s))])] [] [] (jI 1) [] [] := by
 have ⟨hc, he, hs, hz, hes⟩ := hQ.a
 refine bG Tryz.func41 ?_
 refine gO (tn 5 z) ?_
 refine uN (sx 20 [(3, (jI 0)), (6, (jL [(.agg (zl1 s))])), (7, (jI 1)), (8, (jI 0))] [] []) 60 ?_
 refine gO (tn 1 (kb tt (ke (el0 (.agg (zl1 s)) []) (tn 6 (kc (q169_to hQ) (kn (wrE (1 + 0) 1 (by omega)) (tn 2 (kn (wrE (0 + 1) 1 (by omega)) (tn 1 z))))))))) ?_
 refine uA (sx 20 [(3, (jI 1)), (6, (jL [(.agg (zl1 s))])), (7, (jI 1)), (8, (jI 1))] [] []) ?_
 refine gO (tn 1 (kb ff z)) ?_
 refine uO (tn 2 z) ?_
 exact eN
theorem q170_to {s : ByteArray} (hQ : Qs s) : CallTo Tryz.prog 21 [(jL [])] [] [] (jI 0) [] [] := by
 refine bG Tryz.func21 ?_
 refine gO (tn 5 z) ?_
 refine uN (sx 22 [(3, (jI 0)), (6, (jL [])), (7, (jI 0)), (8, (jI 0))] [] []) 60 ?_
 refine gO (tn 1 (kb ff z)) ?_
 refine uO (tn 2 z) ?_
 exact eN
theorem q167_to {s : ByteArray} (hQ : Qs s) : CallTo Tryz.prog 21 [(jL [(.agg (zl2 s))])] [] [] (jI 1) [] [] := by
 have ⟨hc, he, hs, hz, hes⟩ := hQ.a
 refine bG Tryz.func21 ?_
 refine gO (tn 5 z) ?_
 refine uN (sx 22 [(3, (jI 0)), (6, (jL [(.agg (zl2 s))])), (7, (jI 1)), (8, (jI 0))] [] []) 60 ?_
 refine gO (tn 1 (kb tt (ke (el0 (.agg (zl2 s)) []) (tn 3 z)))) ?_
 have d1 := (q168_to hQ)
 have d2 := (q170_to hQ)
 refine DR3 (tn 3 (ko (cO d1) (kp d1 (tn 3 (ko (cO d2) (kp d2 (tn 3 (kn (wrE (0 + 1) 1 (by omega)) (tn 1 z))))))))) (by kernel_rfl) (by kernel_rfl) (by kernel_rfl) ?_
 refine uA (sx 22 [(3, (jI 1)), (6, (jL [(.agg (zl2 s))])), (7, (jI 1)), (8, (jI 1)), (12, (jI 0)), (13, (.ptr 5 9)), (14, (jL [(.agg (zl1 s))])), (15, (jI 1)), (16, (.ptr 5 10)), (17, (jL [])), (18, (jI 0)), (19, (jI 1))] [(5, (.cells 38 [(jI 1), (jI 0), (jS (⟨#[]⟩)), (jS (⟨#[]⟩)), (jS (⟨#[]⟩)), (jS (⟨#[]⟩)), (jS (⟨#[]⟩)), (jL []), (jL []), (jL [(.agg (zl1 s))]), (jL [])]))] []) ?_
 refine gO (tn 1 (kb ff z)) ?_
 refine uO (tn 2 z) ?_
 exact eN
theorem u1_to {s : ByteArray} {o : List DPair} (hQ : Qo s o) : CallTo Tryz.prog 11 [(.av (.agg (zl8 s))), (jL (o.map aPair))] [] [] (.av (.tup [(.agg [(.sl []), (.sl [(.agg (zl2 s))])]), (vI 0)])) [] [] := by
 have ⟨hc, he, hs, hz, hes, ho⟩ := hQ.a
 refine bG Tryz.func11 ?_
 refine gO (tn 4 (kc (q1_to hQ.1) (tn 3 (kb ff (tn 1 (kc (q122_to hQ.1) (tn 7 (kb ff (tn 1 (kc (q158_to hQ.1) (tn 6 (kb ff (kq 10 z))))))))))))) ?_
 refine NXW (sx 71 [(2, (.ptr 2 0)), (4, (.ptr 4 0)), (11, (.ptr 20 0))] [(20, (.cells 83 [(.mp 16), (.mp 17), (.mp 18), (jI 0)])), (16, (.map ([⟨#[118]⟩]) ([(.agg (zl18 s))]))), (17, (.map ((varsM o).1) ((varsM o).2))), (18, (.map ([]) ([]))), (4, (.cells 42 [.nil, .nil])), (2, (.cells 42 [(jL []), (jL [(.agg (zl6 s)), (.agg zl7)])]))] []) (tn 3 (kg (CallTo_ren (swap_inv (18, 0) (1003, 0) rfl) (CallTo_ren (swap_inv (17, 0) (1002, 0) rfl) (CallTo_ren (swap_inv (16, 0) (1001, 0) rfl) (CallTo_ren (swap_inv (20, 0) (1000, 0) rfl) (u2_to hQ))))) trivial (tn 7 (kb ff (tn 2 (kp (show Uni 2 [] ∧ ([] : List AV).length * 32 ≤ 140737488355328 from ⟨by simp [Uni, AV.cells, AV.isTup], by first | omega | (simp; done) | (simp; omega)⟩) (kw (show ([] : List AV) = _ from rfl) (tn 5 (kc (q161_to hQ.1) (tn 1 (kb ff (tn 1 (kc (q165_to hQ.1) (tn 2 (kb ff (tn 1 (kb ff (kc (q167_to hQ.1) (kb ff (tn 1 (kb ff (kb ff (tn 3 z))))))))))))))))))))))) (by kernel_rfl) (W_weak (S' := (sx 71 [(1, (jL (o.map aPair))), (2, (.ptr 2 0)), (4, (.ptr 4 0)), (7, (jL [(.agg (zl18 s))])), (34, (jB false))] [(4, (.cells 42 [.nil, .nil])), (2, (.cells 42 [(jL []), (jL [(.agg (zl6 s)), (.agg zl7)])]))] [])) (WK (by kernel_rfl)) (W_code (c' := .region 10 (regOps 10 Tryz.f11) false) (by kernel_rfl) (rg9 hQ))) (by kernel_rfl) ?_
 exact eN
theorem q172_to {s : ByteArray} (hQ : Qs s) : CallTo Tryz.prog 26 [(jL [])] [] [] (jL []) [] [] := by
 refine bG Tryz.func26 ?_
 refine gO (tn 8 z) ?_
 refine uN (sx 106 [(0, (jL [])), (3, (.mp 20)), (21, (jL [])), (22, (jI 0)), (23, (jI 0))] [(20, (.map ([]) ([])))] []) 60 ?_
 refine gO (tn 1 (kb ff z)) ?_
 refine uO (tn 2 (kp (show 0 ≤ (0 : Int) ∧ ((24 : Nat) : Int) * (0 : Int) ≤ 281474976710656 ∧ (0 : Int) ≤ 9223372036854775807 from (by decide)) (tn 4 z))) ?_
 refine uN (sx 106 [(3, (.mp 20)), (8, (jL [])), (45, (jL [])), (46, (jI 0)), (47, (jI 0))] [(20, (.map ([]) ([])))] []) 60 ?_
 refine gO (tn 1 (kb ff z)) ?_
 refine uO (tn 2 z) ?_
 exact eN
theorem q171_to {s : ByteArray} (hQ : Qs s) : CallTo Tryz.prog 15 [(jL [])] [] [] (.av (.tup [(.sl []), (vB false)])) [] [] := by
 refine bG Tryz.func15 ?_
 refine gO (tn 3 (kc (q172_to hQ) (tn 4 z))) ?_
 refine uN (sx 84 [(0, (jL [])), (4, (jL [])), (15, (jI 0)), (16, (jI 0))] [] []) 60 ?_
 refine gO (tn 1 (kb ff z)) ?_
 refine uO (tn 2 z) ?_
 exact eN
theorem rg10 {s : ByteArray} {o : List DPair} (hQ : Qo s o) : W Tryz.prog (.region 10 (regOps 10 Tryz.f11) false) (fun e S1 => e = .normal ∧ Weak S1 (sx 71 [(2, (.ptr 2 0)), (4, (.ptr 4 0)), (11, (.ptr 20 0))] [(20, (.cells 83 [(.mp 16), (.mp 17), (.mp 18), (jI 0)])), (16, (.map ([]) ([]))), (17, (.map ((varsM ([DPair.mk (⟨#[118]⟩) s] ++ o)).1) ((varsM ([DPair.mk (⟨#[118]⟩) s] ++ o)).2))), (18, (.map ([]) ([]))), (4, (.cells 42 [.nil, .nil])), (2, (.cells 42 [(jL []), (jL [(.agg zl7)])]))] [])) (sx 71 [(1, (jL (([DPair.mk (⟨#[118]⟩) s] ++ o).map aPair))), (2, (.ptr 2 0)), (4, (.ptr 4 0)), (7, (jL [])), (34, (jB false))] [(4, (.cells 42 [.nil, .nil])), (2, (.cells 42 [(jL []), (jL [(.agg zl7)])]))] []) := by
 have ⟨hc, he, hs, hz, hes, ho⟩ := hQ.a
 refine W_regionO ?_
 rw [show (regOps 10 Tryz.f11).toList = [regO 10 Tryz.f11 0, regO 10 Tryz.f11 1, regO 10 Tryz.f11 2, regO 10 Tryz.f11 3, regO 10 Tryz.f11 4, regO 10 Tryz.f11 5] by kernel_rfl]
 refine WO_pure (jL []) 36 (by kernel_rfl) (by kernel_rfl) ?_
 refine WO_pure (.ptr 2 0) 37 (by kernel_rfl) (by kernel_rfl) ?_
 refine WO_pure (jL []) 38 (by kernel_rfl) (by kernel_rfl) ?_
 refine WO_pure (jL (([DPair.mk (⟨#[118]⟩) s] ++ o).map aPair)) 39 (by kernel_rfl) (by kernel_rfl) ?_
 refine WO_new (nb := (zb6 s o)) (res := .ptr 20 0) (x := .func 17) (args := #[.tmp 36, .tmp 38, .tmp 39]) (tys := #[50, 23, 23]) (f := 17) (fs := []) (cs := []) 40 (by kernel_rfl) (by kernel_rfl) (by kernel_rfl) (nwc (nwx_to ([]) [] ([DPair.mk (⟨#[118]⟩) s] ++ o) (by show 0 ≤ 1073741824; decide) (by decide) (by first | omega | (rw [List.length_append]; show 1 + _ ≤ _; omega))) (by kernel_rfl)) (by kernel_rfl) (by kernel_rfl) ?_
 refine WO_pure (.ptr 20 0) 11 (by kernel_rfl) (by kernel_rfl) ?_
 exact WO_nil rfl ⟨rfl, WK (by kernel_rfl)⟩
theorem u13_to {s : ByteArray} {o : List DPair} (hQ : Qo s o) : CallTo Tryz.prog 34 [(.ptr 1000 0), (.av (.agg zl7)), (.av (.val (.map none)))] (zb7 s o) [] (.av (.tup [(.agg [(vS (⟨#[]⟩)), (.sl []), (.sl [])]), (vB false)])) (zb7 s o) [] := by
 refine bGs Tryz.func34 ?_
 refine gO (tn 7 (kb ff (tn 1 (kb ff (tn 1 (kb ff (tn 1 (kb ff (tn 1 (kb ff (tn 1 (kb ff (tn 1 (kb ff (tn 1 (kb ff (ke (el0 (.agg zl3) []) (kb ff (tn 1 (kb ff (tn 1 (kb ff (tn 1 (kb ff (kb ff (tn 3 (ke (el0 (.agg zl3) []) (tn 2 (kl (show mgetT true (vS (⟨#[]⟩)) ([]) ([]) (⟨#[118]⟩) = (.tup [(vS (⟨#[]⟩)), (vB false)]) from (by kernel_rfl)) (tn 6 (kb ff z))))))))))))))))))))))))))))))) ?_
 have d1 := (el0 (.agg zl3) [])
 have d2 := (show mgetT true (.agg [(vS (⟨#[]⟩)), (.sl []), (.sl [])]) ([]) ([]) (⟨#[118]⟩) = (.tup [(.agg [(vS (⟨#[]⟩)), (.sl []), (.sl [])]), (vB false)]) from (by kernel_rfl))
 refine DR3 (tn 6 (ko (eO d1) (kp d1 (tn 2 (ko (lO d2) (tn 1 (kp d2 (tn 11 z)))))))) (by kernel_rfl) (by kernel_rfl) (by kernel_rfl) ?_
 exact eNs
theorem q173_to {s : ByteArray} (hQ : Qs s) : CallTo Tryz.prog 36 [(jL [(.agg zl3)])] [] [] (jB true) [] [] := by
 refine bG Tryz.func36 ?_
 refine gO (tn 4 z) ?_
 refine uN (sx 20 [(5, (jL [(.agg zl3)])), (6, (jI 1)), (7, (jI 0))] [] []) 60 ?_
 refine gO (tn 1 (kb tt (ke (el0 (.agg zl3) []) (tn 7 (kb tt (kb tt (kb tt (kb tt (kb tt (tn 1 z)))))))))) ?_
 refine uO z ?_
 exact eN
theorem u16_to {s : ByteArray} {o : List DPair} (hQ : Qo s o) : CallTo Tryz.prog 55 [(.ptr 1000 0), (jI 1)] (zb7 s o) [] (jI 0) (zb8 s o) [] := by
 have ⟨hc, he, hs, hz, hes, ho⟩ := hQ.a
 refine bGs Tryz.func55 ?_
 refine gO (tn 6 (kn (wrE (1 + 1) 2 (by omega)) (kn (wrE (0 + 2) 2 (by omega)) (tn 8 (kb ff (tn 1 z)))))) ?_
 exact eNs
theorem u15_to {s : ByteArray} {o : List DPair} (hQ : Qo s o) : CallTo Tryz.prog 57 [(.ptr 1000 0), (.av (.agg zl3)), (.av (.val (.map none)))] (zb7 s o) [] (.av (.tup [(.sl [(.agg (zl1 s))]), (vI 0)])) (zb8 s o) [] := by
 have ⟨hc, he, hs, hz, hes, ho⟩ := hQ.a
 refine bGs Tryz.func57 ?_
 refine gO (tn 6 (kl (show mgetT true (vS (⟨#[]⟩)) ([]) ([]) (⟨#[118]⟩) = (.tup [(vS (⟨#[]⟩)), (vB false)]) from (by kernel_rfl)) (tn 6 (kb ff z)))) ?_
 have d1 := (show mgetT true (.agg [(vS (⟨#[]⟩)), (.sl []), (.sl [])]) ([]) ([]) (⟨#[118]⟩) = (.tup [(.agg [(vS (⟨#[]⟩)), (.sl []), (.sl [])]), (vB false)]) from (by kernel_rfl))
 refine DR3 (tn 6 (ko (lO d1) (tn 1 (kp d1 (tn 8 (kb ff z)))))) (by kernel_rfl) (by kernel_rfl) (by kernel_rfl) ?_
 have d2 := (show mgetT true (vS (⟨#[]⟩)) ((varsM ([DPair.mk (⟨#[118]⟩) s] ++ o)).1) ((varsM ([DPair.mk (⟨#[118]⟩) s] ++ o)).2) (⟨#[118]⟩) = (.tup [(vS s), (vB true)]) from (varsM_first (⟨#[118]⟩) s o (vS ⟨#[]⟩)))
 refine DR3 (tn 6 (ko (lO d2) (tn 1 (kp d2 (tn 7 (kb ff (tn 4 (kb ff (tn 1 (kc (clnM_t s hs hc) (tn 1 (kb ff (tn 3 (kb (show (!eqs s (⟨#[]⟩)) = true from (by simp [he])) (tn 2 (kp (show Uni 10 [(.agg (zl1 s))] from (uni_one rfl rfl)) (tn 4 (kg (u16_to hQ) trivial (tn 3 (kb ff (tn 3 z))))))))))))))))))))) (by kernel_rfl) (by kernel_rfl) (by kernel_rfl) ?_
 exact eNs
theorem u14_to {s : ByteArray} {o : List DPair} (hQ : Qo s o) : CallTo Tryz.prog 37 [(.ptr 1000 0), (jL [(.agg zl3)]), (.av (.val (.map none)))] (zb7 s o) [] (.av (.tup [(.sl [(.agg (zl1 s))]), (vI 0)])) (zb8 s o) [] := by
 have ⟨hc, he, hs, hz, hes, ho⟩ := hQ.a
 refine bGs Tryz.func37 ?_
 refine gO (tn 6 z) ?_
 refine uN (sx 58 [(0, (.ptr 1000 0)), (2, (.av (.val (.map none)))), (8, .nil), (15, (jL [(.agg zl3)])), (16, (jI 1)), (17, (jI 0))] (zb7 s o) []) 60 ?_
 refine gO (tn 1 (kb tt (ke (el0 (.agg zl3) []) (tn 6 (kb tt (tn 3 (kg (u15_to hQ) trivial (tn 7 (kb ff (tn 2 (kp (show Uni 10 [(.agg (zl1 s))] ∧ ([(.agg (zl1 s))] : List AV).length * 192 ≤ 140737488355328 from ⟨uni_one rfl rfl, by first | omega | (simp; done) | (simp; omega)⟩) (kw (show ([(.agg (zl1 s))] : List AV) = _ from rfl) (tn 1 (kn (wrE (0 + 1) 1 (by omega)) (tn 1 z))))))))))))))) ?_
 refine uA (sx 58 [(0, (.ptr 1000 0)), (2, (.av (.val (.map none)))), (8, (.own (36, 34) 1 10 [(.agg (zl1 s))])), (15, (jL [(.agg zl3)])), (16, (jI 1)), (17, (jI 1))] (zb8 s o) [((36, 34), 1)]) ?_
 refine gO (tn 1 (kb ff z)) ?_
 refine uO (tn 3 z) ?_
 exact eNs
theorem u17_to {s : ByteArray} {o : List DPair} (hQ : Qo s o) : CallTo Tryz.prog 18 [(.ptr 1000 0), (jL []), (.av (.val (.map none)))] (zb8 s o) [] (.av (.tup [(.sl []), (vI 0)])) (zb8 s o) [] := by
 refine bGs Tryz.func18 ?_
 refine gO (tn 6 z) ?_
 refine uN (sx 105 [(0, (.ptr 1000 0)), (2, (.av (.val (.map none)))), (8, .nil), (19, (jL [])), (20, (jI 0)), (21, (jI 0))] (zb8 s o) []) 60 ?_
 refine gO (tn 1 (kb ff z)) ?_
 refine uO (tn 3 z) ?_
 exact eNs
theorem q176_to {s : ByteArray} (hQ : Qs s) : CallTo Tryz.prog 61 [(jL [])] [] [] (jL []) [] [] := by
 refine bG Tryz.func61 ?_
 refine gO (tn 5 z) ?_
 refine uN (sx 32 [(3, .nil), (6, (jL [])), (7, (jI 0)), (8, (jI 0))] [] []) 60 ?_
 refine gO (tn 1 (kb ff z)) ?_
 refine uO (tn 2 z) ?_
 exact eN
theorem q175_to {s : ByteArray} (hQ : Qs s) : CallTo Tryz.prog 61 [(jL [(.agg (zl1 s))])] [] [] (jL [(.agg (zl1 s))]) [] [] := by
 have ⟨hc, he, hs, hz, hes⟩ := hQ.a
 refine bG Tryz.func61 ?_
 refine gO (tn 5 z) ?_
 refine uN (sx 32 [(3, .nil), (6, (jL [(.agg (zl1 s))])), (7, (jI 1)), (8, (jI 0))] [] []) 60 ?_
 refine gO (tn 1 (kb tt (ke (el0 (.agg (zl1 s)) []) (tn 5 (kc (q176_to hQ) (tn 6 (kb ff (tn 2 (kb ff (tn 2 (kb ff (tn 2 (kp (show Uni 10 [(.agg (zl1 s))] from (uni_one rfl rfl)) (kp (show Uni 10 [(.agg (zl1 s))] ∧ ([(.agg (zl1 s))] : List AV).length * 192 ≤ 140737488355328 from ⟨uni_one rfl rfl, by first | omega | (simp; done) | (simp; omega)⟩) (kw (show ([(.agg (zl1 s))] : List AV) = _ from rfl) (tn 1 (kn (wrE (0 + 1) 1 (by omega)) (tn 1 z)))))))))))))))))) ?_
 refine uA (sx 32 [(3, (.own (29, 34) 1 10 [(.agg (zl1 s))])), (6, (jL [(.agg (zl1 s))])), (7, (jI 1)), (8, (jI 1))] [] [((29, 34), 1)]) ?_
 refine gO (tn 1 (kb ff z)) ?_
 refine uO (tn 2 z) ?_
 exact eN
theorem q179_to {s : ByteArray} (hQ : Qs s) : CallTo Tryz.prog 46 [(.av (.agg [(vS (⟨#[]⟩)), (.sl []), (.sl [])]))] [] [] (.av (.agg [(vS (⟨#[]⟩)), (.sl []), (.sl [])])) [] [] := by
 refine bG Tryz.func46 ?_
 refine gO (tn 4 (kc (clnS_to ([]) (by decide)) (tn 4 (kc (clnP_to ([]) (by decide)) (tn 4 z))))) ?_
 exact eN
theorem q180_to {s : ByteArray} (hQ : Qs s) : CallTo Tryz.prog 60 [(jL [])] [] [] (jL []) [] [] := by
 refine bG Tryz.func60 ?_
 refine gO (tn 3 z) ?_
 refine uN (sx 73 [(0, (jL [])), (3, .nil), (4, (jI 0))] [] []) 60 ?_
 refine gO (tn 4 (kb ff z)) ?_
 refine uO (tn 2 z) ?_
 exact eN
theorem q178_to {s : ByteArray} (hQ : Qs s) : CallTo Tryz.prog 78 [(.av (.agg (zl1 s)))] [] [] (.av (.agg (zl1 s))) [] [] := by
 refine bG Tryz.func78 ?_
 refine gO (tn 4 (kc (q179_to hQ) (tn 4 (kc (clnS_to ([]) (by decide)) (tn 4 (kc (clnC_to ([]) (by decide)) (tn 4 (kc (q180_to hQ) (tn 4 z))))))))) ?_
 exact eN
theorem q177_to {s : ByteArray} (hQ : Qs s) : CallTo Tryz.prog 60 [(jL [(.agg (zl1 s))])] [] [] (jL [(.agg (zl19 s))]) [] [] := by
 have ⟨hc, he, hs, hz, hes⟩ := hQ.a
 refine bG Tryz.func60 ?_
 refine gO (tn 3 z) ?_
 refine uN (sx 73 [(0, (jL [(.agg (zl1 s))])), (3, .nil), (4, (jI 0))] [] []) 60 ?_
 refine gO (tn 4 (kb tt (tn 2 (ke (el0 (.agg (zl1 s)) []) (tn 3 (kb ff (tn 2 z))))))) ?_
 refine uN (sx 73 [(0, (jL [(.agg (zl1 s))])), (3, .nil), (4, (jI 0)), (5, (jI (-1))), (6, (.ptr 6 0))] [(6, (.cells 133 [(.av (.val (.pointer none))), .nil]))] []) 60 ?_
 refine gO (tn 5 (kb tt (tn 1 (kb tt (tn 1 (kb tt (ke (el0 (.agg (zl1 s)) []) (kb tt (tn 1 (kb tt (tn 1 (kb tt (tn 1 (kb tt (kb tt (tn 3 (kb tt (tn 1 (kb tt (tn 1 (kb tt (ke (el0 (.agg (zl1 s)) []) (kb tt (tn 1 (kb tt (tn 1 (kb tt (tn 1 (kb tt (kb (show (!eqs s (⟨#[]⟩)) = true from (by simp [he])) (tn 2 (kq 13 z)))))))))))))))))))))))))))))))) ?_
 refine RT [(6, 0, (.son 6)), (6, 1, (.own (1300, 6) 0 1 (bytesAV (⟨#[]⟩))))] (ac (show (AV.val (.pointer none)) = .val (.pointer none) from rfl) (ac (show (bytesAV ⟨#[]⟩ : List AV) = [] ∧ 0 < 6 ∧ (0 : Nat) = 0 from ⟨rfl, by decide, rfl⟩) an)) (by kernel_rfl) ?_
 refine gO (tn 2 (ke (el0 (.agg (zl1 s)) []) (tn 2 (kg (CallTo_ren (swap_inv (6, 0) (1000, 0) rfl) (WriteString_to (⟨#[]⟩) s 0 (by simp only [ByteArray.size_append, szA, szB, szE]; omega))) (show (0 : Nat) = 0 ∧ True from ⟨rfl, trivial⟩) (tn 1 (kn (wrE (0 + 1) 1 (by omega)) (tn 1 z))))))) ?_
 refine uA (sx 73 [(0, (jL [(.agg (zl1 s))])), (3, .nil), (4, (jI 1)), (5, (jI 0)), (6, (.ptr 6 0))] [(6, (.cells 133 [(.son 6), (.own (1300, 6) 1 1 (bytesAV ((⟨#[]⟩) ++ s)))]))] [((1300, 6), 1)]) ?_
 refine gO (tn 5 (kb ff (kb ff (kb ff (kb ff (kb ff (kb ff (kb ff (kb ff z))))))))) ?_
 refine uO (tn 2 (kb tt (tn 2 (ke (el0 (.agg (zl1 s)) []) (tn 1 (kc (q178_to hQ) (tn 2 (kg (CallTo_ren (swap_inv (6, 0) (1000, 0) rfl) (String_to (.son 1000) 1300 1 ((⟨#[]⟩) ++ s) (by simp only [ByteArray.size_append, szA, szB, szE]; omega) (by simp only [ByteArray.size_append, szA, szB, szE]; omega))) (show (1 : Nat) = 1 ∧ True from ⟨rfl, trivial⟩) (tn 4 (kp (show Uni 10 [(.agg (zl19 s))] from (uni_one rfl rfl)) (kp (show Uni 10 [(.agg (zl19 s))] ∧ ([(.agg (zl19 s))] : List AV).length * 192 ≤ 140737488355328 from ⟨uni_one rfl rfl, by first | omega | (simp; done) | (simp; omega)⟩) (kw (show ([(.agg (zl19 s))] : List AV) = _ from rfl) (tn 1 z))))))))))))) ?_
 refine uA (sx 73 [(0, (jL [(.agg (zl1 s))])), (3, (.own (71, 34) 1 10 [(.agg (zl19 s))])), (4, (jI 1))] [] [((71, 34), 1), ((1300, 6), 2)]) ?_
 refine gO (tn 4 (kb ff z)) ?_
 refine uO (tn 2 z) ?_
 exact eN
theorem q182_to {s : ByteArray} (hQ : Qs s) : CallTo Tryz.prog 59 [(jL [])] [] [] (jL []) [] [] := by
 refine bG Tryz.func59 ?_
 refine gO (tn 6 z) ?_
 refine uN (sx 38 [(3, .nil), (4, (jB false)), (7, (jL [])), (8, (jI 0)), (9, (jI 0))] [] []) 60 ?_
 refine gO (tn 1 (kb ff z)) ?_
 refine uO (tn 2 z) ?_
 exact eN
theorem q181_to {s : ByteArray} (hQ : Qs s) : CallTo Tryz.prog 59 [(jL [(.agg (zl19 s))])] [] [] (jL [(.agg (zl19 s))]) [] [] := by
 have ⟨hc, he, hs, hz, hes⟩ := hQ.a
 refine bG Tryz.func59 ?_
 refine gO (tn 6 z) ?_
 refine uN (sx 38 [(3, .nil), (4, (jB false)), (7, (jL [(.agg (zl19 s))])), (8, (jI 1)), (9, (jI 0))] [] []) 60 ?_
 refine gO (tn 1 (kb tt (ke (el0 (.agg (zl19 s)) []) (tn 5 (kc (q182_to hQ) (tn 6 (kb tt (kb tt (kb tt (kb tt (tn 2 (kp (show Uni 10 [(.agg (zl19 s))] from (uni_one rfl rfl)) (kp (show Uni 10 [(.agg (zl19 s))] ∧ ([(.agg (zl19 s))] : List AV).length * 192 ≤ 140737488355328 from ⟨uni_one rfl rfl, by first | omega | (simp; done) | (simp; omega)⟩) (kw (show ([(.agg (zl19 s))] : List AV) = _ from rfl) (tn 5 (kb ff (tn 1 (kb ff (tn 1 (kb ff (tn 1 (kb ff (tn 1 (kn (wrE (0 + 1) 1 (by omega)) (tn 1 z))))))))))))))))))))))))) ?_
 refine uA (sx 38 [(3, (.own (27, 34) 1 10 [(.agg (zl19 s))])), (4, (jB false)), (7, (jL [(.agg (zl19 s))])), (8, (jI 1)), (9, (jI 1))] [] [((27, 34), 1)]) ?_
 refine gO (tn 1 (kb ff z)) ?_
 refine uO (tn 2 z) ?_
 exact eN
theorem q174_to {s : ByteArray} (hQ : Qs s) : CallTo Tryz.prog 38 [(jL [(.agg (zl1 s))])] [] [] (jL [(.agg (zl19 s))]) [] [] := by
 have ⟨hc, he, hs, hz, hes⟩ := hQ.a
 refine bG Tryz.func38 ?_
 refine gO (tn 2 (kc (q175_to hQ) (kc (q177_to hQ) (kc (q181_to hQ) (tn 5 (kb tt (tn 1 (kb tt (ke (el0 (.agg (zl19 s)) []) (kb tt (tn 1 (kb tt (tn 1 (kb tt (tn 1 (kb tt (kb ff z))))))))))))))))) ?_
 refine uN (sx 48 [(0, (jL [(.agg (zl19 s))]))] [] []) 60 ?_
 refine gO (tn 4 (kb tt (tn 1 (kb tt (tn 1 (kb tt (tn 1 (kb tt (kn (wrE (1 - 1) 0 (by omega)) (kb tt (ke (el0 (.agg (zl19 s)) []) (kb tt (tn 1 (kb tt (tn 1 (kb tt (tn 1 (kb tt (tn 1 (kb ff (tn 1 (kb ff (tn 1 (kb ff (tn 1 (kb ff (kn (wrE (1 - 1) 0 (by omega)) (kb ff (ke (el0 (.agg (zl19 s)) []) (kb ff (tn 1 (kb ff (tn 1 (kb ff (tn 1 (kb tt (kb ff (kb tt (kb ff z))))))))))))))))))))))))))))))))))))))) ?_
 refine uO (tn 2 z) ?_
 exact eN
theorem u12_to {s : ByteArray} {o : List DPair} (hQ : Qo s o) : CallTo Tryz.prog 18 [(.ptr 1000 0), (jL [(.agg zl7)]), (.av (.val (.map none)))] (zb7 s o) [] (.av (.tup [(.sl [(.agg (zl20 s))]), (vI 0)])) (zb8 s o) [] := by
 have ⟨hc, he, hs, hz, hes, ho⟩ := hQ.a
 refine bGs Tryz.func18 ?_
 refine gO (tn 6 z) ?_
 refine uN (sx 105 [(0, (.ptr 1000 0)), (2, (.av (.val (.map none)))), (8, .nil), (19, (jL [(.agg zl7)])), (20, (jI 1)), (21, (jI 0))] (zb7 s o) []) 60 ?_
 refine gO (tn 1 (kb tt (ke (el0 (.agg zl7) []) (tn 4 (kc (q138_to hQ.1) (kb ff (tn 3 (kg (u13_to hQ) trivial (tn 7 (kb ff (tn 2 (kc (q173_to hQ.1) (tn 5 (kg (u14_to hQ) trivial (tn 7 (kb ff (tn 4 (kg (u17_to hQ) trivial (tn 7 (kb ff (tn 1 (kb tt (tn 1 (kc (q174_to hQ.1) (tn 3 (kc (q130_to hQ.1) (tn 11 (kb ff (tn 1 (kb ff (tn 1 (kb ff (tn 1 (kb ff (tn 1 (kb ff (tn 1 (kb ff (tn 1 (kb ff (tn 1 (kb ff (kb tt (tn 2 (kp (show Uni 11 [(.agg (zl20 s))] from (uni_one rfl rfl)) (kp (show Uni 11 [(.agg (zl20 s))] ∧ ([(.agg (zl20 s))] : List AV).length * 192 ≤ 140737488355328 from ⟨uni_one rfl rfl, by first | omega | (simp; done) | (simp; omega)⟩) (kw (show ([(.agg (zl20 s))] : List AV) = _ from rfl) (tn 1 (kn (wrE (0 + 1) 1 (by omega)) (tn 1 z)))))))))))))))))))))))))))))))))))))))))))))))))) ?_
 refine uA (sx 105 [(0, (.ptr 1000 0)), (2, (.av (.val (.map none)))), (8, (.own (102, 39) 1 11 [(.agg (zl20 s))])), (19, (jL [(.agg zl7)])), (20, (jI 1)), (21, (jI 1))] (zb8 s o) [((102, 39), 1)]) ?_
 refine gO (tn 1 (kb ff z)) ?_
 refine uO (tn 3 z) ?_
 exact eNs
theorem q185_to {s : ByteArray} (hQ : Qs s) : CallTo Tryz.prog 62 [(jL [(.agg (zl19 s))])] [] [] (jI 1) [] [] := by
 have ⟨hc, he, hs, hz, hes⟩ := hQ.a
 refine bG Tryz.func62 ?_
 refine gO (tn 7 z) ?_
 refine uN (sx 22 [(0, (jL [(.agg (zl19 s))])), (3, (jI 1)), (8, (jI 1)), (9, (jI 0))] [] []) 60 ?_
 refine gO (tn 1 (kb tt (tn 5 (ke (el0 (.agg (zl19 s)) []) (tn 2 (kc (q4_to hQ) (kn (wrE (1 + 0) 1 (by omega)) (tn 1 (kn (wrE (0 + 1) 1 (by omega)) (tn 1 z)))))))))) ?_
 refine uA (sx 22 [(0, (jL [(.agg (zl19 s))])), (3, (jI 1)), (8, (jI 1)), (9, (jI 1))] [] []) ?_
 refine gO (tn 1 (kb ff z)) ?_
 refine uO (tn 2 z) ?_
 exact eN
theorem q184_to {s : ByteArray} (hQ : Qs s) : CallTo Tryz.prog 40 [(jL [(.agg (zl20 s))])] [] [] (jI 2) [] [] := by
 have ⟨hc, he, hs, hz, hes⟩ := hQ.a
 refine bG Tryz.func40 ?_
 refine gO (tn 7 z) ?_
 refine uN (sx 29 [(0, (jL [(.agg (zl20 s))])), (3, (jI 1)), (8, (jI 1)), (9, (jI 0))] [] []) 60 ?_
 refine gO (tn 1 (kb tt (tn 2 z))) ?_
 have d1 := (el0 (.agg (zl20 s)) [])
 have d2 := (q185_to hQ)
 have d3 := (el0 (.agg (zl20 s)) [])
 have d4 := (q7_to hQ)
 have d5 := wrE (1 + 0) 1 (by omega)
 have d6 := wrE (1 + 1) 2 (by omega)
 refine DR3 (tn 3 (ko (eO d1) (kp d1 (tn 2 (ko (cO d2) (kp d2 (tn 3 (ko (eO d3) (kp d3 (tn 2 (ko (cO d4) (kp d4 (tn 1 (ko (nO d5) (kp d5 (ko (nO d6) (kp d6 (tn 1 (kn (wrE (0 + 1) 1 (by omega)) (tn 1 z)))))))))))))))))))) (by kernel_rfl) (by kernel_rfl) (by kernel_rfl) ?_
 refine uA (sx 29 [(0, (jL [(.agg (zl20 s))])), (3, (jI 2)), (8, (jI 1)), (9, (jI 1)), (12, (jI 1)), (13, (jL [(.agg (zl20 s))])), (14, (jI 0)), (15, (.av (.ro (zl20 s) 0))), (16, (.av (.ro (zl20 s) 9))), (17, (jL [(.agg (zl19 s))])), (18, (jI 1)), (19, (jL [(.agg (zl20 s))])), (20, (jI 0)), (21, (.av (.ro (zl20 s) 0))), (22, (.av (.ro (zl20 s) 10))), (23, (jL [])), (24, (jI 0)), (25, (jI 1)), (26, (jI 2))] [] []) ?_
 refine gO (tn 1 (kb ff z)) ?_
 refine uO (tn 2 z) ?_
 exact eN
theorem q183_to {s : ByteArray} (hQ : Qs s) : CallTo Tryz.prog 19 [(.av (.agg [(.sl []), (.sl [(.agg (zl20 s))])]))] [] [] (jI 2) [] [] := by
 refine bG Tryz.func19 ?_
 refine gO (tn 4 (kc (q184_to hQ) (tn 1 z))) ?_
 exact eN
theorem q186_to {s : ByteArray} (hQ : Qs s) : CallTo Tryz.prog 20 [(jL [(.agg (zl20 s))])] [] [] (jI 1) [] [] := by
 have ⟨hc, he, hs, hz, hes⟩ := hQ.a
 refine bG Tryz.func20 ?_
 refine gO (tn 5 z) ?_
 refine uN (sx 21 [(0, (jL [(.agg (zl20 s))])), (3, (jI 0)), (6, (jI 1)), (7, (jI 0))] [] []) 60 ?_
 refine gO (tn 1 (kb tt (tn 5 (ke (el0 (.agg (zl20 s)) []) (tn 2 (kc (q166_to hQ) (kn (wrE (1 + 0) 1 (by omega)) (tn 2 (kn (wrE (0 + 1) 1 (by omega)) (tn 1 z)))))))))) ?_
 refine uA (sx 21 [(0, (jL [(.agg (zl20 s))])), (3, (jI 1)), (6, (jI 1)), (7, (jI 1))] [] []) ?_
 refine gO (tn 1 (kb ff z)) ?_
 refine uO (tn 2 z) ?_
 exact eN
theorem q188_to {s : ByteArray} (hQ : Qs s) : CallTo Tryz.prog 41 [(jL [(.agg (zl19 s))])] [] [] (jI 1) [] [] := by
 have ⟨hc, he, hs, hz, hes⟩ := hQ.a
 refine bG Tryz.func41 ?_
 refine gO (tn 5 z) ?_
 refine uN (sx 20 [(3, (jI 0)), (6, (jL [(.agg (zl19 s))])), (7, (jI 1)), (8, (jI 0))] [] []) 60 ?_
 refine gO (tn 1 (kb tt (ke (el0 (.agg (zl19 s)) []) (tn 6 (kc (q169_to hQ) (kn (wrE (1 + 0) 1 (by omega)) (tn 2 (kn (wrE (0 + 1) 1 (by omega)) (tn 1 z))))))))) ?_
 refine uA (sx 20 [(3, (jI 1)), (6, (jL [(.agg (zl19 s))])), (7, (jI 1)), (8, (jI 1))] [] []) ?_
 refine gO (tn 1 (kb ff z)) ?_
 refine uO (tn 2 z) ?_
 exact eN
theorem q187_to {s : ByteArray} (hQ : Qs s) : CallTo Tryz.prog 21 [(jL [(.agg (zl20 s))])] [] [] (jI 1) [] [] := by
 have ⟨hc, he, hs, hz, hes⟩ := hQ.a
 refine bG Tryz.func21 ?_
 refine gO (tn 5 z) ?_
 refine uN (sx 22 [(3, (jI 0)), (6, (jL [(.agg (zl20 s))])), (7, (jI 1)), (8, (jI 0))] [] []) 60 ?_
 refine gO (tn 1 (kb tt (ke (el0 (.agg (zl20 s)) []) (tn 3 z)))) ?_
 have d1 := (q188_to hQ)
 have d2 := (q170_to hQ)
 refine DR3 (tn 3 (ko (cO d1) (kp d1 (tn 3 (ko (cO d2) (kp d2 (tn 3 (kn (wrE (0 + 1) 1 (by omega)) (tn 1 z))))))))) (by kernel_rfl) (by kernel_rfl) (by kernel_rfl) ?_
 refine uA (sx 22 [(3, (jI 1)), (6, (jL [(.agg (zl20 s))])), (7, (jI 1)), (8, (jI 1)), (12, (jI 0)), (13, (.ptr 5 9)), (14, (jL [(.agg (zl19 s))])), (15, (jI 1)), (16, (.ptr 5 10)), (17, (jL [])), (18, (jI 0)), (19, (jI 1))] [(5, (.cells 38 [(jI 1), (jI 0), (jS (⟨#[]⟩)), (jS (⟨#[]⟩)), (jS (⟨#[]⟩)), (jS (⟨#[]⟩)), (jS (⟨#[]⟩)), (jL []), (jL []), (jL [(.agg (zl19 s))]), (jL [])]))] []) ?_
 refine gO (tn 1 (kb ff z)) ?_
 refine uO (tn 2 z) ?_
 exact eN
theorem u11_to {s : ByteArray} {o : List DPair} (hQ : Qo s o) : CallTo Tryz.prog 11 [(.av (.agg [(.sl []), (.sl [(.agg zl7)])])), (jL (([DPair.mk (⟨#[118]⟩) s] ++ o).map aPair))] [] [] (.av (.tup [(.agg [(.sl []), (.sl [(.agg (zl20 s))])]), (vI 0)])) [] [] := by
 have ⟨hc, he, hs, hz, hes, ho⟩ := hQ.a
 refine bG Tryz.func11 ?_
 refine gO (tn 4 (kc (q67_to hQ.1) (tn 3 (kb ff (tn 1 (kc (q140_to hQ.1) (tn 7 (kb ff (tn 1 (kc (q171_to hQ.1) (tn 6 (kb ff (kq 10 z))))))))))))) ?_
 refine NXW (sx 71 [(2, (.ptr 2 0)), (4, (.ptr 4 0)), (11, (.ptr 20 0))] [(20, (.cells 83 [(.mp 16), (.mp 17), (.mp 18), (jI 0)])), (16, (.map ([]) ([]))), (17, (.map ((varsM ([DPair.mk (⟨#[118]⟩) s] ++ o)).1) ((varsM ([DPair.mk (⟨#[118]⟩) s] ++ o)).2))), (18, (.map ([]) ([]))), (4, (.cells 42 [.nil, .nil])), (2, (.cells 42 [(jL []), (jL [(.agg zl7)])]))] []) (tn 3 (kg (CallTo_ren (swap_inv (18, 0) (1003, 0) rfl) (CallTo_ren (swap_inv (17, 0) (1002, 0) rfl) (CallTo_ren (swap_inv (16, 0) (1001, 0) rfl) (CallTo_ren (swap_inv (20, 0) (1000, 0) rfl) (u12_to hQ))))) trivial (tn 7 (kb ff (tn 2 (kp (show Uni 2 [] ∧ ([] : List AV).length * 32 ≤ 140737488355328 from ⟨by simp [Uni, AV.cells, AV.isTup], by first | omega | (simp; done) | (simp; omega)⟩) (kw (show ([] : List AV) = _ from rfl) (tn 5 (kc (q183_to hQ.1) (tn 1 (kb ff (tn 1 (kc (q186_to hQ.1) (tn 2 (kb ff (tn 1 (kb ff (kc (q187_to hQ.1) (kb ff (tn 1 (kb ff (kb ff (tn 3 z))))))))))))))))))))))) (by kernel_rfl) (W_weak (S' := (sx 71 [(1, (jL (([DPair.mk (⟨#[118]⟩) s] ++ o).map aPair))), (2, (.ptr 2 0)), (4, (.ptr 4 0)), (7, (jL [])), (34, (jB false))] [(4, (.cells 42 [.nil, .nil])), (2, (.cells 42 [(jL []), (jL [(.agg zl7)])]))] [])) (WK (by kernel_rfl)) (W_code (c' := .region 10 (regOps 10 Tryz.f11) false) (by kernel_rfl) (rg10 hQ))) (by kernel_rfl) ?_
 exact eN
theorem rg11 {s : ByteArray} {o : List DPair} (hQ : Qo s o) : W Tryz.prog (.region 10 (regOps 10 Tryz.f11) false) (fun e S1 => e = .normal ∧ Weak S1 (sx 71 [(2, (.ptr 2 0)), (4, (.ptr 4 0)), (11, (.ptr 20 0))] [(20, (.cells 83 [(.mp 16), (.mp 17), (.mp 18), (jI 0)])), (16, (.map ([⟨#[118]⟩]) ([(.agg (zl18 s))]))), (17, (.map ((varsM o).1) ((varsM o).2))), (18, (.map ([]) ([]))), (4, (.cells 42 [.nil, .nil])), (2, (.cells 42 [(jL []), (jL [(.agg (zl6 s)), (.agg zl11)])]))] [])) (sx 71 [(1, (jL (o.map aPair))), (2, (.ptr 2 0)), (4, (.ptr 4 0)), (7, (jL [(.agg (zl18 s))])), (34, (jB false))] [(4, (.cells 42 [.nil, .nil])), (2, (.cells 42 [(jL []), (jL [(.agg (zl6 s)), (.agg zl11)])]))] []) := by
 have ⟨hc, he, hs, hz, hes, ho⟩ := hQ.a
 refine W_regionO ?_
 rw [show (regOps 10 Tryz.f11).toList = [regO 10 Tryz.f11 0, regO 10 Tryz.f11 1, regO 10 Tryz.f11 2, regO 10 Tryz.f11 3, regO 10 Tryz.f11 4, regO 10 Tryz.f11 5] by kernel_rfl]
 refine WO_pure (jL [(.agg (zl18 s))]) 36 (by kernel_rfl) (by kernel_rfl) ?_
 refine WO_pure (.ptr 2 0) 37 (by kernel_rfl) (by kernel_rfl) ?_
 refine WO_pure (jL []) 38 (by kernel_rfl) (by kernel_rfl) ?_
 refine WO_pure (jL (o.map aPair)) 39 (by kernel_rfl) (by kernel_rfl) ?_
 refine WO_new (nb := (zb3 s o)) (res := .ptr 20 0) (x := .func 17) (args := #[.tmp 36, .tmp 38, .tmp 39]) (tys := #[50, 23, 23]) (f := 17) (fs := []) (cs := []) 40 (by kernel_rfl) (by kernel_rfl) (by kernel_rfl) (nwc (nwx_to ([DMacro.mk (⟨#[118]⟩) ([]) ([DBlock.mk 1 0 (⟨#[]⟩) (⟨#[]⟩) (⟨#[]⟩) (⟨#[]⟩) (DAttr.mk (⟨#[]⟩) ([]) ([])) ([DInline.mk 1 s (⟨#[]⟩) (⟨#[]⟩) (DAttr.mk (⟨#[]⟩) ([]) ([])) ([]) ([]) ([])]) ([])])]) [] o (by show 1 ≤ 1073741824; decide) (by decide) (by first | omega | (rw [List.length_append]; show 1 + _ ≤ _; omega))) (by kernel_rfl)) (by kernel_rfl) (by kernel_rfl) ?_
 refine WO_pure (.ptr 20 0) 11 (by kernel_rfl) (by kernel_rfl) ?_
 exact WO_nil rfl ⟨rfl, WK (by kernel_rfl)⟩
theorem u20_to {s : ByteArray} {o : List DPair} (hQ : Qo s o) : CallTo Tryz.prog 34 [(.ptr 1000 0), (.av (.agg zl11)), (.av (.val (.map none)))] (zb4 s o) [] (.av (.tup [(.agg [(vS (⟨#[]⟩)), (.sl []), (.sl [])]), (vB false)])) (zb4 s o) [] := by
 refine bGs Tryz.func34 ?_
 refine gO (tn 7 (kb ff (tn 1 (kb ff (tn 1 (kb ff (tn 1 (kb ff (tn 1 (kb ff (tn 1 (kb tt (kb tt (kb tt (kb tt (kb tt (kb tt (kb tt (kb tt (tn 3 z)))))))))))))))))))) ?_
 exact eNs
theorem q189_to {s : ByteArray} (hQ : Qs s) : CallTo Tryz.prog 36 [(jL [(.agg zl3), (.agg zl10)])] [] [] (jB true) [] [] := by
 refine bG Tryz.func36 ?_
 refine gO (tn 4 z) ?_
 refine uN (sx 20 [(5, (jL [(.agg zl3), (.agg zl10)])), (6, (jI 2)), (7, (jI 0))] [] []) 60 ?_
 refine gO (tn 1 (kb tt (ke (el0 (.agg zl3) [(.agg zl10)]) (tn 7 (kb tt (kb tt (kb tt (kb tt (kb tt (tn 1 z)))))))))) ?_
 refine uO z ?_
 exact eN
theorem q191_to {s : ByteArray} (hQ : Qs s) : CallTo Tryz.prog 76 [(jL [])] [] [] (jI 0) [] [] := by
 refine bG Tryz.func76 ?_
 refine gO (tn 7 z) ?_
 refine uN (sx 21 [(3, (jI 0)), (8, (jL [])), (9, (jI 0)), (10, (jI 0))] [] []) 60 ?_
 refine gO (tn 1 (kb ff z)) ?_
 refine uO (tn 2 z) ?_
 exact eN
theorem q190_to {s : ByteArray} (hQ : Qs s) : CallTo Tryz.prog 76 [(jL [(.agg (zl1 s))])] [] [] (jI 1) [] [] := by
 have ⟨hc, he, hs, hz, hes⟩ := hQ.a
 refine bG Tryz.func76 ?_
 refine gO (tn 7 z) ?_
 refine uN (sx 21 [(3, (jI 1)), (8, (jL [(.agg (zl1 s))])), (9, (jI 1)), (10, (jI 0))] [] []) 60 ?_
 refine gO (tn 1 (kb tt (ke (el0 (.agg (zl1 s)) []) (tn 6 (kc (q191_to hQ) (kn (wrE (1 + 0) 1 (by omega)) (tn 1 (kn (wrE (0 + 1) 1 (by omega)) (tn 1 z))))))))) ?_
 refine uA (sx 21 [(3, (jI 1)), (8, (jL [(.agg (zl1 s))])), (9, (jI 1)), (10, (jI 1))] [] []) ?_
 refine gO (tn 1 (kb ff z)) ?_
 refine uO (tn 2 z) ?_
 exact eN
theorem u23_to {s : ByteArray} {o : List DPair} (hQ : Qo s o) : CallTo Tryz.prog 55 [(.ptr 1000 0), (jI 1)] (zb4 s o) [] (jI 0) (zb9 s o) [] := by
 have ⟨hc, he, hs, hz, hes, ho⟩ := hQ.a
 refine bGs Tryz.func55 ?_
 refine gO (tn 6 (kn (wrE (1 + 1) 2 (by omega)) (kn (wrE (0 + 2) 2 (by omega)) (tn 8 (kb ff (tn 1 z)))))) ?_
 exact eNs
theorem u25_to {s : ByteArray} {o : List DPair} (hQ : Qo s o) : CallTo Tryz.prog 37 [(.ptr 1000 0), (jL []), (.av (.rm ([]) ([])))] (zb9 s o) [] (.av (.tup [(.sl []), (vI 0)])) (zb9 s o) [] := by
 refine bGs Tryz.func37 ?_
 refine gO (tn 6 z) ?_
 refine uN (sx 58 [(0, (.ptr 1000 0)), (2, (.av (.rm ([]) ([])))), (8, .nil), (15, (jL [])), (16, (jI 0)), (17, (jI 0))] (zb9 s o) []) 60 ?_
 refine gO (tn 1 (kb ff z)) ?_
 refine uO (tn 3 z) ?_
 exact eNs
theorem u24_to {s : ByteArray} {o : List DPair} (hQ : Qo s o) : CallTo Tryz.prog 37 [(.ptr 1000 0), (jL [(.agg (zl1 s))]), (.av (.rm ([]) ([])))] (zb9 s o) [] (.av (.tup [(.sl [(.agg (zl1 s))]), (vI 0)])) (zb9 s o) [] := by
 have ⟨hc, he, hs, hz, hes, ho⟩ := hQ.a
 refine bGs Tryz.func37 ?_
 refine gO (tn 6 z) ?_
 refine uN (sx 58 [(0, (.ptr 1000 0)), (2, (.av (.rm ([]) ([])))), (8, .nil), (15, (jL [(.agg (zl1 s))])), (16, (jI 1)), (17, (jI 0))] (zb9 s o) []) 60 ?_
 refine gO (tn 1 (kb tt (ke (el0 (.agg (zl1 s)) []) (tn 6 (kb ff (tn 4 (kg (u25_to hQ) trivial (tn 7 (kb ff (tn 1 (kc (q132_to hQ.1) (tn 6 (kp (show Uni 10 [(.agg (zl1 s))] from (uni_one rfl rfl)) (kp (show Uni 10 [(.agg (zl1 s))] ∧ ([(.agg (zl1 s))] : List AV).length * 192 ≤ 140737488355328 from ⟨uni_one rfl rfl, by first | omega | (simp; done) | (simp; omega)⟩) (kw (show ([(.agg (zl1 s))] : List AV) = _ from rfl) (tn 1 (kn (wrE (0 + 1) 1 (by omega)) (tn 1 z)))))))))))))))))) ?_
 refine uA (sx 58 [(0, (.ptr 1000 0)), (2, (.av (.rm ([]) ([])))), (8, (.own (55, 34) 1 10 [(.agg (zl1 s))])), (15, (jL [(.agg (zl1 s))])), (16, (jI 1)), (17, (jI 1))] (zb9 s o) [((55, 34), 1)]) ?_
 refine gO (tn 1 (kb ff z)) ?_
 refine uO (tn 3 z) ?_
 exact eNs
theorem u22_to {s : ByteArray} {o : List DPair} (hQ : Qo s o) : CallTo Tryz.prog 57 [(.ptr 1000 0), (.av (.agg zl3)), (.av (.val (.map none)))] (zb4 s o) [] (.av (.tup [(.sl [(.agg (zl1 s))]), (vI 0)])) (zb9 s o) [] := by
 refine bGs Tryz.func57 ?_
 refine gO (tn 6 (kl (show mgetT true (vS (⟨#[]⟩)) ([]) ([]) (⟨#[118]⟩) = (.tup [(vS (⟨#[]⟩)), (vB false)]) from (by kernel_rfl)) (tn 6 (kb ff z)))) ?_
 have d1 := (show mgetT true (.agg [(vS (⟨#[]⟩)), (.sl []), (.sl [])]) ([⟨#[118]⟩]) ([(.agg (zl18 s))]) (⟨#[118]⟩) = (.tup [(.agg (zl18 s)), (vB true)]) from (by kernel_rfl))
 refine DR3 (tn 6 (ko (lO d1) (tn 1 (kp d1 (tn 8 (kb tt (tn 7 (kb ff (tn 5 (kb ff (tn 1 (kb ff (tn 1 (kb ff (ke (el0 (.agg (zl2 s)) []) (kb ff (tn 1 (kb ff (tn 1 (kb ff (tn 1 (kb ff (kb ff (tn 3 (ke (el0 (.agg (zl2 s)) []) (tn 2 (kc (q190_to hQ.1) (kg (u23_to hQ) trivial (tn 3 (kb ff z)))))))))))))))))))))))))))))) (by kernel_rfl) (by kernel_rfl) (by kernel_rfl) ?_
 have d2 := (el0 (.agg (zl2 s)) [])
 have d3 := (q162_to hQ.1)
 have d4 := (u24_to hQ)
 refine DR3 (tn 3 (ko (eO d2) (kp d2 (tn 4 (ko (cO d3) (kp d3 (tn 1 (ko (cO d4) (kp d4 (tn 5 z)))))))))) (by kernel_rfl) (by kernel_rfl) (by kernel_rfl) ?_
 exact eNs
theorem u26_to {s : ByteArray} {o : List DPair} (hQ : Qo s o) : CallTo Tryz.prog 37 [(.ptr 1000 0), (jL []), (.av (.val (.map none)))] (zb9 s o) [] (.av (.tup [(.sl []), (vI 0)])) (zb9 s o) [] := by
 refine bGs Tryz.func37 ?_
 refine gO (tn 6 z) ?_
 refine uN (sx 58 [(0, (.ptr 1000 0)), (2, (.av (.val (.map none)))), (8, .nil), (15, (jL [])), (16, (jI 0)), (17, (jI 0))] (zb9 s o) []) 60 ?_
 refine gO (tn 1 (kb ff z)) ?_
 refine uO (tn 3 z) ?_
 exact eNs
theorem q192_to {s : ByteArray} (hQ : Qs s) : CallTo Tryz.prog 58 [(.av (.agg zl10))] [] [] (.av (.agg zl10)) [] [] := by
 have ⟨hc, he, hs, hz, hes⟩ := hQ.a
 refine bG Tryz.func58 ?_
 refine gO (tn 4 (kc (q130_to hQ) (tn 4 (kp (show Uni 1 [] ∧ ([] : List AV).length * 16 ≤ 140737488355328 from ⟨by simp [Uni, AV.cells, AV.isTup], by first | omega | (simp; done) | (simp; omega)⟩) (kw (show ([] : List AV) = _ from rfl) (tn 4 (kp (show Uni 4 [] ∧ ([] : List AV).length * 56 ≤ 140737488355328 from ⟨by simp [Uni, AV.cells, AV.isTup], by first | omega | (simp; done) | (simp; omega)⟩) (kw (show ([] : List AV) = _ from rfl) (tn 4 z))))))))) ?_
 exact eN
theorem u21_to {s : ByteArray} {o : List DPair} (hQ : Qo s o) : CallTo Tryz.prog 37 [(.ptr 1000 0), (jL [(.agg zl3), (.agg zl10)]), (.av (.val (.map none)))] (zb4 s o) [] (.av (.tup [(.sl [(.agg (zl1 s)), (.agg zl10)]), (vI 0)])) (zb9 s o) [] := by
 have ⟨hc, he, hs, hz, hes, ho⟩ := hQ.a
 refine bGs Tryz.func37 ?_
 refine gO (tn 6 z) ?_
 refine uN (sx 58 [(0, (.ptr 1000 0)), (2, (.av (.val (.map none)))), (8, .nil), (15, (jL [(.agg zl3), (.agg zl10)])), (16, (jI 2)), (17, (jI 0))] (zb4 s o) []) 60 ?_
 refine gO (tn 1 (kb tt (ke (el0 (.agg zl3) [(.agg zl10)]) (tn 6 (kb tt (tn 3 (kg (u22_to hQ) trivial (tn 7 (kb ff (tn 2 (kp (show Uni 10 [(.agg (zl1 s))] ∧ ([(.agg (zl1 s))] : List AV).length * 192 ≤ 140737488355328 from ⟨uni_one rfl rfl, by first | omega | (simp; done) | (simp; omega)⟩) (kw (show ([(.agg (zl1 s))] : List AV) = _ from rfl) (tn 1 (kn (wrE (0 + 1) 1 (by omega)) (tn 1 z))))))))))))))) ?_
 refine uA (sx 58 [(0, (.ptr 1000 0)), (2, (.av (.val (.map none)))), (8, (.own (36, 34) 1 10 [(.agg (zl1 s))])), (15, (jL [(.agg zl3), (.agg zl10)])), (16, (jI 2)), (17, (jI 1))] (zb9 s o) [((36, 34), 1)]) ?_
 refine gO (tn 1 (kb tt (ke (el1 (.agg zl3) (.agg zl10) []) (tn 6 (kb ff (tn 4 (kg (u26_to hQ) trivial (tn 7 (kb ff (tn 1 (kc (q192_to hQ.1) (tn 6 (kp (show Uni 10 [(.agg zl10)] from (uni_one rfl rfl)) (kp (show (1 : Nat) = 1 ∧ Uni 10 [(.agg zl10)] ∧ (([(.agg (zl1 s))] : List AV).length + ([(.agg zl10)] : List AV).length) * 192 ≤ 140737488355328 from ⟨rfl, uni_one rfl rfl, by first | omega | (simp; done) | (simp; omega)⟩) (kw (show ([(.agg (zl1 s)), (.agg zl10)] : List AV) = _ from rfl) (tn 1 (kn (wrE (1 + 1) 2 (by omega)) (tn 1 z)))))))))))))))))) ?_
 refine uA (sx 58 [(0, (.ptr 1000 0)), (2, (.av (.val (.map none)))), (8, (.own (36, 34) 2 10 [(.agg (zl1 s)), (.agg zl10)])), (15, (jL [(.agg zl3), (.agg zl10)])), (16, (jI 2)), (17, (jI 2))] (zb9 s o) [((36, 34), 2)]) ?_
 refine gO (tn 1 (kb ff z)) ?_
 refine uO (tn 3 z) ?_
 exact eNs
theorem u27_to {s : ByteArray} {o : List DPair} (hQ : Qo s o) : CallTo Tryz.prog 18 [(.ptr 1000 0), (jL []), (.av (.val (.map none)))] (zb9 s o) [] (.av (.tup [(.sl []), (vI 0)])) (zb9 s o) [] := by
 refine bGs Tryz.func18 ?_
 refine gO (tn 6 z) ?_
 refine uN (sx 105 [(0, (.ptr 1000 0)), (2, (.av (.val (.map none)))), (8, .nil), (19, (jL [])), (20, (jI 0)), (21, (jI 0))] (zb9 s o) []) 60 ?_
 refine gO (tn 1 (kb ff z)) ?_
 refine uO (tn 3 z) ?_
 exact eNs
theorem q194_to {s : ByteArray} (hQ : Qs s) : CallTo Tryz.prog 61 [(jL [(.agg (zl1 s)), (.agg zl10)])] [] [] (jL [(.agg (zl1 s)), (.agg zl10)]) [] [] := by
 have ⟨hc, he, hs, hz, hes⟩ := hQ.a
 refine bG Tryz.func61 ?_
 refine gO (tn 5 z) ?_
 refine uN (sx 32 [(3, .nil), (6, (jL [(.agg (zl1 s)), (.agg zl10)])), (7, (jI 2)), (8, (jI 0))] [] []) 60 ?_
 refine gO (tn 1 (kb tt (ke (el0 (.agg (zl1 s)) [(.agg zl10)]) (tn 5 (kc (q176_to hQ) (tn 6 (kb ff (tn 2 (kb ff (tn 2 (kb ff (tn 2 (kp (show Uni 10 [(.agg (zl1 s))] from (uni_one rfl rfl)) (kp (show Uni 10 [(.agg (zl1 s))] ∧ ([(.agg (zl1 s))] : List AV).length * 192 ≤ 140737488355328 from ⟨uni_one rfl rfl, by first | omega | (simp; done) | (simp; omega)⟩) (kw (show ([(.agg (zl1 s))] : List AV) = _ from rfl) (tn 1 (kn (wrE (0 + 1) 1 (by omega)) (tn 1 z)))))))))))))))))) ?_
 refine uA (sx 32 [(3, (.own (29, 34) 1 10 [(.agg (zl1 s))])), (6, (jL [(.agg (zl1 s)), (.agg zl10)])), (7, (jI 2)), (8, (jI 1))] [] [((29, 34), 1)]) ?_
 refine gO (tn 1 (kb tt (ke (el1 (.agg (zl1 s)) (.agg zl10) []) (tn 5 (kc (q176_to hQ) (tn 6 (kb ff (tn 2 (kb ff (tn 2 (kb ff (tn 2 (kp (show Uni 10 [(.agg zl10)] from (uni_one rfl rfl)) (kp (show (1 : Nat) = 1 ∧ Uni 10 [(.agg zl10)] ∧ (([(.agg (zl1 s))] : List AV).length + ([(.agg zl10)] : List AV).length) * 192 ≤ 140737488355328 from ⟨rfl, uni_one rfl rfl, by first | omega | (simp; done) | (simp; omega)⟩) (kw (show ([(.agg (zl1 s)), (.agg zl10)] : List AV) = _ from rfl) (tn 1 (kn (wrE (1 + 1) 2 (by omega)) (tn 1 z)))))))))))))))))) ?_
 refine uA (sx 32 [(3, (.own (29, 34) 2 10 [(.agg (zl1 s)), (.agg zl10)])), (6, (jL [(.agg (zl1 s)), (.agg zl10)])), (7, (jI 2)), (8, (jI 2))] [] [((29, 34), 2)]) ?_
 refine gO (tn 1 (kb ff z)) ?_
 refine uO (tn 2 z) ?_
 exact eN
theorem q195_to {s : ByteArray} (hQ : Qs s) : CallTo Tryz.prog 60 [(jL [(.agg (zl1 s)), (.agg zl10)])] [] [] (jL [(.agg (zl21 s))]) [] [] := by
 have ⟨hc, he, hs, hz, hes⟩ := hQ.a
 refine bG Tryz.func60 ?_
 refine gO (tn 3 z) ?_
 refine uN (sx 73 [(0, (jL [(.agg (zl1 s)), (.agg zl10)])), (3, .nil), (4, (jI 0))] [] []) 60 ?_
 refine gO (tn 4 (kb tt (tn 2 (ke (el0 (.agg (zl1 s)) [(.agg zl10)]) (tn 3 (kb ff (tn 2 z))))))) ?_
 refine uN (sx 73 [(0, (jL [(.agg (zl1 s)), (.agg zl10)])), (3, .nil), (4, (jI 0)), (5, (jI (-1))), (6, (.ptr 6 0))] [(6, (.cells 133 [(.av (.val (.pointer none))), .nil]))] []) 60 ?_
 refine gO (tn 5 (kb tt (tn 1 (kb tt (tn 1 (kb tt (ke (el0 (.agg (zl1 s)) [(.agg zl10)]) (kb tt (tn 1 (kb tt (tn 1 (kb tt (tn 1 (kb tt (kb tt (tn 3 (kb tt (tn 1 (kb tt (tn 1 (kb tt (ke (el0 (.agg (zl1 s)) [(.agg zl10)]) (kb tt (tn 1 (kb tt (tn 1 (kb tt (tn 1 (kb tt (kb (show (!eqs s (⟨#[]⟩)) = true from (by simp [he])) (tn 2 (kq 13 z)))))))))))))))))))))))))))))))) ?_
 refine RT [(6, 0, (.son 6)), (6, 1, (.own (1300, 6) 0 1 (bytesAV (⟨#[]⟩))))] (ac (show (AV.val (.pointer none)) = .val (.pointer none) from rfl) (ac (show (bytesAV ⟨#[]⟩ : List AV) = [] ∧ 0 < 6 ∧ (0 : Nat) = 0 from ⟨rfl, by decide, rfl⟩) an)) (by kernel_rfl) ?_
 refine gO (tn 2 (ke (el0 (.agg (zl1 s)) [(.agg zl10)]) (tn 2 (kg (CallTo_ren (swap_inv (6, 0) (1000, 0) rfl) (WriteString_to (⟨#[]⟩) s 0 (by simp only [ByteArray.size_append, szA, szB, szE]; omega))) (show (0 : Nat) = 0 ∧ True from ⟨rfl, trivial⟩) (tn 1 (kn (wrE (0 + 1) 1 (by omega)) (tn 1 z))))))) ?_
 refine uA (sx 73 [(0, (jL [(.agg (zl1 s)), (.agg zl10)])), (3, .nil), (4, (jI 1)), (5, (jI 0)), (6, (.ptr 6 0))] [(6, (.cells 133 [(.son 6), (.own (1300, 6) 1 1 (bytesAV ((⟨#[]⟩) ++ s)))]))] [((1300, 6), 1)]) ?_
 refine gO (tn 5 (kb tt (tn 1 (kb tt (tn 1 (kb tt (ke (el1 (.agg (zl1 s)) (.agg zl10) []) (kb tt (tn 1 (kb tt (tn 1 (kb tt (tn 1 (kb tt (kb tt (tn 3 (kb ff (kb ff (kb ff (kb ff (kb ff (kb ff (kb ff (kb ff (kq 13 z))))))))))))))))))))))))) ?_
 refine RT [] an (by kernel_rfl) ?_
 refine gO (tn 2 (ke (el1 (.agg (zl1 s)) (.agg zl10) []) (tn 2 (kg (CallTo_ren (swap_inv (6, 0) (1000, 0) rfl) (WriteString_to ((⟨#[]⟩) ++ s) (⟨#[32, 116, 119, 111]⟩) 1 (by simp only [ByteArray.size_append, szA, szB, szE]; omega))) (show (1 : Nat) = 1 ∧ True from ⟨rfl, trivial⟩) (tn 1 (kn (wrE (1 + 1) 2 (by omega)) (tn 1 z))))))) ?_
 refine uA (sx 73 [(0, (jL [(.agg (zl1 s)), (.agg zl10)])), (3, .nil), (4, (jI 2)), (5, (jI 0)), (6, (.ptr 6 0))] [(6, (.cells 133 [(.son 6), (.own (1300, 6) 2 1 (bytesAV (((⟨#[]⟩) ++ s) ++ (⟨#[32, 116, 119, 111]⟩))))]))] [((1300, 6), 2)]) ?_
 refine gO (tn 5 (kb ff (kb ff (kb ff (kb ff (kb ff (kb ff (kb ff (kb ff z))))))))) ?_
 refine uO (tn 2 (kb tt (tn 2 (ke (el0 (.agg (zl1 s)) [(.agg zl10)]) (tn 1 (kc (q178_to hQ) (tn 2 (kg (CallTo_ren (swap_inv (6, 0) (1000, 0) rfl) (String_to (.son 1000) 1300 2 (((⟨#[]⟩) ++ s) ++ (⟨#[32, 116, 119, 111]⟩)) (by simp only [ByteArray.size_append, szA, szB, szE]; omega) (by simp only [ByteArray.size_append, szA, szB, szE]; omega))) (show (2 : Nat) = 2 ∧ True from ⟨rfl, trivial⟩) (tn 4 (kp (show Uni 10 [(.agg (zl21 s))] from (uni_one rfl rfl)) (kp (show Uni 10 [(.agg (zl21 s))] ∧ ([(.agg (zl21 s))] : List AV).length * 192 ≤ 140737488355328 from ⟨uni_one rfl rfl, by first | omega | (simp; done) | (simp; omega)⟩) (kw (show ([(.agg (zl21 s))] : List AV) = _ from rfl) (tn 1 z))))))))))))) ?_
 refine uA (sx 73 [(0, (jL [(.agg (zl1 s)), (.agg zl10)])), (3, (.own (71, 34) 1 10 [(.agg (zl21 s))])), (4, (jI 2))] [] [((71, 34), 1), ((1300, 6), 3)]) ?_
 refine gO (tn 4 (kb ff z)) ?_
 refine uO (tn 2 z) ?_
 exact eN
theorem q196_to {s : ByteArray} (hQ : Qs s) : CallTo Tryz.prog 59 [(jL [(.agg (zl21 s))])] [] [] (jL [(.agg (zl21 s))]) [] [] := by
 have ⟨hc, he, hs, hz, hes⟩ := hQ.a
 refine bG Tryz.func59 ?_
 refine gO (tn 6 z) ?_
 refine uN (sx 38 [(3, .nil), (4, (jB false)), (7, (jL [(.agg (zl21 s))])), (8, (jI 1)), (9, (jI 0))] [] []) 60 ?_
 refine gO (tn 1 (kb tt (ke (el0 (.agg (zl21 s)) []) (tn 5 (kc (q182_to hQ) (tn 6 (kb tt (kb tt (kb tt (kb tt (tn 2 (kp (show Uni 10 [(.agg (zl21 s))] from (uni_one rfl rfl)) (kp (show Uni 10 [(.agg (zl21 s))] ∧ ([(.agg (zl21 s))] : List AV).length * 192 ≤ 140737488355328 from ⟨uni_one rfl rfl, by first | omega | (simp; done) | (simp; omega)⟩) (kw (show ([(.agg (zl21 s))] : List AV) = _ from rfl) (tn 5 (kb ff (tn 1 (kb ff (tn 1 (kb ff (tn 1 (kb ff (tn 1 (kn (wrE (0 + 1) 1 (by omega)) (tn 1 z))))))))))))))))))))))))) ?_
 refine uA (sx 38 [(3, (.own (27, 34) 1 10 [(.agg (zl21 s))])), (4, (jB false)), (7, (jL [(.agg (zl21 s))])), (8, (jI 1)), (9, (jI 1))] [] [((27, 34), 1)]) ?_
 refine gO (tn 1 (kb ff z)) ?_
 refine uO (tn 2 z) ?_
 exact eN
theorem q193_to {s : ByteArray} (hQ : Qs s) : CallTo Tryz.prog 38 [(jL [(.agg (zl1 s)), (.agg zl10)])] [] [] (jL [(.agg (zl21 s))]) [] [] := by
 have ⟨hc, he, hs, hz, hes⟩ := hQ.a
 refine bG Tryz.func38 ?_
 refine gO (tn 2 (kc (q194_to hQ) (kc (q195_to hQ) (kc (q196_to hQ) (tn 5 (kb tt (tn 1 (kb tt (ke (el0 (.agg (zl21 s)) []) (kb tt (tn 1 (kb tt (tn 1 (kb tt (tn 1 (kb tt (kb ff z))))))))))))))))) ?_
 refine uN (sx 48 [(0, (jL [(.agg (zl21 s))]))] [] []) 60 ?_
 refine gO (tn 4 (kb tt (tn 1 (kb tt (tn 1 (kb tt (tn 1 (kb tt (kn (wrE (1 - 1) 0 (by omega)) (kb tt (ke (el0 (.agg (zl21 s)) []) (kb tt (tn 1 (kb tt (tn 1 (kb tt (tn 1 (kb tt (tn 1 (kb ff (tn 1 (kb ff (tn 1 (kb ff (tn 1 (kb ff (kn (wrE (1 - 1) 0 (by omega)) (kb ff (ke (el0 (.agg (zl21 s)) []) (kb ff (tn 1 (kb ff (tn 1 (kb ff (tn 1 (kb tt (kb ff (kb tt (kb ff z))))))))))))))))))))))))))))))))))))))) ?_
 refine uO (tn 2 z) ?_
 exact eN
theorem u19_to {s : ByteArray} {o : List DPair} (hQ : Qo s o) : CallTo Tryz.prog 18 [(.ptr 1000 0), (jL [(.agg (zl6 s)), (.agg zl11)]), (.av (.val (.map none)))] (zb4 s o) [] (.av (.tup [(.sl [(.agg (zl22 s))]), (vI 0)])) (zb9 s o) [] := by
 have ⟨hc, he, hs, hz, hes, ho⟩ := hQ.a
 refine bGs Tryz.func18 ?_
 refine gO (tn 6 z) ?_
 refine uN (sx 105 [(0, (.ptr 1000 0)), (2, (.av (.val (.map none)))), (8, .nil), (19, (jL [(.agg (zl6 s)), (.agg zl11)])), (20, (jI 2)), (21, (jI 0))] (zb4 s o) []) 60 ?_
 refine gO (tn 1 (kb tt (ke (el0 (.agg (zl6 s)) [(.agg zl11)]) (tn 4 (kc (q124_to hQ.1) (kb (show eqs (⟨#[109, 97, 99, 114, 111]⟩) (⟨#[109, 97, 99, 114, 111]⟩) = true from (by kernel_rfl)) (kn (wrE (0 + 1) 1 (by omega)) (tn 1 z)))))))) ?_
 refine uA (sx 105 [(0, (.ptr 1000 0)), (2, (.av (.val (.map none)))), (8, .nil), (19, (jL [(.agg (zl6 s)), (.agg zl11)])), (20, (jI 2)), (21, (jI 1))] (zb4 s o) []) ?_
 refine gO (tn 1 (kb tt (ke (el1 (.agg (zl6 s)) (.agg zl11) []) (tn 4 (kc (q145_to hQ.1) (kb ff (tn 3 (kg (u20_to hQ) trivial (tn 7 (kb ff (tn 2 (kc (q189_to hQ.1) (tn 5 (kg (u21_to hQ) trivial (tn 7 (kb ff (tn 4 (kg (u27_to hQ) trivial (tn 7 (kb ff (tn 1 (kb tt (tn 1 (kc (q193_to hQ.1) (tn 3 (kc (q130_to hQ.1) (tn 11 (kb ff (tn 1 (kb ff (tn 1 (kb ff (tn 1 (kb ff (tn 1 (kb ff (tn 1 (kb ff (tn 1 (kb ff (tn 1 (kb ff (kb tt (tn 2 (kp (show Uni 11 [(.agg (zl22 s))] from (uni_one rfl rfl)) (kp (show Uni 11 [(.agg (zl22 s))] ∧ ([(.agg (zl22 s))] : List AV).length * 192 ≤ 140737488355328 from ⟨uni_one rfl rfl, by first | omega | (simp; done) | (simp; omega)⟩) (kw (show ([(.agg (zl22 s))] : List AV) = _ from rfl) (tn 1 (kn (wrE (1 + 1) 2 (by omega)) (tn 1 z)))))))))))))))))))))))))))))))))))))))))))))))))) ?_
 refine uA (sx 105 [(0, (.ptr 1000 0)), (2, (.av (.val (.map none)))), (8, (.own (102, 39) 1 11 [(.agg (zl22 s))])), (19, (jL [(.agg (zl6 s)), (.agg zl11)])), (20, (jI 2)), (21, (jI 2))] (zb9 s o) [((102, 39), 1)]) ?_
 refine gO (tn 1 (kb ff z)) ?_
 refine uO (tn 3 z) ?_
 exact eNs
theorem q199_to {s : ByteArray} (hQ : Qs s) : CallTo Tryz.prog 62 [(jL [(.agg (zl21 s))])] [] [] (jI 1) [] [] := by
 have ⟨hc, he, hs, hz, hes⟩ := hQ.a
 refine bG Tryz.func62 ?_
 refine gO (tn 7 z) ?_
 refine uN (sx 22 [(0, (jL [(.agg (zl21 s))])), (3, (jI 1)), (8, (jI 1)), (9, (jI 0))] [] []) 60 ?_
 refine gO (tn 1 (kb tt (tn 5 (ke (el0 (.agg (zl21 s)) []) (tn 2 (kc (q4_to hQ) (kn (wrE (1 + 0) 1 (by omega)) (tn 1 (kn (wrE (0 + 1) 1 (by omega)) (tn 1 z)))))))))) ?_
 refine uA (sx 22 [(0, (jL [(.agg (zl21 s))])), (3, (jI 1)), (8, (jI 1)), (9, (jI 1))] [] []) ?_
 refine gO (tn 1 (kb ff z)) ?_
 refine uO (tn 2 z) ?_
 exact eN
theorem q198_to {s : ByteArray} (hQ : Qs s) : CallTo Tryz.prog 40 [(jL [(.agg (zl22 s))])] [] [] (jI 2) [] [] := by
 have ⟨hc, he, hs, hz, hes⟩ := hQ.a
 refine bG Tryz.func40 ?_
 refine gO (tn 7 z) ?_
 refine uN (sx 29 [(0, (jL [(.agg (zl22 s))])), (3, (jI 1)), (8, (jI 1)), (9, (jI 0))] [] []) 60 ?_
 refine gO (tn 1 (kb tt (tn 2 z))) ?_
 have d1 := (el0 (.agg (zl22 s)) [])
 have d2 := (q199_to hQ)
 have d3 := (el0 (.agg (zl22 s)) [])
 have d4 := (q7_to hQ)
 have d5 := wrE (1 + 0) 1 (by omega)
 have d6 := wrE (1 + 1) 2 (by omega)
 refine DR3 (tn 3 (ko (eO d1) (kp d1 (tn 2 (ko (cO d2) (kp d2 (tn 3 (ko (eO d3) (kp d3 (tn 2 (ko (cO d4) (kp d4 (tn 1 (ko (nO d5) (kp d5 (ko (nO d6) (kp d6 (tn 1 (kn (wrE (0 + 1) 1 (by omega)) (tn 1 z)))))))))))))))))))) (by kernel_rfl) (by kernel_rfl) (by kernel_rfl) ?_
 refine uA (sx 29 [(0, (jL [(.agg (zl22 s))])), (3, (jI 2)), (8, (jI 1)), (9, (jI 1)), (12, (jI 1)), (13, (jL [(.agg (zl22 s))])), (14, (jI 0)), (15, (.av (.ro (zl22 s) 0))), (16, (.av (.ro (zl22 s) 9))), (17, (jL [(.agg (zl21 s))])), (18, (jI 1)), (19, (jL [(.agg (zl22 s))])), (20, (jI 0)), (21, (.av (.ro (zl22 s) 0))), (22, (.av (.ro (zl22 s) 10))), (23, (jL [])), (24, (jI 0)), (25, (jI 1)), (26, (jI 2))] [] []) ?_
 refine gO (tn 1 (kb ff z)) ?_
 refine uO (tn 2 z) ?_
 exact eN
theorem q197_to {s : ByteArray} (hQ : Qs s) : CallTo Tryz.prog 19 [(.av (.agg [(.sl []), (.sl [(.agg (zl22 s))])]))] [] [] (jI 2) [] [] := by
 refine bG Tryz.func19 ?_
 refine gO (tn 4 (kc (q198_to hQ) (tn 1 z))) ?_
 exact eN
theorem q200_to {s : ByteArray} (hQ : Qs s) : CallTo Tryz.prog 20 [(jL [(.agg (zl22 s))])] [] [] (jI 1) [] [] := by
 have ⟨hc, he, hs, hz, hes⟩ := hQ.a
 refine bG Tryz.func20 ?_
 refine gO (tn 5 z) ?_
 refine uN (sx 21 [(0, (jL [(.agg (zl22 s))])), (3, (jI 0)), (6, (jI 1)), (7, (jI 0))] [] []) 60 ?_
 refine gO (tn 1 (kb tt (tn 5 (ke (el0 (.agg (zl22 s)) []) (tn 2 (kc (q166_to hQ) (kn (wrE (1 + 0) 1 (by omega)) (tn 2 (kn (wrE (0 + 1) 1 (by omega)) (tn 1 z)))))))))) ?_
 refine uA (sx 21 [(0, (jL [(.agg (zl22 s))])), (3, (jI 1)), (6, (jI 1)), (7, (jI 1))] [] []) ?_
 refine gO (tn 1 (kb ff z)) ?_
 refine uO (tn 2 z) ?_
 exact eN
theorem q202_to {s : ByteArray} (hQ : Qs s) : CallTo Tryz.prog 41 [(jL [(.agg (zl21 s))])] [] [] (jI 1) [] [] := by
 have ⟨hc, he, hs, hz, hes⟩ := hQ.a
 refine bG Tryz.func41 ?_
 refine gO (tn 5 z) ?_
 refine uN (sx 20 [(3, (jI 0)), (6, (jL [(.agg (zl21 s))])), (7, (jI 1)), (8, (jI 0))] [] []) 60 ?_
 refine gO (tn 1 (kb tt (ke (el0 (.agg (zl21 s)) []) (tn 6 (kc (q169_to hQ) (kn (wrE (1 + 0) 1 (by omega)) (tn 2 (kn (wrE (0 + 1) 1 (by omega)) (tn 1 z))))))))) ?_
 refine uA (sx 20 [(3, (jI 1)), (6, (jL [(.agg (zl21 s))])), (7, (jI 1)), (8, (jI 1))] [] []) ?_
 refine gO (tn 1 (kb ff z)) ?_
 refine uO (tn 2 z) ?_
 exact eN
theorem q201_to {s : ByteArray} (hQ : Qs s) : CallTo Tryz.prog 21 [(jL [(.agg (zl22 s))])] [] [] (jI 1) [] [] := by
 have ⟨hc, he, hs, hz, hes⟩ := hQ.a
 refine bG Tryz.func21 ?_
 refine gO (tn 5 z) ?_
 refine uN (sx 22 [(3, (jI 0)), (6, (jL [(.agg (zl22 s))])), (7, (jI 1)), (8, (jI 0))] [] []) 60 ?_
 refine gO (tn 1 (kb tt (ke (el0 (.agg (zl22 s)) []) (tn 3 z)))) ?_
 have d1 := (q202_to hQ)
 have d2 := (q170_to hQ)
 refine DR3 (tn 3 (ko (cO d1) (kp d1 (tn 3 (ko (cO d2) (kp d2 (tn 3 (kn (wrE (0 + 1) 1 (by omega)) (tn 1 z))))))))) (by kernel_rfl) (by kernel_rfl) (by kernel_rfl) ?_
 refine uA (sx 22 [(3, (jI 1)), (6, (jL [(.agg (zl22 s))])), (7, (jI 1)), (8, (jI 1)), (12, (jI 0)), (13, (.ptr 5 9)), (14, (jL [(.agg (zl21 s))])), (15, (jI 1)), (16, (.ptr 5 10)), (17, (jL [])), (18, (jI 0)), (19, (jI 1))] [(5, (.cells 38 [(jI 1), (jI 0), (jS (⟨#[]⟩)), (jS (⟨#[]⟩)), (jS (⟨#[]⟩)), (jS (⟨#[]⟩)), (jS (⟨#[]⟩)), (jL []), (jL []), (jL [(.agg (zl21 s))]), (jL [])]))] []) ?_
 refine gO (tn 1 (kb ff z)) ?_
 refine uO (tn 2 z) ?_
 exact eN
theorem u18_to {s : ByteArray} {o : List DPair} (hQ : Qo s o) : CallTo Tryz.prog 11 [(.av (.agg (zl12 s))), (jL (o.map aPair))] [] [] (.av (.tup [(.agg [(.sl []), (.sl [(.agg (zl22 s))])]), (vI 0)])) [] [] := by
 have ⟨hc, he, hs, hz, hes, ho⟩ := hQ.a
 refine bG Tryz.func11 ?_
 refine gO (tn 4 (kc (q72_to hQ.1) (tn 3 (kb ff (tn 1 (kc (q143_to hQ.1) (tn 7 (kb ff (tn 1 (kc (q158_to hQ.1) (tn 6 (kb ff (kq 10 z))))))))))))) ?_
 refine NXW (sx 71 [(2, (.ptr 2 0)), (4, (.ptr 4 0)), (11, (.ptr 20 0))] [(20, (.cells 83 [(.mp 16), (.mp 17), (.mp 18), (jI 0)])), (16, (.map ([⟨#[118]⟩]) ([(.agg (zl18 s))]))), (17, (.map ((varsM o).1) ((varsM o).2))), (18, (.map ([]) ([]))), (4, (.cells 42 [.nil, .nil])), (2, (.cells 42 [(jL []), (jL [(.agg (zl6 s)), (.agg zl11)])]))] []) (tn 3 (kg (CallTo_ren (swap_inv (18, 0) (1003, 0) rfl) (CallTo_ren (swap_inv (17, 0) (1002, 0) rfl) (CallTo_ren (swap_inv (16, 0) (1001, 0) rfl) (CallTo_ren (swap_inv (20, 0) (1000, 0) rfl) (u19_to hQ))))) trivial (tn 7 (kb ff (tn 2 (kp (show Uni 2 [] ∧ ([] : List AV).length * 32 ≤ 140737488355328 from ⟨by simp [Uni, AV.cells, AV.isTup], by first | omega | (simp; done) | (simp; omega)⟩) (kw (show ([] : List AV) = _ from rfl) (tn 5 (kc (q197_to hQ.1) (tn 1 (kb ff (tn 1 (kc (q200_to hQ.1) (tn 2 (kb ff (tn 1 (kb ff (kc (q201_to hQ.1) (kb ff (tn 1 (kb ff (kb ff (tn 3 z))))))))))))))))))))))) (by kernel_rfl) (W_weak (S' := (sx 71 [(1, (jL (o.map aPair))), (2, (.ptr 2 0)), (4, (.ptr 4 0)), (7, (jL [(.agg (zl18 s))])), (34, (jB false))] [(4, (.cells 42 [.nil, .nil])), (2, (.cells 42 [(jL []), (jL [(.agg (zl6 s)), (.agg zl11)])]))] [])) (WK (by kernel_rfl)) (W_code (c' := .region 10 (regOps 10 Tryz.f11) false) (by kernel_rfl) (rg11 hQ))) (by kernel_rfl) ?_
 exact eN
theorem rg12 {s : ByteArray} {o : List DPair} (hQ : Qo s o) : W Tryz.prog (.region 10 (regOps 10 Tryz.f11) false) (fun e S1 => e = .normal ∧ Weak S1 (sx 71 [(2, (.ptr 2 0)), (4, (.ptr 4 0)), (11, (.ptr 20 0))] [(20, (.cells 83 [(.mp 16), (.mp 17), (.mp 18), (jI 0)])), (16, (.map ([]) ([]))), (17, (.map ((varsM ([DPair.mk (⟨#[118]⟩) s] ++ o)).1) ((varsM ([DPair.mk (⟨#[118]⟩) s] ++ o)).2))), (18, (.map ([]) ([]))), (4, (.cells 42 [.nil, .nil])), (2, (.cells 42 [(jL []), (jL [(.agg zl11)])]))] [])) (sx 71 [(1, (jL (([DPair.mk (⟨#[118]⟩) s] ++ o).map aPair))), (2, (.ptr 2 0)), (4, (.ptr 4 0)), (7, (jL [])), (34, (jB false))] [(4, (.cells 42 [.nil, .nil])), (2, (.cells 42 [(jL []), (jL [(.agg zl11)])]))] []) := by
 have ⟨hc, he, hs, hz, hes, ho⟩ := hQ.a
 refine W_regionO ?_
 rw [show (regOps 10 Tryz.f11).toList = [regO 10 Tryz.f11 0, regO 10 Tryz.f11 1, regO 10 Tryz.f11 2, regO 10 Tryz.f11 3, regO 10 Tryz.f11 4, regO 10 Tryz.f11 5] by kernel_rfl]
 refine WO_pure (jL []) 36 (by kernel_rfl) (by kernel_rfl) ?_
 refine WO_pure (.ptr 2 0) 37 (by kernel_rfl) (by kernel_rfl) ?_
 refine WO_pure (jL []) 38 (by kernel_rfl) (by kernel_rfl) ?_
 refine WO_pure (jL (([DPair.mk (⟨#[118]⟩) s] ++ o).map aPair)) 39 (by kernel_rfl) (by kernel_rfl) ?_
 refine WO_new (nb := (zb6 s o)) (res := .ptr 20 0) (x := .func 17) (args := #[.tmp 36, .tmp 38, .tmp 39]) (tys := #[50, 23, 23]) (f := 17) (fs := []) (cs := []) 40 (by kernel_rfl) (by kernel_rfl) (by kernel_rfl) (nwc (nwx_to ([]) [] ([DPair.mk (⟨#[118]⟩) s] ++ o) (by show 0 ≤ 1073741824; decide) (by decide) (by first | omega | (rw [List.length_append]; show 1 + _ ≤ _; omega))) (by kernel_rfl)) (by kernel_rfl) (by kernel_rfl) ?_
 refine WO_pure (.ptr 20 0) 11 (by kernel_rfl) (by kernel_rfl) ?_
 exact WO_nil rfl ⟨rfl, WK (by kernel_rfl)⟩
theorem u30_to {s : ByteArray} {o : List DPair} (hQ : Qo s o) : CallTo Tryz.prog 34 [(.ptr 1000 0), (.av (.agg zl11)), (.av (.val (.map none)))] (zb7 s o) [] (.av (.tup [(.agg [(vS (⟨#[]⟩)), (.sl []), (.sl [])]), (vB false)])) (zb7 s o) [] := by
 refine bGs Tryz.func34 ?_
 refine gO (tn 7 (kb ff (tn 1 (kb ff (tn 1 (kb ff (tn 1 (kb ff (tn 1 (kb ff (tn 1 (kb tt (kb tt (kb tt (kb tt (kb tt (kb tt (kb tt (kb tt (tn 3 z)))))))))))))))))))) ?_
 exact eNs
theorem u32_to {s : ByteArray} {o : List DPair} (hQ : Qo s o) : CallTo Tryz.prog 37 [(.ptr 1000 0), (jL []), (.av (.val (.map none)))] (zb8 s o) [] (.av (.tup [(.sl []), (vI 0)])) (zb8 s o) [] := by
 refine bGs Tryz.func37 ?_
 refine gO (tn 6 z) ?_
 refine uN (sx 58 [(0, (.ptr 1000 0)), (2, (.av (.val (.map none)))), (8, .nil), (15, (jL [])), (16, (jI 0)), (17, (jI 0))] (zb8 s o) []) 60 ?_
 refine gO (tn 1 (kb ff z)) ?_
 refine uO (tn 3 z) ?_
 exact eNs
theorem u31_to {s : ByteArray} {o : List DPair} (hQ : Qo s o) : CallTo Tryz.prog 37 [(.ptr 1000 0), (jL [(.agg zl3), (.agg zl10)]), (.av (.val (.map none)))] (zb7 s o) [] (.av (.tup [(.sl [(.agg (zl1 s)), (.agg zl10)]), (vI 0)])) (zb8 s o) [] := by
 have ⟨hc, he, hs, hz, hes, ho⟩ := hQ.a
 refine bGs Tryz.func37 ?_
 refine gO (tn 6 z) ?_
 refine uN (sx 58 [(0, (.ptr 1000 0)), (2, (.av (.val (.map none)))), (8, .nil), (15, (jL [(.agg zl3), (.agg zl10)])), (16, (jI 2)), (17, (jI 0))] (zb7 s o) []) 60 ?_
 refine gO (tn 1 (kb tt (ke (el0 (.agg zl3) [(.agg zl10)]) (tn 6 (kb tt (tn 3 (kg (u15_to hQ) trivial (tn 7 (kb ff (tn 2 (kp (show Uni 10 [(.agg (zl1 s))] ∧ ([(.agg (zl1 s))] : List AV).length * 192 ≤ 140737488355328 from ⟨uni_one rfl rfl, by first | omega | (simp; done) | (simp; omega)⟩) (kw (show ([(.agg (zl1 s))] : List AV) = _ from rfl) (tn 1 (kn (wrE (0 + 1) 1 (by omega)) (tn 1 z))))))))))))))) ?_
 refine uA (sx 58 [(0, (.ptr 1000 0)), (2, (.av (.val (.map none)))), (8, (.own (36, 34) 1 10 [(.agg (zl1 s))])), (15, (jL [(.agg zl3), (.agg zl10)])), (16, (jI 2)), (17, (jI 1))] (zb8 s o) [((36, 34), 1)]) ?_
 refine gO (tn 1 (kb tt (ke (el1 (.agg zl3) (.agg zl10) []) (tn 6 (kb ff (tn 4 (kg (u32_to hQ) trivial (tn 7 (kb ff (tn 1 (kc (q192_to hQ.1) (tn 6 (kp (show Uni 10 [(.agg zl10)] from (uni_one rfl rfl)) (kp (show (1 : Nat) = 1 ∧ Uni 10 [(.agg zl10)] ∧ (([(.agg (zl1 s))] : List AV).length + ([(.agg zl10)] : List AV).length) * 192 ≤ 140737488355328 from ⟨rfl, uni_one rfl rfl, by first | omega | (simp; done) | (simp; omega)⟩) (kw (show ([(.agg (zl1 s)), (.agg zl10)] : List AV) = _ from rfl) (tn 1 (kn (wrE (1 + 1) 2 (by omega)) (tn 1 z)))))))))))))))))) ?_
 refine uA (sx 58 [(0, (.ptr 1000 0)), (2, (.av (.val (.map none)))), (8, (.own (36, 34) 2 10 [(.agg (zl1 s)), (.agg zl10)])), (15, (jL [(.agg zl3), (.agg zl10)])), (16, (jI 2)), (17, (jI 2))] (zb8 s o) [((36, 34), 2)]) ?_
 refine gO (tn 1 (kb ff z)) ?_
 refine uO (tn 3 z) ?_
 exact eNs
theorem u29_to {s : ByteArray} {o : List DPair} (hQ : Qo s o) : CallTo Tryz.prog 18 [(.ptr 1000 0), (jL [(.agg zl11)]), (.av (.val (.map none)))] (zb7 s o) [] (.av (.tup [(.sl [(.agg (zl22 s))]), (vI 0)])) (zb8 s o) [] := by
 have ⟨hc, he, hs, hz, hes, ho⟩ := hQ.a
 refine bGs Tryz.func18 ?_
 refine gO (tn 6 z) ?_
 refine uN (sx 105 [(0, (.ptr 1000 0)), (2, (.av (.val (.map none)))), (8, .nil), (19, (jL [(.agg zl11)])), (20, (jI 1)), (21, (jI 0))] (zb7 s o) []) 60 ?_
 refine gO (tn 1 (kb tt (ke (el0 (.agg zl11) []) (tn 4 (kc (q145_to hQ.1) (kb ff (tn 3 (kg (u30_to hQ) trivial (tn 7 (kb ff (tn 2 (kc (q189_to hQ.1) (tn 5 (kg (u31_to hQ) trivial (tn 7 (kb ff (tn 4 (kg (u17_to hQ) trivial (tn 7 (kb ff (tn 1 (kb tt (tn 1 (kc (q193_to hQ.1) (tn 3 (kc (q130_to hQ.1) (tn 11 (kb ff (tn 1 (kb ff (tn 1 (kb ff (tn 1 (kb ff (tn 1 (kb ff (tn 1 (kb ff (tn 1 (kb ff (tn 1 (kb ff (kb tt (tn 2 (kp (show Uni 11 [(.agg (zl22 s))] from (uni_one rfl rfl)) (kp (show Uni 11 [(.agg (zl22 s))] ∧ ([(.agg (zl22 s))] : List AV).length * 192 ≤ 140737488355328 from ⟨uni_one rfl rfl, by first | omega | (simp; done) | (simp; omega)⟩) (kw (show ([(.agg (zl22 s))] : List AV) = _ from rfl) (tn 1 (kn (wrE (0 + 1) 1 (by omega)) (tn 1 z)))))))))))))))))))))))))))))))))))))))))))))))))) ?_
 refine uA (sx 105 [(0, (.ptr 1000 0)), (2, (.av (.val (.map none)))), (8, (.own (102, 39) 1 11 [(.agg (zl22 s))])), (19, (jL [(.agg zl11)])), (20, (jI 1)), (21, (jI 1))] (zb8 s o) [((102, 39), 1)]) ?_
 refine gO (tn 1 (kb ff z)) ?_
 refine uO (tn 3 z) ?_
 exact eNs
theorem u28_to {s : ByteArray} {o : List DPair} (hQ : Qo s o) : CallTo Tryz.prog 11 [(.av (.agg [(.sl []), (.sl [(.agg zl11)])])), (jL (([DPair.mk (⟨#[118]⟩) s] ++ o).map aPair))] [] [] (.av (.tup [(.agg [(.sl []), (.sl [(.agg (zl22 s))])]), (vI 0)])) [] [] := by
 have ⟨hc, he, hs, hz, hes, ho⟩ := hQ.a
 refine bG Tryz.func11 ?_
 refine gO (tn 4 (kc (q84_to hQ.1) (tn 3 (kb ff (tn 1 (kc (q146_to hQ.1) (tn 7 (kb ff (tn 1 (kc (q171_to hQ.1) (tn 6 (kb ff (kq 10 z))))))))))))) ?_
 refine NXW (sx 71 [(2, (.ptr 2 0)), (4, (.ptr 4 0)), (11, (.ptr 20 0))] [(20, (.cells 83 [(.mp 16), (.mp 17), (.mp 18), (jI 0)])), (16, (.map ([]) ([]))), (17, (.map ((varsM ([DPair.mk (⟨#[118]⟩) s] ++ o)).1) ((varsM ([DPair.mk (⟨#[118]⟩) s] ++ o)).2))), (18, (.map ([]) ([]))), (4, (.cells 42 [.nil, .nil])), (2, (.cells 42 [(jL []), (jL [(.agg zl11)])]))] []) (tn 3 (kg (CallTo_ren (swap_inv (18, 0) (1003, 0) rfl) (CallTo_ren (swap_inv (17, 0) (1002, 0) rfl) (CallTo_ren (swap_inv (16, 0) (1001, 0) rfl) (CallTo_ren (swap_inv (20, 0) (1000, 0) rfl) (u29_to hQ))))) trivial (tn 7 (kb ff (tn 2 (kp (show Uni 2 [] ∧ ([] : List AV).length * 32 ≤ 140737488355328 from ⟨by simp [Uni, AV.cells, AV.isTup], by first | omega | (simp; done) | (simp; omega)⟩) (kw (show ([] : List AV) = _ from rfl) (tn 5 (kc (q197_to hQ.1) (tn 1 (kb ff (tn 1 (kc (q200_to hQ.1) (tn 2 (kb ff (tn 1 (kb ff (kc (q201_to hQ.1) (kb ff (tn 1 (kb ff (kb ff (tn 3 z))))))))))))))))))))))) (by kernel_rfl) (W_weak (S' := (sx 71 [(1, (jL (([DPair.mk (⟨#[118]⟩) s] ++ o).map aPair))), (2, (.ptr 2 0)), (4, (.ptr 4 0)), (7, (jL [])), (34, (jB false))] [(4, (.cells 42 [.nil, .nil])), (2, (.cells 42 [(jL []), (jL [(.agg zl11)])]))] [])) (WK (by kernel_rfl)) (W_code (c' := .region 10 (regOps 10 Tryz.f11) false) (by kernel_rfl) (rg12 hQ))) (by kernel_rfl) ?_
 exact eN
theorem rg13 {s : ByteArray} {o : List DPair} (hQ : Qo s o) : W Tryz.prog (.region 10 (regOps 10 Tryz.f11) false) (fun e S1 => e = .normal ∧ Weak S1 (sx 71 [(2, (.ptr 2 0)), (4, (.ptr 4 0)), (11, (.ptr 20 0))] [(20, (.cells 83 [(.mp 16), (.mp 17), (.mp 18), (jI 0)])), (16, (.map ([⟨#[118]⟩]) ([(.agg (zl18 s))]))), (17, (.map ((varsM o).1) ((varsM o).2))), (18, (.map ([]) ([]))), (4, (.cells 42 [.nil, .nil])), (2, (.cells 42 [(jL []), (jL [(.agg (zl6 s)), (.agg zl14)])]))] [])) (sx 71 [(1, (jL (o.map aPair))), (2, (.ptr 2 0)), (4, (.ptr 4 0)), (7, (jL [(.agg (zl18 s))])), (34, (jB false))] [(4, (.cells 42 [.nil, .nil])), (2, (.cells 42 [(jL []), (jL [(.agg (zl6 s)), (.agg zl14)])]))] []) := by
 have ⟨hc, he, hs, hz, hes, ho⟩ := hQ.a
 refine W_regionO ?_
 rw [show (regOps 10 Tryz.f11).toList = [regO 10 Tryz.f11 0, regO 10 Tryz.f11 1, regO 10 Tryz.f11 2, regO 10 Tryz.f11 3, regO 10 Tryz.f11 4, regO 10 Tryz.f11 5] by kernel_rfl]
 refine WO_pure (jL [(.agg (zl18 s))]) 36 (by kernel_rfl) (by kernel_rfl) ?_
 refine WO_pure (.ptr 2 0) 37 (by kernel_rfl) (by kernel_rfl) ?_
 refine WO_pure (jL []) 38 (by kernel_rfl) (by kernel_rfl) ?_
 refine WO_pure (jL (o.map aPair)) 39 (by kernel_rfl) (by kernel_rfl) ?_
 refine WO_new (nb := (zb3 s o)) (res := .ptr 20 0) (x := .func 17) (args := #[.tmp 36, .tmp 38, .tmp 39]) (tys := #[50, 23, 23]) (f := 17) (fs := []) (cs := []) 40 (by kernel_rfl) (by kernel_rfl) (by kernel_rfl) (nwc (nwx_to ([DMacro.mk (⟨#[118]⟩) ([]) ([DBlock.mk 1 0 (⟨#[]⟩) (⟨#[]⟩) (⟨#[]⟩) (⟨#[]⟩) (DAttr.mk (⟨#[]⟩) ([]) ([])) ([DInline.mk 1 s (⟨#[]⟩) (⟨#[]⟩) (DAttr.mk (⟨#[]⟩) ([]) ([])) ([]) ([]) ([])]) ([])])]) [] o (by show 1 ≤ 1073741824; decide) (by decide) (by first | omega | (rw [List.length_append]; show 1 + _ ≤ _; omega))) (by kernel_rfl)) (by kernel_rfl) (by kernel_rfl) ?_
 refine WO_pure (.ptr 20 0) 11 (by kernel_rfl) (by kernel_rfl) ?_
 exact WO_nil rfl ⟨rfl, WK (by kernel_rfl)⟩
theorem u35_to {s : ByteArray} {o : List DPair} (hQ : Qo s o) : CallTo Tryz.prog 34 [(.ptr 1000 0), (.av (.agg zl14)), (.av (.val (.map none)))] (zb4 s o) [] (.av (.tup [(.agg [(vS (⟨#[]⟩)), (.sl []), (.sl [])]), (vB false)])) (zb4 s o) [] := by
 refine bGs Tryz.func34 ?_
 refine gO (tn 7 (kb ff (tn 1 (kb ff (tn 1 (kb ff (tn 1 (kb ff (tn 1 (kb ff (tn 1 (kb tt (kb tt (kb tt (kb tt (kb tt (kb tt (kb tt (kb tt (tn 3 z)))))))))))))))))))) ?_
 exact eNs
theorem q203_to {s : ByteArray} (hQ : Qs s) : CallTo Tryz.prog 36 [(jL [(.agg zl13), (.agg zl3)])] [] [] (jB true) [] [] := by
 have ⟨hc, he, hs, hz, hes⟩ := hQ.a
 refine bG Tryz.func36 ?_
 refine gO (tn 4 z) ?_
 refine uN (sx 20 [(5, (jL [(.agg zl13), (.agg zl3)])), (6, (jI 2)), (7, (jI 0))] [] []) 60 ?_
 refine gO (tn 1 (kb tt (ke (el0 (.agg zl13) [(.agg zl3)]) (tn 7 (kb ff (tn 1 (kb ff (tn 1 (kb ff (kc (q164_to hQ) (kb ff (kb ff (kn (wrE (0 + 1) 1 (by omega)) (tn 1 z)))))))))))))) ?_
 refine uA (sx 20 [(5, (jL [(.agg zl13), (.agg zl3)])), (6, (jI 2)), (7, (jI 1))] [] []) ?_
 refine gO (tn 1 (kb tt (ke (el1 (.agg zl13) (.agg zl3) []) (tn 7 (kb tt (kb tt (kb tt (kb tt (kb tt (tn 1 z)))))))))) ?_
 refine uO z ?_
 exact eN
theorem u37_to {s : ByteArray} {o : List DPair} (hQ : Qo s o) : CallTo Tryz.prog 37 [(.ptr 1000 0), (jL []), (.av (.val (.map none)))] (zb4 s o) [] (.av (.tup [(.sl []), (vI 0)])) (zb4 s o) [] := by
 refine bGs Tryz.func37 ?_
 refine gO (tn 6 z) ?_
 refine uN (sx 58 [(0, (.ptr 1000 0)), (2, (.av (.val (.map none)))), (8, .nil), (15, (jL [])), (16, (jI 0)), (17, (jI 0))] (zb4 s o) []) 60 ?_
 refine gO (tn 1 (kb ff z)) ?_
 refine uO (tn 3 z) ?_
 exact eNs
theorem q204_to {s : ByteArray} (hQ : Qs s) : CallTo Tryz.prog 58 [(.av (.agg zl13))] [] [] (.av (.agg zl13)) [] [] := by
 have ⟨hc, he, hs, hz, hes⟩ := hQ.a
 refine bG Tryz.func58 ?_
 refine gO (tn 4 (kc (q130_to hQ) (tn 4 (kp (show Uni 1 [] ∧ ([] : List AV).length * 16 ≤ 140737488355328 from ⟨by simp [Uni, AV.cells, AV.isTup], by first | omega | (simp; done) | (simp; omega)⟩) (kw (show ([] : List AV) = _ from rfl) (tn 4 (kp (show Uni 4 [] ∧ ([] : List AV).length * 56 ≤ 140737488355328 from ⟨by simp [Uni, AV.cells, AV.isTup], by first | omega | (simp; done) | (simp; omega)⟩) (kw (show ([] : List AV) = _ from rfl) (tn 4 z))))))))) ?_
 exact eN
theorem u36_to {s : ByteArray} {o : List DPair} (hQ : Qo s o) : CallTo Tryz.prog 37 [(.ptr 1000 0), (jL [(.agg zl13), (.agg zl3)]), (.av (.val (.map none)))] (zb4 s o) [] (.av (.tup [(.sl [(.agg zl13), (.agg (zl1 s))]), (vI 0)])) (zb9 s o) [] := by
 have ⟨hc, he, hs, hz, hes, ho⟩ := hQ.a
 refine bGs Tryz.func37 ?_
 refine gO (tn 6 z) ?_
 refine uN (sx 58 [(0, (.ptr 1000 0)), (2, (.av (.val (.map none)))), (8, .nil), (15, (jL [(.agg zl13), (.agg zl3)])), (16, (jI 2)), (17, (jI 0))] (zb4 s o) []) 60 ?_
 refine gO (tn 1 (kb tt (ke (el0 (.agg zl13) [(.agg zl3)]) (tn 6 (kb ff (tn 4 (kg (u37_to hQ) trivial (tn 7 (kb ff (tn 1 (kc (q204_to hQ.1) (tn 6 (kp (show Uni 10 [(.agg zl13)] from (uni_one rfl rfl)) (kp (show Uni 10 [(.agg zl13)] ∧ ([(.agg zl13)] : List AV).length * 192 ≤ 140737488355328 from ⟨uni_one rfl rfl, by first | omega | (simp; done) | (simp; omega)⟩) (kw (show ([(.agg zl13)] : List AV) = _ from rfl) (tn 1 (kn (wrE (0 + 1) 1 (by omega)) (tn 1 z)))))))))))))))))) ?_
 refine uA (sx 58 [(0, (.ptr 1000 0)), (2, (.av (.val (.map none)))), (8, (.own (55, 34) 1 10 [(.agg zl13)])), (15, (jL [(.agg zl13), (.agg zl3)])), (16, (jI 2)), (17, (jI 1))] (zb4 s o) [((55, 34), 1)]) ?_
 refine gO (tn 1 (kb tt (ke (el1 (.agg zl13) (.agg zl3) []) (tn 6 (kb tt (tn 3 (kg (u22_to hQ) trivial (tn 7 (kb ff (tn 2 (kp (show (1 : Nat) = 1 ∧ Uni 10 [(.agg (zl1 s))] ∧ (([(.agg zl13)] : List AV).length + ([(.agg (zl1 s))] : List AV).length) * 192 ≤ 140737488355328 from ⟨rfl, uni_one rfl rfl, by first | omega | (simp; done) | (simp; omega)⟩) (kw (show ([(.agg zl13), (.agg (zl1 s))] : List AV) = _ from rfl) (tn 1 (kn (wrE (1 + 1) 2 (by omega)) (tn 1 z))))))))))))))) ?_
 refine uA (sx 58 [(0, (.ptr 1000 0)), (2, (.av (.val (.map none)))), (8, (.own (55, 34) 2 10 [(.agg zl13), (.agg (zl1 s))])), (15, (jL [(.agg zl13), (.agg zl3)])), (16, (jI 2)), (17, (jI 2))] (zb9 s o) [((55, 34), 2)]) ?_
 refine gO (tn 1 (kb ff z)) ?_
 refine uO (tn 3 z) ?_
 exact eNs
theorem q206_to {s : ByteArray} (hQ : Qs s) : CallTo Tryz.prog 61 [(jL [(.agg zl13), (.agg (zl1 s))])] [] [] (jL [(.agg zl13), (.agg (zl1 s))]) [] [] := by
 have ⟨hc, he, hs, hz, hes⟩ := hQ.a
 refine bG Tryz.func61 ?_
 refine gO (tn 5 z) ?_
 refine uN (sx 32 [(3, .nil), (6, (jL [(.agg zl13), (.agg (zl1 s))])), (7, (jI 2)), (8, (jI 0))] [] []) 60 ?_
 refine gO (tn 1 (kb tt (ke (el0 (.agg zl13) [(.agg (zl1 s))]) (tn 5 (kc (q176_to hQ) (tn 6 (kb ff (tn 2 (kb ff (tn 2 (kb ff (tn 2 (kp (show Uni 10 [(.agg zl13)] from (uni_one rfl rfl)) (kp (show Uni 10 [(.agg zl13)] ∧ ([(.agg zl13)] : List AV).length * 192 ≤ 140737488355328 from ⟨uni_one rfl rfl, by first | omega | (simp; done) | (simp; omega)⟩) (kw (show ([(.agg zl13)] : List AV) = _ from rfl) (tn 1 (kn (wrE (0 + 1) 1 (by omega)) (tn 1 z)))))))))))))))))) ?_
 refine uA (sx 32 [(3, (.own (29, 34) 1 10 [(.agg zl13)])), (6, (jL [(.agg zl13), (.agg (zl1 s))])), (7, (jI 2)), (8, (jI 1))] [] [((29, 34), 1)]) ?_
 refine gO (tn 1 (kb tt (ke (el1 (.agg zl13) (.agg (zl1 s)) []) (tn 5 (kc (q176_to hQ) (tn 6 (kb ff (tn 2 (kb ff (tn 2 (kb ff (tn 2 (kp (show Uni 10 [(.agg (zl1 s))] from (uni_one rfl rfl)) (kp (show (1 : Nat) = 1 ∧ Uni 10 [(.agg (zl1 s))] ∧ (([(.agg zl13)] : List AV).length + ([(.agg (zl1 s))] : List AV).length) * 192 ≤ 140737488355328 from ⟨rfl, uni_one rfl rfl, by first | omega | (simp; done) | (simp; omega)⟩) (kw (show ([(.agg zl13), (.agg (zl1 s))] : List AV) = _ from rfl) (tn 1 (kn (wrE (1 + 1) 2 (by omega)) (tn 1 z)))))))))))))))))) ?_
 refine uA (sx 32 [(3, (.own (29, 34) 2 10 [(.agg zl13), (.agg (zl1 s))])), (6, (jL [(.agg zl13), (.agg (zl1 s))])), (7, (jI 2)), (8, (jI 2))] [] [((29, 34), 2)]) ?_
 refine gO (tn 1 (kb ff z)) ?_
 refine uO (tn 2 z) ?_
 exact eN
theorem q208_to {s : ByteArray} (hQ : Qs s) : CallTo Tryz.prog 78 [(.av (.agg zl13))] [] [] (.av (.agg zl13)) [] [] := by
 refine bG Tryz.func78 ?_
 refine gO (tn 4 (kc (q179_to hQ) (tn 4 (kc (clnS_to ([]) (by decide)) (tn 4 (kc (clnC_to ([]) (by decide)) (tn 4 (kc (q180_to hQ) (tn 4 z))))))))) ?_
 exact eN
theorem q207_to {s : ByteArray} (hQ : Qs s) : CallTo Tryz.prog 60 [(jL [(.agg zl13), (.agg (zl1 s))])] [] [] (jL [(.agg (zl23 s))]) [] [] := by
 have ⟨hc, he, hs, hz, hes⟩ := hQ.a
 refine bG Tryz.func60 ?_
 refine gO (tn 3 z) ?_
 refine uN (sx 73 [(0, (jL [(.agg zl13), (.agg (zl1 s))])), (3, .nil), (4, (jI 0))] [] []) 60 ?_
 refine gO (tn 4 (kb tt (tn 2 (ke (el0 (.agg zl13) [(.agg (zl1 s))]) (tn 3 (kb ff (tn 2 z))))))) ?_
 refine uN (sx 73 [(0, (jL [(.agg zl13), (.agg (zl1 s))])), (3, .nil), (4, (jI 0)), (5, (jI (-1))), (6, (.ptr 6 0))] [(6, (.cells 133 [(.av (.val (.pointer none))), .nil]))] []) 60 ?_
 refine gO (tn 5 (kb tt (tn 1 (kb tt (tn 1 (kb tt (ke (el0 (.agg zl13) [(.agg (zl1 s))]) (kb tt (tn 1 (kb tt (tn 1 (kb tt (tn 1 (kb tt (kb tt (tn 3 (kb tt (tn 1 (kb tt (tn 1 (kb tt (ke (el0 (.agg zl13) [(.agg (zl1 s))]) (kb tt (tn 1 (kb tt (tn 1 (kb tt (tn 1 (kb tt (kb (show (!eqs (⟨#[111, 110, 101, 32]⟩) (⟨#[]⟩)) = true from (by rw [show eqs (⟨#[111, 110, 101, 32]⟩) (⟨#[]⟩) = false from (by kernel_rfl)]; rfl)) (tn 2 (kq 13 z)))))))))))))))))))))))))))))))) ?_
 refine RT [(6, 0, (.son 6)), (6, 1, (.own (1300, 6) 0 1 (bytesAV (⟨#[]⟩))))] (ac (show (AV.val (.pointer none)) = .val (.pointer none) from rfl) (ac (show (bytesAV ⟨#[]⟩ : List AV) = [] ∧ 0 < 6 ∧ (0 : Nat) = 0 from ⟨rfl, by decide, rfl⟩) an)) (by kernel_rfl) ?_
 refine gO (tn 2 (ke (el0 (.agg zl13) [(.agg (zl1 s))]) (tn 2 (kg (CallTo_ren (swap_inv (6, 0) (1000, 0) rfl) (WriteString_to (⟨#[]⟩) (⟨#[111, 110, 101, 32]⟩) 0 (by simp only [ByteArray.size_append, szA, szB, szE]; omega))) (show (0 : Nat) = 0 ∧ True from ⟨rfl, trivial⟩) (tn 1 (kn (wrE (0 + 1) 1 (by omega)) (tn 1 z))))))) ?_
 refine uA (sx 73 [(0, (jL [(.agg zl13), (.agg (zl1 s))])), (3, .nil), (4, (jI 1)), (5, (jI 0)), (6, (.ptr 6 0))] [(6, (.cells 133 [(.son 6), (.own (1300, 6) 1 1 (bytesAV ((⟨#[]⟩) ++ (⟨#[111, 110, 101, 32]⟩))))]))] [((1300, 6), 1)]) ?_
 refine gO (tn 5 (kb tt (tn 1 (kb tt (tn 1 (kb tt (ke (el1 (.agg zl13) (.agg (zl1 s)) []) (kb tt (tn 1 (kb tt (tn 1 (kb tt (tn 1 (kb tt (kb tt (tn 3 (kb ff (kb ff (kb ff (kb ff (kb ff (kb ff (kb ff (kb ff (kq 13 z))))))))))))))))))))))))) ?_
 refine RT [] an (by kernel_rfl) ?_
 refine gO (tn 2 (ke (el1 (.agg zl13) (.agg (zl1 s)) []) (tn 2 (kg (CallTo_ren (swap_inv (6, 0) (1000, 0) rfl) (WriteString_to ((⟨#[]⟩) ++ (⟨#[111, 110, 101, 32]⟩)) s 1 (by simp only [ByteArray.size_append, szA, szB, szE]; omega))) (show (1 : Nat) = 1 ∧ True from ⟨rfl, trivial⟩) (tn 1 (kn (wrE (1 + 1) 2 (by omega)) (tn 1 z))))))) ?_
 refine uA (sx 73 [(0, (jL [(.agg zl13), (.agg (zl1 s))])), (3, .nil), (4, (jI 2)), (5, (jI 0)), (6, (.ptr 6 0))] [(6, (.cells 133 [(.son 6), (.own (1300, 6) 2 1 (bytesAV (((⟨#[]⟩) ++ (⟨#[111, 110, 101, 32]⟩)) ++ s)))]))] [((1300, 6), 2)]) ?_
 refine gO (tn 5 (kb ff (kb ff (kb ff (kb ff (kb ff (kb ff (kb ff (kb ff z))))))))) ?_
 refine uO (tn 2 (kb tt (tn 2 (ke (el0 (.agg zl13) [(.agg (zl1 s))]) (tn 1 (kc (q208_to hQ) (tn 2 (kg (CallTo_ren (swap_inv (6, 0) (1000, 0) rfl) (String_to (.son 1000) 1300 2 (((⟨#[]⟩) ++ (⟨#[111, 110, 101, 32]⟩)) ++ s) (by simp only [ByteArray.size_append, szA, szB, szE]; omega) (by simp only [ByteArray.size_append, szA, szB, szE]; omega))) (show (2 : Nat) = 2 ∧ True from ⟨rfl, trivial⟩) (tn 4 (kp (show Uni 10 [(.agg (zl23 s))] from (uni_one rfl rfl)) (kp (show Uni 10 [(.agg (zl23 s))] ∧ ([(.agg (zl23 s))] : List AV).length * 192 ≤ 140737488355328 from ⟨uni_one rfl rfl, by first | omega | (simp; done) | (simp; omega)⟩) (kw (show ([(.agg (zl23 s))] : List AV) = _ from rfl) (tn 1 z))))))))))))) ?_
 refine uA (sx 73 [(0, (jL [(.agg zl13), (.agg (zl1 s))])), (3, (.own (71, 34) 1 10 [(.agg (zl23 s))])), (4, (jI 2))] [] [((71, 34), 1), ((1300, 6), 3)]) ?_
 refine gO (tn 4 (kb ff z)) ?_
 refine uO (tn 2 z) ?_
 exact eN
theorem q209_to {s : ByteArray} (hQ : Qs s) : CallTo Tryz.prog 59 [(jL [(.agg (zl23 s))])] [] [] (jL [(.agg (zl23 s))]) [] [] := by
 have ⟨hc, he, hs, hz, hes⟩ := hQ.a
 refine bG Tryz.func59 ?_
 refine gO (tn 6 z) ?_
 refine uN (sx 38 [(3, .nil), (4, (jB false)), (7, (jL [(.agg (zl23 s))])), (8, (jI 1)), (9, (jI 0))] [] []) 60 ?_
 refine gO (tn 1 (kb tt (ke (el0 (.agg (zl23 s)) []) (tn 5 (kc (q182_to hQ) (tn 6 (kb tt (kb tt (kb tt (kb tt (tn 2 (kp (show Uni 10 [(.agg (zl23 s))] from (uni_one rfl rfl)) (kp (show Uni 10 [(.agg (zl23 s))] ∧ ([(.agg (zl23 s))] : List AV).length * 192 ≤ 140737488355328 from ⟨uni_one rfl rfl, by first | omega | (simp; done) | (simp; omega)⟩) (kw (show ([(.agg (zl23 s))] : List AV) = _ from rfl) (tn 5 (kb ff (tn 1 (kb ff (tn 1 (kb ff (tn 1 (kb ff (tn 1 (kn (wrE (0 + 1) 1 (by omega)) (tn 1 z))))))))))))))))))))))))) ?_
 refine uA (sx 38 [(3, (.own (27, 34) 1 10 [(.agg (zl23 s))])), (4, (jB false)), (7, (jL [(.agg (zl23 s))])), (8, (jI 1)), (9, (jI 1))] [] [((27, 34), 1)]) ?_
 refine gO (tn 1 (kb ff z)) ?_
 refine uO (tn 2 z) ?_
 exact eN
theorem q205_to {s : ByteArray} (hQ : Qs s) : CallTo Tryz.prog 38 [(jL [(.agg zl13), (.agg (zl1 s))])] [] [] (jL [(.agg (zl23 s))]) [] [] := by
 have ⟨hc, he, hs, hz, hes⟩ := hQ.a
 refine bG Tryz.func38 ?_
 refine gO (tn 2 (kc (q206_to hQ) (kc (q207_to hQ) (kc (q209_to hQ) (tn 5 (kb tt (tn 1 (kb tt (ke (el0 (.agg (zl23 s)) []) (kb tt (tn 1 (kb tt (tn 1 (kb tt (tn 1 (kb tt (kb ff z))))))))))))))))) ?_
 refine uN (sx 48 [(0, (jL [(.agg (zl23 s))]))] [] []) 60 ?_
 refine gO (tn 4 (kb tt (tn 1 (kb tt (tn 1 (kb tt (tn 1 (kb tt (kn (wrE (1 - 1) 0 (by omega)) (kb tt (ke (el0 (.agg (zl23 s)) []) (kb tt (tn 1 (kb tt (tn 1 (kb tt (tn 1 (kb tt (tn 1 (kb ff (tn 1 (kb ff (tn 1 (kb ff (tn 1 (kb ff (kn (wrE (1 - 1) 0 (by omega)) (kb ff (ke (el0 (.agg (zl23 s)) []) (kb ff (tn 1 (kb ff (tn 1 (kb ff (tn 1 (kb tt (kb ff (kb tt (kb ff z))))))))))))))))))))))))))))))))))))))) ?_
 refine uO (tn 2 z) ?_
 exact eN
theorem u34_to {s : ByteArray} {o : List DPair} (hQ : Qo s o) : CallTo Tryz.prog 18 [(.ptr 1000 0), (jL [(.agg (zl6 s)), (.agg zl14)]), (.av (.val (.map none)))] (zb4 s o) [] (.av (.tup [(.sl [(.agg (zl24 s))]), (vI 0)])) (zb9 s o) [] := by
 have ⟨hc, he, hs, hz, hes, ho⟩ := hQ.a
 refine bGs Tryz.func18 ?_
 refine gO (tn 6 z) ?_
 refine uN (sx 105 [(0, (.ptr 1000 0)), (2, (.av (.val (.map none)))), (8, .nil), (19, (jL [(.agg (zl6 s)), (.agg zl14)])), (20, (jI 2)), (21, (jI 0))] (zb4 s o) []) 60 ?_
 refine gO (tn 1 (kb tt (ke (el0 (.agg (zl6 s)) [(.agg zl14)]) (tn 4 (kc (q124_to hQ.1) (kb (show eqs (⟨#[109, 97, 99, 114, 111]⟩) (⟨#[109, 97, 99, 114, 111]⟩) = true from (by kernel_rfl)) (kn (wrE (0 + 1) 1 (by omega)) (tn 1 z)))))))) ?_
 refine uA (sx 105 [(0, (.ptr 1000 0)), (2, (.av (.val (.map none)))), (8, .nil), (19, (jL [(.agg (zl6 s)), (.agg zl14)])), (20, (jI 2)), (21, (jI 1))] (zb4 s o) []) ?_
 refine gO (tn 1 (kb tt (ke (el1 (.agg (zl6 s)) (.agg zl14) []) (tn 4 (kc (q150_to hQ.1) (kb ff (tn 3 (kg (u35_to hQ) trivial (tn 7 (kb ff (tn 2 (kc (q203_to hQ.1) (tn 5 (kg (u36_to hQ) trivial (tn 7 (kb ff (tn 4 (kg (u27_to hQ) trivial (tn 7 (kb ff (tn 1 (kb tt (tn 1 (kc (q205_to hQ.1) (tn 3 (kc (q130_to hQ.1) (tn 11 (kb ff (tn 1 (kb ff (tn 1 (kb ff (tn 1 (kb ff (tn 1 (kb ff (tn 1 (kb ff (tn 1 (kb ff (tn 1 (kb ff (kb tt (tn 2 (kp (show Uni 11 [(.agg (zl24 s))] from (uni_one rfl rfl)) (kp (show Uni 11 [(.agg (zl24 s))] ∧ ([(.agg (zl24 s))] : List AV).length * 192 ≤ 140737488355328 from ⟨uni_one rfl rfl, by first | omega | (simp; done) | (simp; omega)⟩) (kw (show ([(.agg (zl24 s))] : List AV) = _ from rfl) (tn 1 (kn (wrE (1 + 1) 2 (by omega)) (tn 1 z)))))))))))))))))))))))))))))))))))))))))))))))))) ?_
 refine uA (sx 105 [(0, (.ptr 1000 0)), (2, (.av (.val (.map none)))), (8, (.own (102, 39) 1 11 [(.agg (zl24 s))])), (19, (jL [(.agg (zl6 s)), (.agg zl14)])), (20, (jI 2)), (21, (jI 2))] (zb9 s o) [((102, 39), 1)]) ?_
 refine gO (tn 1 (kb ff z)) ?_
 refine uO (tn 3 z) ?_
 exact eNs
theorem q212_to {s : ByteArray} (hQ : Qs s) : CallTo Tryz.prog 62 [(jL [(.agg (zl23 s))])] [] [] (jI 1) [] [] := by
 have ⟨hc, he, hs, hz, hes⟩ := hQ.a
 refine bG Tryz.func62 ?_
 refine gO (tn 7 z) ?_
 refine uN (sx 22 [(0, (jL [(.agg (zl23 s))])), (3, (jI 1)), (8, (jI 1)), (9, (jI 0))] [] []) 60 ?_
 refine gO (tn 1 (kb tt (tn 5 (ke (el0 (.agg (zl23 s)) []) (tn 2 (kc (q4_to hQ) (kn (wrE (1 + 0) 1 (by omega)) (tn 1 (kn (wrE (0 + 1) 1 (by omega)) (tn 1 z)))))))))) ?_
 refine uA (sx 22 [(0, (jL [(.agg (zl23 s))])), (3, (jI 1)), (8, (jI 1)), (9, (jI 1))] [] []) ?_
 refine gO (tn 1 (kb ff z)) ?_
 refine uO (tn 2 z) ?_
 exact eN
theorem q211_to {s : ByteArray} (hQ : Qs s) : CallTo Tryz.prog 40 [(jL [(.agg (zl24 s))])] [] [] (jI 2) [] [] := by
 have ⟨hc, he, hs, hz, hes⟩ := hQ.a
 refine bG Tryz.func40 ?_
 refine gO (tn 7 z) ?_
 refine uN (sx 29 [(0, (jL [(.agg (zl24 s))])), (3, (jI 1)), (8, (jI 1)), (9, (jI 0))] [] []) 60 ?_
 refine gO (tn 1 (kb tt (tn 2 z))) ?_
 have d1 := (el0 (.agg (zl24 s)) [])
 have d2 := (q212_to hQ)
 have d3 := (el0 (.agg (zl24 s)) [])
 have d4 := (q7_to hQ)
 have d5 := wrE (1 + 0) 1 (by omega)
 have d6 := wrE (1 + 1) 2 (by omega)
 refine DR3 (tn 3 (ko (eO d1) (kp d1 (tn 2 (ko (cO d2) (kp d2 (tn 3 (ko (eO d3) (kp d3 (tn 2 (ko (cO d4) (kp d4 (tn 1 (ko (nO d5) (kp d5 (ko (nO d6) (kp d6 (tn 1 (kn (wrE (0 + 1) 1 (by omega)) (tn 1 z)))))))))))))))))))) (by kernel_rfl) (by kernel_rfl) (by kernel_rfl) ?_
 refine uA (sx 29 [(0, (jL [(.agg (zl24 s))])), (3, (jI 2)), (8, (jI 1)), (9, (jI 1)), (12, (jI 1)), (13, (jL [(.agg (zl24 s))])), (14, (jI 0)), (15, (.av (.ro (zl24 s) 0))), (16, (.av (.ro (zl24 s) 9))), (17, (jL [(.agg (zl23 s))])), (18, (jI 1)), (19, (jL [(.agg (zl24 s))])), (20, (jI 0)), (21, (.av (.ro (zl24 s) 0))), (22, (.av (.ro (zl24 s) 10))), (23, (jL [])), (24, (jI 0)), (25, (jI 1)), (26, (jI 2))] [] []) ?_
 refine gO (tn 1 (kb ff z)) ?_
 refine uO (tn 2 z) ?_
 exact eN
theorem q210_to {s : ByteArray} (hQ : Qs s) : CallTo Tryz.prog 19 [(.av (.agg [(.sl []), (.sl [(.agg (zl24 s))])]))] [] [] (jI 2) [] [] := by
 refine bG Tryz.func19 ?_
 refine gO (tn 4 (kc (q211_to hQ) (tn 1 z))) ?_
 exact eN
theorem q213_to {s : ByteArray} (hQ : Qs s) : CallTo Tryz.prog 20 [(jL [(.agg (zl24 s))])] [] [] (jI 1) [] [] := by
 have ⟨hc, he, hs, hz, hes⟩ := hQ.a
 refine bG Tryz.func20 ?_
 refine gO (tn 5 z) ?_
 refine uN (sx 21 [(0, (jL [(.agg (zl24 s))])), (3, (jI 0)), (6, (jI 1)), (7, (jI 0))] [] []) 60 ?_
 refine gO (tn 1 (kb tt (tn 5 (ke (el0 (.agg (zl24 s)) []) (tn 2 (kc (q166_to hQ) (kn (wrE (1 + 0) 1 (by omega)) (tn 2 (kn (wrE (0 + 1) 1 (by omega)) (tn 1 z)))))))))) ?_
 refine uA (sx 21 [(0, (jL [(.agg (zl24 s))])), (3, (jI 1)), (6, (jI 1)), (7, (jI 1))] [] []) ?_
 refine gO (tn 1 (kb ff z)) ?_
 refine uO (tn 2 z) ?_
 exact eN
theorem q215_to {s : ByteArray} (hQ : Qs s) : CallTo Tryz.prog 41 [(jL [(.agg (zl23 s))])] [] [] (jI 1) [] [] := by
 have ⟨hc, he, hs, hz, hes⟩ := hQ.a
 refine bG Tryz.func41 ?_
 refine gO (tn 5 z) ?_
 refine uN (sx 20 [(3, (jI 0)), (6, (jL [(.agg (zl23 s))])), (7, (jI 1)), (8, (jI 0))] [] []) 60 ?_
 refine gO (tn 1 (kb tt (ke (el0 (.agg (zl23 s)) []) (tn 6 (kc (q169_to hQ) (kn (wrE (1 + 0) 1 (by omega)) (tn 2 (kn (wrE (0 + 1) 1 (by omega)) (tn 1 z))))))))) ?_
 refine uA (sx 20 [(3, (jI 1)), (6, (jL [(.agg (zl23 s))])), (7, (jI 1)), (8, (jI 1))] [] []) ?_
 refine gO (tn 1 (kb ff z)) ?_
 refine uO (tn 2 z) ?_
 exact eN
theorem q214_to {s : ByteArray} (hQ : Qs s) : CallTo Tryz.prog 21 [(jL [(.agg (zl24 s))])] [] [] (jI 1) [] [] := by
 have ⟨hc, he, hs, hz, hes⟩ := hQ.a
 refine bG Tryz.func21 ?_
 refine gO (tn 5 z) ?_
 refine uN (sx 22 [(3, (jI 0)), (6, (jL [(.agg (zl24 s))])), (7, (jI 1)), (8, (jI 0))] [] []) 60 ?_
 refine gO (tn 1 (kb tt (ke (el0 (.agg (zl24 s)) []) (tn 3 z)))) ?_
 have d1 := (q215_to hQ)
 have d2 := (q170_to hQ)
 refine DR3 (tn 3 (ko (cO d1) (kp d1 (tn 3 (ko (cO d2) (kp d2 (tn 3 (kn (wrE (0 + 1) 1 (by omega)) (tn 1 z))))))))) (by kernel_rfl) (by kernel_rfl) (by kernel_rfl) ?_
 refine uA (sx 22 [(3, (jI 1)), (6, (jL [(.agg (zl24 s))])), (7, (jI 1)), (8, (jI 1)), (12, (jI 0)), (13, (.ptr 5 9)), (14, (jL [(.agg (zl23 s))])), (15, (jI 1)), (16, (.ptr 5 10)), (17, (jL [])), (18, (jI 0)), (19, (jI 1))] [(5, (.cells 38 [(jI 1), (jI 0), (jS (⟨#[]⟩)), (jS (⟨#[]⟩)), (jS (⟨#[]⟩)), (jS (⟨#[]⟩)), (jS (⟨#[]⟩)), (jL []), (jL []), (jL [(.agg (zl23 s))]), (jL [])]))] []) ?_
 refine gO (tn 1 (kb ff z)) ?_
 refine uO (tn 2 z) ?_
 exact eN
theorem u33_to {s : ByteArray} {o : List DPair} (hQ : Qo s o) : CallTo Tryz.prog 11 [(.av (.agg (zl15 s))), (jL (o.map aPair))] [] [] (.av (.tup [(.agg [(.sl []), (.sl [(.agg (zl24 s))])]), (vI 0)])) [] [] := by
 have ⟨hc, he, hs, hz, hes, ho⟩ := hQ.a
 refine bG Tryz.func11 ?_
 refine gO (tn 4 (kc (q89_to hQ.1) (tn 3 (kb ff (tn 1 (kc (q148_to hQ.1) (tn 7 (kb ff (tn 1 (kc (q158_to hQ.1) (tn 6 (kb ff (kq 10 z))))))))))))) ?_
 refine NXW (sx 71 [(2, (.ptr 2 0)), (4, (.ptr 4 0)), (11, (.ptr 20 0))] [(20, (.cells 83 [(.mp 16), (.mp 17), (.mp 18), (jI 0)])), (16, (.map ([⟨#[118]⟩]) ([(.agg (zl18 s))]))), (17, (.map ((varsM o).1) ((varsM o).2))), (18, (.map ([]) ([]))), (4, (.cells 42 [.nil, .nil])), (2, (.cells 42 [(jL []), (jL [(.agg (zl6 s)), (.agg zl14)])]))] []) (tn 3 (kg (CallTo_ren (swap_inv (18, 0) (1003, 0) rfl) (CallTo_ren (swap_inv (17, 0) (1002, 0) rfl) (CallTo_ren (swap_inv (16, 0) (1001, 0) rfl) (CallTo_ren (swap_inv (20, 0) (1000, 0) rfl) (u34_to hQ))))) trivial (tn 7 (kb ff (tn 2 (kp (show Uni 2 [] ∧ ([] : List AV).length * 32 ≤ 140737488355328 from ⟨by simp [Uni, AV.cells, AV.isTup], by first | omega | (simp; done) | (simp; omega)⟩) (kw (show ([] : List AV) = _ from rfl) (tn 5 (kc (q210_to hQ.1) (tn 1 (kb ff (tn 1 (kc (q213_to hQ.1) (tn 2 (kb ff (tn 1 (kb ff (kc (q214_to hQ.1) (kb ff (tn 1 (kb ff (kb ff (tn 3 z))))))))))))))))))))))) (by kernel_rfl) (W_weak (S' := (sx 71 [(1, (jL (o.map aPair))), (2, (.ptr 2 0)), (4, (.ptr 4 0)), (7, (jL [(.agg (zl18 s))])), (34, (jB false))] [(4, (.cells 42 [.nil, .nil])), (2, (.cells 42 [(jL []), (jL [(.agg (zl6 s)), (.agg zl14)])]))] [])) (WK (by kernel_rfl)) (W_code (c' := .region 10 (regOps 10 Tryz.f11) false) (by kernel_rfl) (rg13 hQ))) (by kernel_rfl) ?_
 exact eN
theorem rg14 {s : ByteArray} {o : List DPair} (hQ : Qo s o) : W Tryz.prog (.region 10 (regOps 10 Tryz.f11) false) (fun e S1 => e = .normal ∧ Weak S1 (sx 71 [(2, (.ptr 2 0)), (4, (.ptr 4 0)), (11, (.ptr 20 0))] [(20, (.cells 83 [(.mp 16), (.mp 17), (.mp 18), (jI 0)])), (16, (.map ([]) ([]))), (17, (.map ((varsM ([DPair.mk (⟨#[118]⟩) s] ++ o)).1) ((varsM ([DPair.mk (⟨#[118]⟩) s] ++ o)).2))), (18, (.map ([]) ([]))), (4, (.cells 42 [.nil, .nil])), (2, (.cells 42 [(jL []), (jL [(.agg zl14)])]))] [])) (sx 71 [(1, (jL (([DPair.mk (⟨#[118]⟩) s] ++ o).map aPair))), (2, (.ptr 2 0)), (4, (.ptr 4 0)), (7, (jL [])), (34, (jB false))] [(4, (.cells 42 [.nil, .nil])), (2, (.cells 42 [(jL []), (jL [(.agg zl14)])]))] []) := by
 have ⟨hc, he, hs, hz, hes, ho⟩ := hQ.a
 refine W_regionO ?_
 rw [show (regOps 10 Tryz.f11).toList = [regO 10 Tryz.f11 0, regO 10 Tryz.f11 1, regO 10 Tryz.f11 2, regO 10 Tryz.f11 3, regO 10 Tryz.f11 4, regO 10 Tryz.f11 5] by kernel_rfl]
 refine WO_pure (jL []) 36 (by kernel_rfl) (by kernel_rfl) ?_
 refine WO_pure (.ptr 2 0) 37 (by kernel_rfl) (by kernel_rfl) ?_
 refine WO_pure (jL []) 38 (by kernel_rfl) (by kernel_rfl) ?_
 refine WO_pure (jL (([DPair.mk (⟨#[118]⟩) s] ++ o).map aPair)) 39 (by kernel_rfl) (by kernel_rfl) ?_
 refine WO_new (nb := (zb6 s o)) (res := .ptr 20 0) (x := .func 17) (args := #[.tmp 36, .tmp 38, .tmp 39]) (tys := #[50, 23, 23]) (f := 17) (fs := []) (cs := []) 40 (by kernel_rfl) (by kernel_rfl) (by kernel_rfl) (nwc (nwx_to ([]) [] ([DPair.mk (⟨#[118]⟩) s] ++ o) (by show 0 ≤ 1073741824; decide) (by decide) (by first | omega | (rw [List.length_append]; show 1 + _ ≤ _; omega))) (by kernel_rfl)) (by kernel_rfl) (by kernel_rfl) ?_
 refine WO_pure (.ptr 20 0) 11 (by kernel_rfl) (by kernel_rfl) ?_
 exact WO_nil rfl ⟨rfl, WK (by kernel_rfl)⟩
theorem u40_to {s : ByteArray} {o : List DPair} (hQ : Qo s o) : CallTo Tryz.prog 34 [(.ptr 1000 0), (.av (.agg zl14)), (.av (.val (.map none)))] (zb7 s o) [] (.av (.tup [(.agg [(vS (⟨#[]⟩)), (.sl []), (.sl [])]), (vB false)])) (zb7 s o) [] := by
 refine bGs Tryz.func34 ?_
 refine gO (tn 7 (kb ff (tn 1 (kb ff (tn 1 (kb ff (tn 1 (kb ff (tn 1 (kb ff (tn 1 (kb tt (kb tt (kb tt (kb tt (kb tt (kb tt (kb tt (kb tt (tn 3 z)))))))))))))))))))) ?_
 exact eNs
theorem u42_to {s : ByteArray} {o : List DPair} (hQ : Qo s o) : CallTo Tryz.prog 37 [(.ptr 1000 0), (jL []), (.av (.val (.map none)))] (zb7 s o) [] (.av (.tup [(.sl []), (vI 0)])) (zb7 s o) [] := by
 refine bGs Tryz.func37 ?_
 refine gO (tn 6 z) ?_
 refine uN (sx 58 [(0, (.ptr 1000 0)), (2, (.av (.val (.map none)))), (8, .nil), (15, (jL [])), (16, (jI 0)), (17, (jI 0))] (zb7 s o) []) 60 ?_
 refine gO (tn 1 (kb ff z)) ?_
 refine uO (tn 3 z) ?_
 exact eNs
theorem u41_to {s : ByteArray} {o : List DPair} (hQ : Qo s o) : CallTo Tryz.prog 37 [(.ptr 1000 0), (jL [(.agg zl13), (.agg zl3)]), (.av (.val (.map none)))] (zb7 s o) [] (.av (.tup [(.sl [(.agg zl13), (.agg (zl1 s))]), (vI 0)])) (zb8 s o) [] := by
 have ⟨hc, he, hs, hz, hes, ho⟩ := hQ.a
 refine bGs Tryz.func37 ?_
 refine gO (tn 6 z) ?_
 refine uN (sx 58 [(0, (.ptr 1000 0)), (2, (.av (.val (.map none)))), (8, .nil), (15, (jL [(.agg zl13), (.agg zl3)])), (16, (jI 2)), (17, (jI 0))] (zb7 s o) []) 60 ?_
 refine gO (tn 1 (kb tt (ke (el0 (.agg zl13) [(.agg zl3)]) (tn 6 (kb ff (tn 4 (kg (u42_to hQ) trivial (tn 7 (kb ff (tn 1 (kc (q204_to hQ.1) (tn 6 (kp (show Uni 10 [(.agg zl13)] from (uni_one rfl rfl)) (kp (show Uni 10 [(.agg zl13)] ∧ ([(.agg zl13)] : List AV).length * 192 ≤ 140737488355328 from ⟨uni_one rfl rfl, by first | omega | (simp; done) | (simp; omega)⟩) (kw (show ([(.agg zl13)] : List AV) = _ from rfl) (tn 1 (kn (wrE (0 + 1) 1 (by omega)) (tn 1 z)))))))))))))))))) ?_
 refine uA (sx 58 [(0, (.ptr 1000 0)), (2, (.av (.val (.map none)))), (8, (.own (55, 34) 1 10 [(.agg zl13)])), (15, (jL [(.agg zl13), (.agg zl3)])), (16, (jI 2)), (17, (jI 1))] (zb7 s o) [((55, 34), 1)]) ?_
 refine gO (tn 1 (kb tt (ke (el1 (.agg zl13) (.agg zl3) []) (tn 6 (kb tt (tn 3 (kg (u15_to hQ) trivial (tn 7 (kb ff (tn 2 (kp (show (1 : Nat) = 1 ∧ Uni 10 [(.agg (zl1 s))] ∧ (([(.agg zl13)] : List AV).length + ([(.agg (zl1 s))] : List AV).length) * 192 ≤ 140737488355328 from ⟨rfl, uni_one rfl rfl, by first | omega | (simp; done) | (simp; omega)⟩) (kw (show ([(.agg zl13), (.agg (zl1 s))] : List AV) = _ from rfl) (tn 1 (kn (wrE (1 + 1) 2 (by omega)) (tn 1 z))))))))))))))) ?_
 refine uA (sx 58 [(0, (.ptr 1000 0)), (2, (.av (.val (.map none)))), (8, (.own (55, 34) 2 10 [(.agg zl13), (.agg (zl1 s))])), (15, (jL [(.agg zl13), (.agg zl3)])), (16, (jI 2)), (17, (jI 2))] (zb8 s o) [((55, 34), 2)]) ?_
 refine gO (tn 1 (kb ff z)) ?_
 refine uO (tn 3 z) ?_
 exact eNs
theorem u39_to {s : ByteArray} {o : List DPair} (hQ : Qo s o) : CallTo Tryz.prog 18 [(.ptr 1000 0), (jL [(.agg zl14)]), (.av (.val (.map none)))] (zb7 s o) [] (.av (.tup [(.sl [(.agg (zl24 s))]), (vI 0)])) (zb8 s o) [] := by
 have ⟨hc, he, hs, hz, hes, ho⟩ := hQ.a
 refine bGs Tryz.func18 ?_
 refine gO (tn 6 z) ?_
 refine uN (sx 105 [(0, (.ptr 1000 0)), (2, (.av (.val (.map none)))), (8, .nil), (19, (jL [(.agg zl14)])), (20, (jI 1)), (21, (jI 0))] (zb7 s o) []) 60 ?_
 refine gO (tn 1 (kb tt (ke (el0 (.agg zl14) []) (tn 4 (kc (q150_to hQ.1) (kb ff (tn 3 (kg (u40_to hQ) trivial (tn 7 (kb ff (tn 2 (kc (q203_to hQ.1) (tn 5 (kg (u41_to hQ) trivial (tn 7 (kb ff (tn 4 (kg (u17_to hQ) trivial (tn 7 (kb ff (tn 1 (kb tt (tn 1 (kc (q205_to hQ.1) (tn 3 (kc (q130_to hQ.1) (tn 11 (kb ff (tn 1 (kb ff (tn 1 (kb ff (tn 1 (kb ff (tn 1 (kb ff (tn 1 (kb ff (tn 1 (kb ff (tn 1 (kb ff (kb tt (tn 2 (kp (show Uni 11 [(.agg (zl24 s))] from (uni_one rfl rfl)) (kp (show Uni 11 [(.agg (zl24 s))] ∧ ([(.agg (zl24 s))] : List AV).length * 192 ≤ 140737488355328 from ⟨uni_one rfl rfl, by first | omega | (simp; done) | (simp; omega)⟩) (kw (show ([(.agg (zl24 s))] : List AV) = _ from rfl) (tn 1 (kn (wrE (0 + 1) 1 (by omega)) (tn 1 z)))))))))))))))))))))))))))))))))))))))))))))))))) ?_
 refine uA (sx 105 [(0, (.ptr 1000 0)), (2, (.av (.val (.map none)))), (8, (.own (102, 39) 1 11 [(.agg (zl24 s))])), (19, (jL [(.agg zl14)])), (20, (jI 1)), (21, (jI 1))] (zb8 s o) [((102, 39), 1)]) ?_
 refine gO (tn 1 (kb ff z)) ?_
 refine uO (tn 3 z) ?_
 exact eNs
theorem u38_to {s : ByteArray} {o : List DPair} (hQ : Qo s o) : CallTo Tryz.prog 11 [(.av (.agg [(.sl []), (.sl [(.agg zl14)])])), (jL (([DPair.mk (⟨#[118]⟩) s] ++ o).map aPair))] [] [] (.av (.tup [(.agg [(.sl []), (.sl [(.agg (zl24 s))])]), (vI 0)])) [] [] := by
 have ⟨hc, he, hs, hz, hes, ho⟩ := hQ.a
 refine bG Tryz.func11 ?_
 refine gO (tn 4 (kc (q102_to hQ.1) (tn 3 (kb ff (tn 1 (kc (q151_to hQ.1) (tn 7 (kb ff (tn 1 (kc (q171_to hQ.1) (tn 6 (kb ff (kq 10 z))))))))))))) ?_
 refine NXW (sx 71 [(2, (.ptr 2 0)), (4, (.ptr 4 0)), (11, (.ptr 20 0))] [(20, (.cells 83 [(.mp 16), (.mp 17), (.mp 18), (jI 0)])), (16, (.map ([]) ([]))), (17, (.map ((varsM ([DPair.mk (⟨#[118]⟩) s] ++ o)).1) ((varsM ([DPair.mk (⟨#[118]⟩) s] ++ o)).2))), (18, (.map ([]) ([]))), (4, (.cells 42 [.nil, .nil])), (2, (.cells 42 [(jL []), (jL [(.agg zl14)])]))] []) (tn 3 (kg (CallTo_ren (swap_inv (18, 0) (1003, 0) rfl) (CallTo_ren (swap_inv (17, 0) (1002, 0) rfl) (CallTo_ren (swap_inv (16, 0) (1001, 0) rfl) (CallTo_ren (swap_inv (20, 0) (1000, 0) rfl) (u39_to hQ))))) trivial (tn 7 (kb ff (tn 2 (kp (show Uni 2 [] ∧ ([] : List AV).length * 32 ≤ 140737488355328 from ⟨by simp [Uni, AV.cells, AV.isTup], by first | omega | (simp; done) | (simp; omega)⟩) (kw (show ([] : List AV) = _ from rfl) (tn 5 (kc (q210_to hQ.1) (tn 1 (kb ff (tn 1 (kc (q213_to hQ.1) (tn 2 (kb ff (tn 1 (kb ff (kc (q214_to hQ.1) (kb ff (tn 1 (kb ff (kb ff (tn 3 z))))))))))))))))))))))) (by kernel_rfl) (W_weak (S' := (sx 71 [(1, (jL (([DPair.mk (⟨#[118]⟩) s] ++ o).map aPair))), (2, (.ptr 2 0)), (4, (.ptr 4 0)), (7, (jL [])), (34, (jB false))] [(4, (.cells 42 [.nil, .nil])), (2, (.cells 42 [(jL []), (jL [(.agg zl14)])]))] [])) (WK (by kernel_rfl)) (W_code (c' := .region 10 (regOps 10 Tryz.f11) false) (by kernel_rfl) (rg14 hQ))) (by kernel_rfl) ?_
 exact eN
theorem rg15 {s : ByteArray} {o : List DPair} (hQ : Qo s o) : W Tryz.prog (.region 10 (regOps 10 Tryz.f11) false) (fun e S1 => e = .normal ∧ Weak S1 (sx 71 [(2, (.ptr 2 0)), (4, (.ptr 4 0)), (11, (.ptr 20 0))] [(20, (.cells 83 [(.mp 16), (.mp 17), (.mp 18), (jI 0)])), (16, (.map ([⟨#[118]⟩]) ([(.agg (zl18 s))]))), (17, (.map ((varsM o).1) ((varsM o).2))), (18, (.map ([]) ([]))), (4, (.cells 42 [.nil, .nil])), (2, (.cells 42 [(jL []), (jL [(.agg (zl6 s)), (.agg zl16)])]))] [])) (sx 71 [(1, (jL (o.map aPair))), (2, (.ptr 2 0)), (4, (.ptr 4 0)), (7, (jL [(.agg (zl18 s))])), (34, (jB false))] [(4, (.cells 42 [.nil, .nil])), (2, (.cells 42 [(jL []), (jL [(.agg (zl6 s)), (.agg zl16)])]))] []) := by
 have ⟨hc, he, hs, hz, hes, ho⟩ := hQ.a
 refine W_regionO ?_
 rw [show (regOps 10 Tryz.f11).toList = [regO 10 Tryz.f11 0, regO 10 Tryz.f11 1, regO 10 Tryz.f11 2, regO 10 Tryz.f11 3, regO 10 Tryz.f11 4, regO 10 Tryz.f11 5] by kernel_rfl]
 refine WO_pure (jL [(.agg (zl18 s))]) 36 (by kernel_rfl) (by kernel_rfl) ?_
 refine WO_pure (.ptr 2 0) 37 (by kernel_rfl) (by kernel_rfl) ?_
 refine WO_pure (jL []) 38 (by kernel_rfl) (by kernel_rfl) ?_
 refine WO_pure (jL (o.map aPair)) 39 (by kernel_rfl) (by kernel_rfl) ?_
 refine WO_new (nb := (zb3 s o)) (res := .ptr 20 0) (x := .func 17) (args := #[.tmp 36, .tmp 38, .tmp 39]) (tys := #[50, 23, 23]) (f := 17) (fs := []) (cs := []) 40 (by kernel_rfl) (by kernel_rfl) (by kernel_rfl) (nwc (nwx_to ([DMacro.mk (⟨#[118]⟩) ([]) ([DBlock.mk 1 0 (⟨#[]⟩) (⟨#[]⟩) (⟨#[]⟩) (⟨#[]⟩) (DAttr.mk (⟨#[]⟩) ([]) ([])) ([DInline.mk 1 s (⟨#[]⟩) (⟨#[]⟩) (DAttr.mk (⟨#[]⟩) ([]) ([])) ([]) ([]) ([])]) ([])])]) [] o (by show 1 ≤ 1073741824; decide) (by decide) (by first | omega | (rw [List.length_append]; show 1 + _ ≤ _; omega))) (by kernel_rfl)) (by kernel_rfl) (by kernel_rfl) ?_
 refine WO_pure (.ptr 20 0) 11 (by kernel_rfl) (by kernel_rfl) ?_
 exact WO_nil rfl ⟨rfl, WK (by kernel_rfl)⟩
theorem u45_to {s : ByteArray} {o : List DPair} (hQ : Qo s o) : CallTo Tryz.prog 34 [(.ptr 1000 0), (.av (.agg zl16)), (.av (.val (.map none)))] (zb4 s o) [] (.av (.tup [(.agg [(vS (⟨#[]⟩)), (.sl []), (.sl [])]), (vB false)])) (zb4 s o) [] := by
 refine bGs Tryz.func34 ?_
 refine gO (tn 7 (kb ff (tn 1 (kb ff (tn 1 (kb ff (tn 1 (kb ff (tn 1 (kb ff (tn 1 (kb tt (kb tt (kb tt (kb tt (kb tt (kb tt (kb tt (kb tt (tn 3 z)))))))))))))))))))) ?_
 exact eNs
theorem q216_to {s : ByteArray} (hQ : Qs s) : CallTo Tryz.prog 36 [(jL [(.agg zl13), (.agg zl3), (.agg zl10)])] [] [] (jB true) [] [] := by
 have ⟨hc, he, hs, hz, hes⟩ := hQ.a
 refine bG Tryz.func36 ?_
 refine gO (tn 4 z) ?_
 refine uN (sx 20 [(5, (jL [(.agg zl13), (.agg zl3), (.agg zl10)])), (6, (jI 3)), (7, (jI 0))] [] []) 60 ?_
 refine gO (tn 1 (kb tt (ke (el0 (.agg zl13) [(.agg zl3), (.agg zl10)]) (tn 7 (kb ff (tn 1 (kb ff (tn 1 (kb ff (kc (q164_to hQ) (kb ff (kb ff (kn (wrE (0 + 1) 1 (by omega)) (tn 1 z)))))))))))))) ?_
 refine uA (sx 20 [(5, (jL [(.agg zl13), (.agg zl3), (.agg zl10)])), (6, (jI 3)), (7, (jI 1))] [] []) ?_
 refine gO (tn 1 (kb tt (ke (el1 (.agg zl13) (.agg zl3) [(.agg zl10)]) (tn 7 (kb tt (kb tt (kb tt (kb tt (kb tt (tn 1 z)))))))))) ?_
 refine uO z ?_
 exact eN
theorem u46_to {s : ByteArray} {o : List DPair} (hQ : Qo s o) : CallTo Tryz.prog 37 [(.ptr 1000 0), (jL [(.agg zl13), (.agg zl3), (.agg zl10)]), (.av (.val (.map none)))] (zb4 s o) [] (.av (.tup [(.sl (zl25 s)), (vI 0)])) (zb9 s o) [] := by
 have ⟨hc, he, hs, hz, hes, ho⟩ := hQ.a
 refine bGs Tryz.func37 ?_
 refine gO (tn 6 z) ?_
 refine uN (sx 58 [(0, (.ptr 1000 0)), (2, (.av (.val (.map none)))), (8, .nil), (15, (jL [(.agg zl13), (.agg zl3), (.agg zl10)])), (16, (jI 3)), (17, (jI 0))] (zb4 s o) []) 60 ?_
 refine gO (tn 1 (kb tt (ke (el0 (.agg zl13) [(.agg zl3), (.agg zl10)]) (tn 6 (kb ff (tn 4 (kg (u37_to hQ) trivial (tn 7 (kb ff (tn 1 (kc (q204_to hQ.1) (tn 6 (kp (show Uni 10 [(.agg zl13)] from (uni_one rfl rfl)) (kp (show Uni 10 [(.agg zl13)] ∧ ([(.agg zl13)] : List AV).length * 192 ≤ 140737488355328 from ⟨uni_one rfl rfl, by first | omega | (simp; done) | (simp; omega)⟩) (kw (show ([(.agg zl13)] : List AV) = _ from rfl) (tn 1 (kn (wrE (0 + 1) 1 (by omega)) (tn 1 z)))))))))))))))))) ?_
 refine uA (sx 58 [(0, (.ptr 1000 0)), (2, (.av (.val (.map none)))), (8, (.own (55, 34) 1 10 [(.agg zl13)])), (15, (jL [(.agg zl13), (.agg zl3), (.agg zl10)])), (16, (jI 3)), (17, (jI 1))] (zb4 s o) [((55, 34), 1)]) ?_
 refine gO (tn 1 (kb tt (ke (el1 (.agg zl13) (.agg zl3) [(.agg zl10)]) (tn 6 (kb tt (tn 3 (kg (u22_to hQ) trivial (tn 7 (kb ff (tn 2 (kp (show (1 : Nat) = 1 ∧ Uni 10 [(.agg (zl1 s))] ∧ (([(.agg zl13)] : List AV).length + ([(.agg (zl1 s))] : List AV).length) * 192 ≤ 140737488355328 from ⟨rfl, uni_one rfl rfl, by first | omega | (simp; done) | (simp; omega)⟩) (kw (show ([(.agg zl13), (.agg (zl1 s))] : List AV) = _ from rfl) (tn 1 (kn (wrE (1 + 1) 2 (by omega)) (tn 1 z))))))))))))))) ?_
 refine uA (sx 58 [(0, (.ptr 1000 0)), (2, (.av (.val (.map none)))), (8, (.own (55, 34) 2 10 [(.agg zl13), (.agg (zl1 s))])), (15, (jL [(.agg zl13), (.agg zl3), (.agg zl10)])), (16, (jI 3)), (17, (jI 2))] (zb9 s o) [((55, 34), 2)]) ?_
 refine gO (tn 1 (kb tt (ke (el2 (.agg zl13) (.agg zl3) (.agg zl10) []) (tn 6 (kb ff (tn 4 (kg (u26_to hQ) trivial (tn 7 (kb ff (tn 1 (kc (q192_to hQ.1) (tn 6 (kp (show Uni 10 [(.agg zl10)] from (uni_one rfl rfl)) (kp (show (2 : Nat) = 2 ∧ Uni 10 [(.agg zl10)] ∧ (([(.agg zl13), (.agg (zl1 s))] : List AV).length + ([(.agg zl10)] : List AV).length) * 192 ≤ 140737488355328 from ⟨rfl, uni_one rfl rfl, by first | omega | (simp; done) | (simp; omega)⟩) (kw (show ((zl25 s) : List AV) = _ from rfl) (tn 1 (kn (wrE (2 + 1) 3 (by omega)) (tn 1 z)))))))))))))))))) ?_
 refine uA (sx 58 [(0, (.ptr 1000 0)), (2, (.av (.val (.map none)))), (8, (.own (55, 34) 3 10 [(.agg zl13), (.agg (zl1 s)), (.agg zl10)])), (15, (jL [(.agg zl13), (.agg zl3), (.agg zl10)])), (16, (jI 3)), (17, (jI 3))] (zb9 s o) [((55, 34), 3)]) ?_
 refine gO (tn 1 (kb ff z)) ?_
 refine uO (tn 3 z) ?_
 exact eNs
theorem q218_to {s : ByteArray} (hQ : Qs s) : CallTo Tryz.prog 61 [(jL (zl25 s))] [] [] (jL (zl25 s)) [] [] := by
 have ⟨hc, he, hs, hz, hes⟩ := hQ.a
 refine bG Tryz.func61 ?_
 refine gO (tn 5 z) ?_
 refine uN (sx 32 [(3, .nil), (6, (jL (zl25 s))), (7, (jI 3)), (8, (jI 0))] [] []) 60 ?_
 refine gO (tn 1 (kb tt (ke (show 0 ≤ (0 : Int) ∧ ((zl25 s) : List AV)[0]? = some (.agg zl13) from ⟨by decide, rfl⟩) (tn 5 (kc (q176_to hQ) (tn 6 (kb ff (tn 2 (kb ff (tn 2 (kb ff (tn 2 (kp (show Uni 10 [(.agg zl13)] from (uni_one rfl rfl)) (kp (show Uni 10 [(.agg zl13)] ∧ ([(.agg zl13)] : List AV).length * 192 ≤ 140737488355328 from ⟨uni_one rfl rfl, by first | omega | (simp; done) | (simp; omega)⟩) (kw (show ([(.agg zl13)] : List AV) = _ from rfl) (tn 1 (kn (wrE (0 + 1) 1 (by omega)) (tn 1 z)))))))))))))))))) ?_
 refine uA (sx 32 [(3, (.own (29, 34) 1 10 [(.agg zl13)])), (6, (jL (zl25 s))), (7, (jI 3)), (8, (jI 1))] [] [((29, 34), 1)]) ?_
 refine gO (tn 1 (kb tt (ke (show 0 ≤ (1 : Int) ∧ ((zl25 s) : List AV)[1]? = some (.agg (zl1 s)) from ⟨by decide, rfl⟩) (tn 5 (kc (q176_to hQ) (tn 6 (kb ff (tn 2 (kb ff (tn 2 (kb ff (tn 2 (kp (show Uni 10 [(.agg (zl1 s))] from (uni_one rfl rfl)) (kp (show (1 : Nat) = 1 ∧ Uni 10 [(.agg (zl1 s))] ∧ (([(.agg zl13)] : List AV).length + ([(.agg (zl1 s))] : List AV).length) * 192 ≤ 140737488355328 from ⟨rfl, uni_one rfl rfl, by first | omega | (simp; done) | (simp; omega)⟩) (kw (show ([(.agg zl13), (.agg (zl1 s))] : List AV) = _ from rfl) (tn 1 (kn (wrE (1 + 1) 2 (by omega)) (tn 1 z)))))))))))))))))) ?_
 refine uA (sx 32 [(3, (.own (29, 34) 2 10 [(.agg zl13), (.agg (zl1 s))])), (6, (jL (zl25 s))), (7, (jI 3)), (8, (jI 2))] [] [((29, 34), 2)]) ?_
 refine gO (tn 1 (kb tt (ke (show 0 ≤ (2 : Int) ∧ ((zl25 s) : List AV)[2]? = some (.agg zl10) from ⟨by decide, rfl⟩) (tn 5 (kc (q176_to hQ) (tn 6 (kb ff (tn 2 (kb ff (tn 2 (kb ff (tn 2 (kp (show Uni 10 [(.agg zl10)] from (uni_one rfl rfl)) (kp (show (2 : Nat) = 2 ∧ Uni 10 [(.agg zl10)] ∧ (([(.agg zl13), (.agg (zl1 s))] : List AV).length + ([(.agg zl10)] : List AV).length) * 192 ≤ 140737488355328 from ⟨rfl, uni_one rfl rfl, by first | omega | (simp; done) | (simp; omega)⟩) (kw (show ((zl25 s) : List AV) = _ from rfl) (tn 1 (kn (wrE (2 + 1) 3 (by omega)) (tn 1 z)))))))))))))))))) ?_
 refine uA (sx 32 [(3, (.own (29, 34) 3 10 [(.agg zl13), (.agg (zl1 s)), (.agg zl10)])), (6, (jL (zl25 s))), (7, (jI 3)), (8, (jI 3))] [] [((29, 34), 3)]) ?_
 refine gO (tn 1 (kb ff z)) ?_
 refine uO (tn 2 z) ?_
 exact eN
theorem q219_to {s : ByteArray} (hQ : Qs s) : CallTo Tryz.prog 60 [(jL (zl25 s))] [] [] (jL [(.agg (zl26 s))]) [] [] := by
 have ⟨hc, he, hs, hz, hes⟩ := hQ.a
 refine bG Tryz.func60 ?_
 refine gO (tn 3 z) ?_
 refine uN (sx 73 [(0, (jL (zl25 s))), (3, .nil), (4, (jI 0))] [] []) 60 ?_
 refine gO (tn 4 (kb tt (tn 2 (ke (show 0 ≤ (0 : Int) ∧ ((zl25 s) : List AV)[0]? = some (.agg zl13) from ⟨by decide, rfl⟩) (tn 3 (kb ff (tn 2 z))))))) ?_
 refine uN (sx 73 [(0, (jL (zl25 s))), (3, .nil), (4, (jI 0)), (5, (jI (-1))), (6, (.ptr 6 0))] [(6, (.cells 133 [(.av (.val (.pointer none))), .nil]))] []) 60 ?_
 refine gO (tn 5 (kb tt (tn 1 (kb tt (tn 1 (kb tt (ke (show 0 ≤ (0 : Int) ∧ ((zl25 s) : List AV)[0]? = some (.agg zl13) from ⟨by decide, rfl⟩) (kb tt (tn 1 (kb tt (tn 1 (kb tt (tn 1 (kb tt (kb tt (tn 3 (kb tt (tn 1 (kb tt (tn 1 (kb tt (ke (show 0 ≤ (0 : Int) ∧ ((zl25 s) : List AV)[0]? = some (.agg zl13) from ⟨by decide, rfl⟩) (kb tt (tn 1 (kb tt (tn 1 (kb tt (tn 1 (kb tt (kb (show (!eqs (⟨#[111, 110, 101, 32]⟩) (⟨#[]⟩)) = true from (by rw [show eqs (⟨#[111, 110, 101, 32]⟩) (⟨#[]⟩) = false from (by kernel_rfl)]; rfl)) (tn 2 (kq 13 z)))))))))))))))))))))))))))))))) ?_
 refine RT [(6, 0, (.son 6)), (6, 1, (.own (1300, 6) 0 1 (bytesAV (⟨#[]⟩))))] (ac (show (AV.val (.pointer none)) = .val (.pointer none) from rfl) (ac (show (bytesAV ⟨#[]⟩ : List AV) = [] ∧ 0 < 6 ∧ (0 : Nat) = 0 from ⟨rfl, by decide, rfl⟩) an)) (by kernel_rfl) ?_
 refine gO (tn 2 (ke (show 0 ≤ (0 : Int) ∧ ((zl25 s) : List AV)[0]? = some (.agg zl13) from ⟨by decide, rfl⟩) (tn 2 (kg (CallTo_ren (swap_inv (6, 0) (1000, 0) rfl) (WriteString_to (⟨#[]⟩) (⟨#[111, 110, 101, 32]⟩) 0 (by simp only [ByteArray.size_append, szA, szB, szE]; omega))) (show (0 : Nat) = 0 ∧ True from ⟨rfl, trivial⟩) (tn 1 (kn (wrE (0 + 1) 1 (by omega)) (tn 1 z))))))) ?_
 refine uA (sx 73 [(0, (jL (zl25 s))), (3, .nil), (4, (jI 1)), (5, (jI 0)), (6, (.ptr 6 0))] [(6, (.cells 133 [(.son 6), (.own (1300, 6) 1 1 (bytesAV ((⟨#[]⟩) ++ (⟨#[111, 110, 101, 32]⟩))))]))] [((1300, 6), 1)]) ?_
 refine gO (tn 5 (kb tt (tn 1 (kb tt (tn 1 (kb tt (ke (show 0 ≤ (1 : Int) ∧ ((zl25 s) : List AV)[1]? = some (.agg (zl1 s)) from ⟨by decide, rfl⟩) (kb tt (tn 1 (kb tt (tn 1 (kb tt (tn 1 (kb tt (kb tt (tn 3 (kb ff (kb ff (kb ff (kb ff (kb ff (kb ff (kb ff (kb ff (kq 13 z))))))))))))))))))))))))) ?_
 refine RT [] an (by kernel_rfl) ?_
 refine gO (tn 2 (ke (show 0 ≤ (1 : Int) ∧ ((zl25 s) : List AV)[1]? = some (.agg (zl1 s)) from ⟨by decide, rfl⟩) (tn 2 (kg (CallTo_ren (swap_inv (6, 0) (1000, 0) rfl) (WriteString_to ((⟨#[]⟩) ++ (⟨#[111, 110, 101, 32]⟩)) s 1 (by simp only [ByteArray.size_append, szA, szB, szE]; omega))) (show (1 : Nat) = 1 ∧ True from ⟨rfl, trivial⟩) (tn 1 (kn (wrE (1 + 1) 2 (by omega)) (tn 1 z))))))) ?_
 refine uA (sx 73 [(0, (jL (zl25 s))), (3, .nil), (4, (jI 2)), (5, (jI 0)), (6, (.ptr 6 0))] [(6, (.cells 133 [(.son 6), (.own (1300, 6) 2 1 (bytesAV (((⟨#[]⟩) ++ (⟨#[111, 110, 101, 32]⟩)) ++ s)))]))] [((1300, 6), 2)]) ?_
 refine gO (tn 5 (kb tt (tn 1 (kb tt (tn 1 (kb tt (ke (show 0 ≤ (2 : Int) ∧ ((zl25 s) : List AV)[2]? = some (.agg zl10) from ⟨by decide, rfl⟩) (kb tt (tn 1 (kb tt (tn 1 (kb tt (tn 1 (kb tt (kb tt (tn 3 (kb ff (kb ff (kb ff (kb ff (kb ff (kb ff (kb ff (kb ff (kq 13 z))))))))))))))))))))))))) ?_
 refine RT [] an (by kernel_rfl) ?_
 refine gO (tn 2 (ke (show 0 ≤ (2 : Int) ∧ ((zl25 s) : List AV)[2]? = some (.agg zl10) from ⟨by decide, rfl⟩) (tn 2 (kg (CallTo_ren (swap_inv (6, 0) (1000, 0) rfl) (WriteString_to (((⟨#[]⟩) ++ (⟨#[111, 110, 101, 32]⟩)) ++ s) (⟨#[32, 116, 119, 111]⟩) 2 (by simp only [ByteArray.size_append, szA, szB, szE]; omega))) (show (2 : Nat) = 2 ∧ True from ⟨rfl, trivial⟩) (tn 1 (kn (wrE (2 + 1) 3 (by omega)) (tn 1 z))))))) ?_
 refine uA (sx 73 [(0, (jL (zl25 s))), (3, .nil), (4, (jI 3)), (5, (jI 0)), (6, (.ptr 6 0))] [(6, (.cells 133 [(.son 6), (.own (1300, 6) 3 1 (bytesAV ((((⟨#[]⟩) ++ (⟨#[111, 110, 101, 32]⟩)) ++ s) ++ (⟨#[32, 116, 119, 111]⟩))))]))] [((1300, 6), 3)]) ?_
 refine gO (tn 5 (kb ff (kb ff (kb ff (kb ff (kb ff (kb ff (kb ff (kb ff z))))))))) ?_
 refine uO (tn 2 (kb tt (tn 2 (ke (show 0 ≤ (0 : Int) ∧ ((zl25 s) : List AV)[0]? = some (.agg zl13) from ⟨by decide, rfl⟩) (tn 1 (kc (q208_to hQ) (tn 2 (kg (CallTo_ren (swap_inv (6, 0) (1000, 0) rfl) (String_to (.son 1000) 1300 3 ((((⟨#[]⟩) ++ (⟨#[111, 110, 101, 32]⟩)) ++ s) ++ (⟨#[32, 116, 119, 111]⟩)) (by simp only [ByteArray.size_append, szA, szB, szE]; omega) (by simp only [ByteArray.size_append, szA, szB, szE]; omega))) (show (3 : Nat) = 3 ∧ True from ⟨rfl, trivial⟩) (tn 4 (kp (show Uni 10 [(.agg (zl26 s))] from (uni_one rfl rfl)) (kp (show Uni 10 [(.agg (zl26 s))] ∧ ([(.agg (zl26 s))] : List AV).length * 192 ≤ 140737488355328 from ⟨uni_one rfl rfl, by first | omega | (simp; done) | (simp; omega)⟩) (kw (show ([(.agg (zl26 s))] : List AV) = _ from rfl) (tn 1 z))))))))))))) ?_
 refine uA (sx 73 [(0, (jL (zl25 s))), (3, (.own (71, 34) 1 10 [(.agg (zl26 s))])), (4, (jI 3))] [] [((71, 34), 1), ((1300, 6), 4)]) ?_
 refine gO (tn 4 (kb ff z)) ?_
 refine uO (tn 2 z) ?_
 exact eN
theorem q220_to {s : ByteArray} (hQ : Qs s) : CallTo Tryz.prog 59 [(jL [(.agg (zl26 s))])] [] [] (jL [(.agg (zl26 s))]) [] [] := by
 have ⟨hc, he, hs, hz, hes⟩ := hQ.a
 refine bG Tryz.func59 ?_
 refine gO (tn 6 z) ?_
 refine uN (sx 38 [(3, .nil), (4, (jB false)), (7, (jL [(.agg (zl26 s))])), (8, (jI 1)), (9, (jI 0))] [] []) 60 ?_
 refine gO (tn 1 (kb tt (ke (el0 (.agg (zl26 s)) []) (tn 5 (kc (q182_to hQ) (tn 6 (kb tt (kb tt (kb tt (kb tt (tn 2 (kp (show Uni 10 [(.agg (zl26 s))] from (uni_one rfl rfl)) (kp (show Uni 10 [(.agg (zl26 s))] ∧ ([(.agg (zl26 s))] : List AV).length * 192 ≤ 140737488355328 from ⟨uni_one rfl rfl, by first | omega | (simp; done) | (simp; omega)⟩) (kw (show ([(.agg (zl26 s))] : List AV) = _ from rfl) (tn 5 (kb ff (tn 1 (kb ff (tn 1 (kb ff (tn 1 (kb ff (tn 1 (kn (wrE (0 + 1) 1 (by omega)) (tn 1 z))))))))))))))))))))))))) ?_
 refine uA (sx 38 [(3, (.own (27, 34) 1 10 [(.agg (zl26 s))])), (4, (jB false)), (7, (jL [(.agg (zl26 s))])), (8, (jI 1)), (9, (jI 1))] [] [((27, 34), 1)]) ?_
 refine gO (tn 1 (kb ff z)) ?_
 refine uO (tn 2 z) ?_
 exact eN
theorem q217_to {s : ByteArray} (hQ : Qs s) : CallTo Tryz.prog 38 [(jL (zl25 s))] [] [] (jL [(.agg (zl26 s))]) [] [] := by
 have ⟨hc, he, hs, hz, hes⟩ := hQ.a
 refine bG Tryz.func38 ?_
 refine gO (tn 2 (kc (q218_to hQ) (kc (q219_to hQ) (kc (q220_to hQ) (tn 5 (kb tt (tn 1 (kb tt (ke (el0 (.agg (zl26 s)) []) (kb tt (tn 1 (kb tt (tn 1 (kb tt (tn 1 (kb tt (kb ff z))))))))))))))))) ?_
 refine uN (sx 48 [(0, (jL [(.agg (zl26 s))]))] [] []) 60 ?_
 refine gO (tn 4 (kb tt (tn 1 (kb tt (tn 1 (kb tt (tn 1 (kb tt (kn (wrE (1 - 1) 0 (by omega)) (kb tt (ke (el0 (.agg (zl26 s)) []) (kb tt (tn 1 (kb tt (tn 1 (kb tt (tn 1 (kb tt (tn 1 (kb ff (tn 1 (kb ff (tn 1 (kb ff (tn 1 (kb ff (kn (wrE (1 - 1) 0 (by omega)) (kb ff (ke (el0 (.agg (zl26 s)) []) (kb ff (tn 1 (kb ff (tn 1 (kb ff (tn 1 (kb tt (kb ff (kb tt (kb ff z))))))))))))))))))))))))))))))))))))))) ?_
 refine uO (tn 2 z) ?_
 exact eN
theorem u44_to {s : ByteArray} {o : List DPair} (hQ : Qo s o) : CallTo Tryz.prog 18 [(.ptr 1000 0), (jL [(.agg (zl6 s)), (.agg zl16)]), (.av (.val (.map none)))] (zb4 s o) [] (.av (.tup [(.sl [(.agg (zl27 s))]), (vI 0)])) (zb9 s o) [] := by
 have ⟨hc, he, hs, hz, hes, ho⟩ := hQ.a
 refine bGs Tryz.func18 ?_
 refine gO (tn 6 z) ?_
 refine uN (sx 105 [(0, (.ptr 1000 0)), (2, (.av (.val (.map none)))), (8, .nil), (19, (jL [(.agg (zl6 s)), (.agg zl16)])), (20, (jI 2)), (21, (jI 0))] (zb4 s o) []) 60 ?_
 refine gO (tn 1 (kb tt (ke (el0 (.agg (zl6 s)) [(.agg zl16)]) (tn 4 (kc (q124_to hQ.1) (kb (show eqs (⟨#[109, 97, 99, 114, 111]⟩) (⟨#[109, 97, 99, 114, 111]⟩) = true from (by kernel_rfl)) (kn (wrE (0 + 1) 1 (by omega)) (tn 1 z)))))))) ?_
 refine uA (sx 105 [(0, (.ptr 1000 0)), (2, (.av (.val (.map none)))), (8, .nil), (19, (jL [(.agg (zl6 s)), (.agg zl16)])), (20, (jI 2)), (21, (jI 1))] (zb4 s o) []) ?_
 refine gO (tn 1 (kb tt (ke (el1 (.agg (zl6 s)) (.agg zl16) []) (tn 4 (kc (q155_to hQ.1) (kb ff (tn 3 (kg (u45_to hQ) trivial (tn 7 (kb ff (tn 2 (kc (q216_to hQ.1) (tn 5 (kg (u46_to hQ) trivial (tn 7 (kb ff (tn 4 (kg (u27_to hQ) trivial (tn 7 (kb ff (tn 1 (kb tt (tn 1 (kc (q217_to hQ.1) (tn 3 (kc (q130_to hQ.1) (tn 11 (kb ff (tn 1 (kb ff (tn 1 (kb ff (tn 1 (kb ff (tn 1 (kb ff (tn 1 (kb ff (tn 1 (kb ff (tn 1 (kb ff (kb tt (tn 2 (kp (show Uni 11 [(.agg (zl27 s))] from (uni_one rfl rfl)) (kp (show Uni 11 [(.agg (zl27 s))] ∧ ([(.agg (zl27 s))] : List AV).length * 192 ≤ 140737488355328 from ⟨uni_one rfl rfl, by first | omega | (simp; done) | (simp; omega)⟩) (kw (show ([(.agg (zl27 s))] : List AV) = _ from rfl) (tn 1 (kn (wrE (1 + 1) 2 (by omega)) (tn 1 z)))))))))))))))))))))))))))))))))))))))))))))))))) ?_
 refine uA (sx 105 [(0, (.ptr 1000 0)), (2, (.av (.val (.map none)))), (8, (.own (102, 39) 1 11 [(.agg (zl27 s))])), (19, (jL [(.agg (zl6 s)), (.agg zl16)])), (20, (jI 2)), (21, (jI 2))] (zb9 s o) [((102, 39), 1)]) ?_
 refine gO (tn 1 (kb ff z)) ?_
 refine uO (tn 3 z) ?_
 exact eNs
theorem q223_to {s : ByteArray} (hQ : Qs s) : CallTo Tryz.prog 62 [(jL [(.agg (zl26 s))])] [] [] (jI 1) [] [] := by
 have ⟨hc, he, hs, hz, hes⟩ := hQ.a
 refine bG Tryz.func62 ?_
 refine gO (tn 7 z) ?_
 refine uN (sx 22 [(0, (jL [(.agg (zl26 s))])), (3, (jI 1)), (8, (jI 1)), (9, (jI 0))] [] []) 60 ?_
 refine gO (tn 1 (kb tt (tn 5 (ke (el0 (.agg (zl26 s)) []) (tn 2 (kc (q4_to hQ) (kn (wrE (1 + 0) 1 (by omega)) (tn 1 (kn (wrE (0 + 1) 1 (by omega)) (tn 1 z)))))))))) ?_
 refine uA (sx 22 [(0, (jL [(.agg (zl26 s))])), (3, (jI 1)), (8, (jI 1)), (9, (jI 1))] [] []) ?_
 refine gO (tn 1 (kb ff z)) ?_
 refine uO (tn 2 z) ?_
 exact eN
theorem q222_to {s : ByteArray} (hQ : Qs s) : CallTo Tryz.prog 40 [(jL [(.agg (zl27 s))])] [] [] (jI 2) [] [] := by
 have ⟨hc, he, hs, hz, hes⟩ := hQ.a
 refine bG Tryz.func40 ?_
 refine gO (tn 7 z) ?_
 refine uN (sx 29 [(0, (jL [(.agg (zl27 s))])), (3, (jI 1)), (8, (jI 1)), (9, (jI 0))] [] []) 60 ?_
 refine gO (tn 1 (kb tt (tn 2 z))) ?_
 have d1 := (el0 (.agg (zl27 s)) [])
 have d2 := (q223_to hQ)
 have d3 := (el0 (.agg (zl27 s)) [])
 have d4 := (q7_to hQ)
 have d5 := wrE (1 + 0) 1 (by omega)
 have d6 := wrE (1 + 1) 2 (by omega)
 refine DR3 (tn 3 (ko (eO d1) (kp d1 (tn 2 (ko (cO d2) (kp d2 (tn 3 (ko (eO d3) (kp d3 (tn 2 (ko (cO d4) (kp d4 (tn 1 (ko (nO d5) (kp d5 (ko (nO d6) (kp d6 (tn 1 (kn (wrE (0 + 1) 1 (by omega)) (tn 1 z)))))))))))))))))))) (by kernel_rfl) (by kernel_rfl) (by kernel_rfl) ?_
 refine uA (sx 29 [(0, (jL [(.agg (zl27 s))])), (3, (jI 2)), (8, (jI 1)), (9, (jI 1)), (12, (jI 1)), (13, (jL [(.agg (zl27 s))])), (14, (jI 0)), (15, (.av (.ro (zl27 s) 0))), (16, (.av (.ro (zl27 s) 9))), (17, (jL [(.agg (zl26 s))])), (18, (jI 1)), (19, (jL [(.agg (zl27 s))])), (20, (jI 0)), (21, (.av (.ro (zl27 s) 0))), (22, (.av (.ro (zl27 s) 10))), (23, (jL [])), (24, (jI 0)), (25, (jI 1)), (26, (jI 2))] [] []) ?_
 refine gO (tn 1 (kb ff z)) ?_
 refine uO (tn 2 z) ?_
 exact eN
theorem q221_to {s : ByteArray} (hQ : Qs s) : CallTo Tryz.prog 19 [(.av (.agg [(.sl []), (.sl [(.agg (zl27 s))])]))] [] [] (jI 2) [] [] := by
 refine bG Tryz.func19 ?_
 refine gO (tn 4 (kc (q222_to hQ) (tn 1 z))) ?_
 exact eN
theorem q224_to {s : ByteArray} (hQ : Qs s) : CallTo Tryz.prog 20 [(jL [(.agg (zl27 s))])] [] [] (jI 1) [] [] := by
 have ⟨hc, he, hs, hz, hes⟩ := hQ.a
 refine bG Tryz.func20 ?_
 refine gO (tn 5 z) ?_
 refine uN (sx 21 [(0, (jL [(.agg (zl27 s))])), (3, (jI 0)), (6, (jI 1)), (7, (jI 0))] [] []) 60 ?_
 refine gO (tn 1 (kb tt (tn 5 (ke (el0 (.agg (zl27 s)) []) (tn 2 (kc (q166_to hQ) (kn (wrE (1 + 0) 1 (by omega)) (tn 2 (kn (wrE (0 + 1) 1 (by omega)) (tn 1 z)))))))))) ?_
 refine uA (sx 21 [(0, (jL [(.agg (zl27 s))])), (3, (jI 1)), (6, (jI 1)), (7, (jI 1))] [] []) ?_
 refine gO (tn 1 (kb ff z)) ?_
 refine uO (tn 2 z) ?_
 exact eN
theorem q226_to {s : ByteArray} (hQ : Qs s) : CallTo Tryz.prog 41 [(jL [(.agg (zl26 s))])] [] [] (jI 1) [] [] := by
 have ⟨hc, he, hs, hz, hes⟩ := hQ.a
 refine bG Tryz.func41 ?_
 refine gO (tn 5 z) ?_
 refine uN (sx 20 [(3, (jI 0)), (6, (jL [(.agg (zl26 s))])), (7, (jI 1)), (8, (jI 0))] [] []) 60 ?_
 refine gO (tn 1 (kb tt (ke (el0 (.agg (zl26 s)) []) (tn 6 (kc (q169_to hQ) (kn (wrE (1 + 0) 1 (by omega)) (tn 2 (kn (wrE (0 + 1) 1 (by omega)) (tn 1 z))))))))) ?_
 refine uA (sx 20 [(3, (jI 1)), (6, (jL [(.agg (zl26 s))])), (7, (jI 1)), (8, (jI 1))] [] []) ?_
 refine gO (tn 1 (kb ff z)) ?_
 refine uO (tn 2 z) ?_
 exact eN
theorem q225_to {s : ByteArray} (hQ : Qs s) : CallTo Tryz.prog 21 [(jL [(.agg (zl27 s))])] [] [] (jI 1) [] [] := by
 have ⟨hc, he, hs, hz, hes⟩ := hQ.a
 refine bG Tryz.func21 ?_
 refine gO (tn 5 z) ?_
 refine uN (sx 22 [(3, (jI 0)), (6, (jL [(.agg (zl27 s))])), (7, (jI 1)), (8, (jI 0))] [] []) 60 ?_
 refine gO (tn 1 (kb tt (ke (el0 (.agg (zl27 s)) []) (tn 3 z)))) ?_
 have d1 := (q226_to hQ)
 have d2 := (q170_to hQ)
 refine DR3 (tn 3 (ko (cO d1) (kp d1 (tn 3 (ko (cO d2) (kp d2 (tn 3 (kn (wrE (0 + 1) 1 (by omega)) (tn 1 z))))))))) (by kernel_rfl) (by kernel_rfl) (by kernel_rfl) ?_
 refine uA (sx 22 [(3, (jI 1)), (6, (jL [(.agg (zl27 s))])), (7, (jI 1)), (8, (jI 1)), (12, (jI 0)), (13, (.ptr 5 9)), (14, (jL [(.agg (zl26 s))])), (15, (jI 1)), (16, (.ptr 5 10)), (17, (jL [])), (18, (jI 0)), (19, (jI 1))] [(5, (.cells 38 [(jI 1), (jI 0), (jS (⟨#[]⟩)), (jS (⟨#[]⟩)), (jS (⟨#[]⟩)), (jS (⟨#[]⟩)), (jS (⟨#[]⟩)), (jL []), (jL []), (jL [(.agg (zl26 s))]), (jL [])]))] []) ?_
 refine gO (tn 1 (kb ff z)) ?_
 refine uO (tn 2 z) ?_
 exact eN
theorem u43_to {s : ByteArray} {o : List DPair} (hQ : Qo s o) : CallTo Tryz.prog 11 [(.av (.agg (zl17 s))), (jL (o.map aPair))] [] [] (.av (.tup [(.agg [(.sl []), (.sl [(.agg (zl27 s))])]), (vI 0)])) [] [] := by
 have ⟨hc, he, hs, hz, hes, ho⟩ := hQ.a
 refine bG Tryz.func11 ?_
 refine gO (tn 4 (kc (q107_to hQ.1) (tn 3 (kb ff (tn 1 (kc (q153_to hQ.1) (tn 7 (kb ff (tn 1 (kc (q158_to hQ.1) (tn 6 (kb ff (kq 10 z))))))))))))) ?_
 refine NXW (sx 71 [(2, (.ptr 2 0)), (4, (.ptr 4 0)), (11, (.ptr 20 0))] [(20, (.cells 83 [(.mp 16), (.mp 17), (.mp 18), (jI 0)])), (16, (.map ([⟨#[118]⟩]) ([(.agg (zl18 s))]))), (17, (.map ((varsM o).1) ((varsM o).2))), (18, (.map ([]) ([]))), (4, (.cells 42 [.nil, .nil])), (2, (.cells 42 [(jL []), (jL [(.agg (zl6 s)), (.agg zl16)])]))] []) (tn 3 (kg (CallTo_ren (swap_inv (18, 0) (1003, 0) rfl) (CallTo_ren (swap_inv (17, 0) (1002, 0) rfl) (CallTo_ren (swap_inv (16, 0) (1001, 0) rfl) (CallTo_ren (swap_inv (20, 0) (1000, 0) rfl) (u44_to hQ))))) trivial (tn 7 (kb ff (tn 2 (kp (show Uni 2 [] ∧ ([] : List AV).length * 32 ≤ 140737488355328 from ⟨by simp [Uni, AV.cells, AV.isTup], by first | omega | (simp; done) | (simp; omega)⟩) (kw (show ([] : List AV) = _ from rfl) (tn 5 (kc (q221_to hQ.1) (tn 1 (kb ff (tn 1 (kc (q224_to hQ.1) (tn 2 (kb ff (tn 1 (kb ff (kc (q225_to hQ.1) (kb ff (tn 1 (kb ff (kb ff (tn 3 z))))))))))))))))))))))) (by kernel_rfl) (W_weak (S' := (sx 71 [(1, (jL (o.map aPair))), (2, (.ptr 2 0)), (4, (.ptr 4 0)), (7, (jL [(.agg (zl18 s))])), (34, (jB false))] [(4, (.cells 42 [.nil, .nil])), (2, (.cells 42 [(jL []), (jL [(.agg (zl6 s)), (.agg zl16)])]))] [])) (WK (by kernel_rfl)) (W_code (c' := .region 10 (regOps 10 Tryz.f11) false) (by kernel_rfl) (rg15 hQ))) (by kernel_rfl) ?_
 exact eN
theorem rg16 {s : ByteArray} {o : List DPair} (hQ : Qo s o) : W Tryz.prog (.region 10 (regOps 10 Tryz.f11) false) (fun e S1 => e = .normal ∧ Weak S1 (sx 71 [(2, (.ptr 2 0)), (4, (.ptr 4 0)), (11, (.ptr 20 0))] [(20, (.cells 83 [(.mp 16), (.mp 17), (.mp 18), (jI 0)])), (16, (.map ([]) ([]))), (17, (.map ((varsM ([DPair.mk (⟨#[118]⟩) s] ++ o)).1) ((varsM ([DPair.mk (⟨#[118]⟩) s] ++ o)).2))), (18, (.map ([]) ([]))), (4, (.cells 42 [.nil, .nil])), (2, (.cells 42 [(jL []), (jL [(.agg zl16)])]))] [])) (sx 71 [(1, (jL (([DPair.mk (⟨#[118]⟩) s] ++ o).map aPair))), (2, (.ptr 2 0)), (4, (.ptr 4 0)), (7, (jL [])), (34, (jB false))] [(4, (.cells 42 [.nil, .nil])), (2, (.cells 42 [(jL []), (jL [(.agg zl16)])]))] []) := by
 have ⟨hc, he, hs, hz, hes, ho⟩ := hQ.a
 refine W_regionO ?_
 rw [show (regOps 10 Tryz.f11).toList = [regO 10 Tryz.f11 0, regO 10 Tryz.f11 1, regO 10 Tryz.f11 2, regO 10 Tryz.f11 3, regO 10 Tryz.f11 4, regO 10 Tryz.f11 5] by kernel_rfl]
 refine WO_pure (jL []) 36 (by kernel_rfl) (by kernel_rfl) ?_
 refine WO_pure (.ptr 2 0) 37 (by kernel_rfl) (by kernel_rfl) ?_
 refine WO_pure (jL []) 38 (by kernel_rfl) (by kernel_rfl) ?_
 refine WO_pure (jL (([DPair.mk (⟨#[118]⟩) s] ++ o).map aPair)) 39 (by kernel_rfl) (by kernel_rfl) ?_
 refine WO_new (nb := (zb6 s o)) (res := .ptr 20 0) (x := .func 17) (args := #[.tmp 36, .tmp 38, .tmp 39]) (tys := #[50, 23, 23]) (f := 17) (fs := []) (cs := []) 40 (by kernel_rfl) (by kernel_rfl) (by kernel_rfl) (nwc (nwx_to ([]) [] ([DPair.mk (⟨#[118]⟩) s] ++ o) (by show 0 ≤ 1073741824; decide) (by decide) (by first | omega | (rw [List.length_append]; show 1 + _ ≤ _; omega))) (by kernel_rfl)) (by kernel_rfl) (by kernel_rfl) ?_
 refine WO_pure (.ptr 20 0) 11 (by kernel_rfl) (by kernel_rfl) ?_
 exact WO_nil rfl ⟨rfl, WK (by kernel_rfl)⟩
theorem u49_to {s : ByteArray} {o : List DPair} (hQ : Qo s o) : CallTo Tryz.prog 34 [(.ptr 1000 0), (.av (.agg zl16)), (.av (.val (.map none)))] (zb7 s o) [] (.av (.tup [(.agg [(vS (⟨#[]⟩)), (.sl []), (.sl [])]), (vB false)])) (zb7 s o) [] := by
 refine bGs Tryz.func34 ?_
 refine gO (tn 7 (kb ff (tn 1 (kb ff (tn 1 (kb ff (tn 1 (kb ff (tn 1 (kb ff (tn 1 (kb tt (kb tt (kb tt (kb tt (kb tt (kb tt (kb tt (kb tt (tn 3 z)))))))))))))))))))) ?_
 exact eNs
theorem u50_to {s : ByteArray} {o : List DPair} (hQ : Qo s o) : CallTo Tryz.prog 37 [(.ptr 1000 0), (jL [(.agg zl13), (.agg zl3), (.agg zl10)]), (.av (.val (.map none)))] (zb7 s o) [] (.av (.tup [(.sl (zl25 s)), (vI 0)])) (zb8 s o) [] := by
 have ⟨hc, he, hs, hz, hes, ho⟩ := hQ.a
 refine bGs Tryz.func37 ?_
 refine gO (tn 6 z) ?_
 refine uN (sx 58 [(0, (.ptr 1000 0)), (2, (.av (.val (.map none)))), (8, .nil), (15, (jL [(.agg zl13), (.agg zl3), (.agg zl10)])), (16, (jI 3)), (17, (jI 0))] (zb7 s o) []) 60 ?_
 refine gO (tn 1 (kb tt (ke (el0 (.agg zl13) [(.agg zl3), (.agg zl10)]) (tn 6 (kb ff (tn 4 (kg (u42_to hQ) trivial (tn 7 (kb ff (tn 1 (kc (q204_to hQ.1) (tn 6 (kp (show Uni 10 [(.agg zl13)] from (uni_one rfl rfl)) (kp (show Uni 10 [(.agg zl13)] ∧ ([(.agg zl13)] : List AV).length * 192 ≤ 140737488355328 from ⟨uni_one rfl rfl, by first | omega | (simp; done) | (simp; omega)⟩) (kw (show ([(.agg zl13)] : List AV) = _ from rfl) (tn 1 (kn (wrE (0 + 1) 1 (by omega)) (tn 1 z)))))))))))))))))) ?_
 refine uA (sx 58 [(0, (.ptr 1000 0)), (2, (.av (.val (.map none)))), (8, (.own (55, 34) 1 10 [(.agg zl13)])), (15, (jL [(.agg zl13), (.agg zl3), (.agg zl10)])), (16, (jI 3)), (17, (jI 1))] (zb7 s o) [((55, 34), 1)]) ?_
 refine gO (tn 1 (kb tt (ke (el1 (.agg zl13) (.agg zl3) [(.agg zl10)]) (tn 6 (kb tt (tn 3 (kg (u15_to hQ) trivial (tn 7 (kb ff (tn 2 (kp (show (1 : Nat) = 1 ∧ Uni 10 [(.agg (zl1 s))] ∧ (([(.agg zl13)] : List AV).length + ([(.agg (zl1 s))] : List AV).length) * 192 ≤ 140737488355328 from ⟨rfl, uni_one rfl rfl, by first | omega | (simp; done) | (simp; omega)⟩) (kw (show ([(.agg zl13), (.agg (zl1 s))] : List AV) = _ from rfl) (tn 1 (kn (wrE (1 + 1) 2 (by omega)) (tn 1 z))))))))))))))) ?_
 refine uA (sx 58 [(0, (.ptr 1000 0)), (2, (.av (.val (.map none)))), (8, (.own (55, 34) 2 10 [(.agg zl13), (.agg (zl1 s))])), (15, (jL [(.agg zl13), (.agg zl3), (.agg zl10)])), (16, (jI 3)), (17, (jI 2))] (zb8 s o) [((55, 34), 2)]) ?_
 refine gO (tn 1 (kb tt (ke (el2 (.agg zl13) (.agg zl3) (.agg zl10) []) (tn 6 (kb ff (tn 4 (kg (u32_to hQ) trivial (tn 7 (kb ff (tn 1 (kc (q192_to hQ.1) (tn 6 (kp (show Uni 10 [(.agg zl10)] from (uni_one rfl rfl)) (kp (show (2 : Nat) = 2 ∧ Uni 10 [(.agg zl10)] ∧ (([(.agg zl13), (.agg (zl1 s))] : List AV).length + ([(.agg zl10)] : List AV).length) * 192 ≤ 140737488355328 from ⟨rfl, uni_one rfl rfl, by first | omega | (simp; done) | (simp; omega)⟩) (kw (show ((zl25 s) : List AV) = _ from rfl) (tn 1 (kn (wrE (2 + 1) 3 (by omega)) (tn 1 z)))))))))))))))))) ?_
 refine uA (sx 58 [(0, (.ptr 1000 0)), (2, (.av (.val (.map none)))), (8, (.own (55, 34) 3 10 [(.agg zl13), (.agg (zl1 s)), (.agg zl10)])), (15, (jL [(.agg zl13), (.agg zl3), (.agg zl10)])), (16, (jI 3)), (17, (jI 3))] (zb8 s o) [((55, 34), 3)]) ?_
 refine gO (tn 1 (kb ff z)) ?_
 refine uO (tn 3 z) ?_
 exact eNs
theorem u48_to {s : ByteArray} {o : List DPair} (hQ : Qo s o) : CallTo Tryz.prog 18 [(.ptr 1000 0), (jL [(.agg zl16)]), (.av (.val (.map none)))] (zb7 s o) [] (.av (.tup [(.sl [(.agg (zl27 s))]), (vI 0)])) (zb8 s o) [] := by
 have ⟨hc, he, hs, hz, hes, ho⟩ := hQ.a
 refine bGs Tryz.func18 ?_
 refine gO (tn 6 z) ?_
 refine uN (sx 105 [(0, (.ptr 1000 0)), (2, (.av (.val (.map none)))), (8, .nil), (19, (jL [(.agg zl16)])), (20, (jI 1)), (21, (jI 0))] (zb7 s o) []) 60 ?_
 refine gO (tn 1 (kb tt (ke (el0 (.agg zl16) []) (tn 4 (kc (q155_to hQ.1) (kb ff (tn 3 (kg (u49_to hQ) trivial (tn 7 (kb ff (tn 2 (kc (q216_to hQ.1) (tn 5 (kg (u50_to hQ) trivial (tn 7 (kb ff (tn 4 (kg (u17_to hQ) trivial (tn 7 (kb ff (tn 1 (kb tt (tn 1 (kc (q217_to hQ.1) (tn 3 (kc (q130_to hQ.1) (tn 11 (kb ff (tn 1 (kb ff (tn 1 (kb ff (tn 1 (kb ff (tn 1 (kb ff (tn 1 (kb ff (tn 1 (kb ff (tn 1 (kb ff (kb tt (tn 2 (kp (show Uni 11 [(.agg (zl27 s))] from (uni_one rfl rfl)) (kp (show Uni 11 [(.agg (zl27 s))] ∧ ([(.agg (zl27 s))] : List AV).length * 192 ≤ 140737488355328 from ⟨uni_one rfl rfl, by first | omega | (simp; done) | (simp; omega)⟩) (kw (show ([(.agg (zl27 s))] : List AV) = _ from rfl) (tn 1 (kn (wrE (0 + 1) 1 (by omega)) (tn 1 z)))))))))))))))))))))))))))))))))))))))))))))))))) ?_
 refine uA (sx 105 [(0, (.ptr 1000 0)), (2, (.av (.val (.map none)))), (8, (.own (102, 39) 1 11 [(.agg (zl27 s))])), (19, (jL [(.agg zl16)])), (20, (jI 1)), (21, (jI 1))] (zb8 s o) [((102, 39), 1)]) ?_
 refine gO (tn 1 (kb ff z)) ?_
 refine uO (tn 3 z) ?_
 exact eNs
theorem u47_to {s : ByteArray} {o : List DPair} (hQ : Qo s o) : CallTo Tryz.prog 11 [(.av (.agg [(.sl []), (.sl [(.agg zl16)])])), (jL (([DPair.mk (⟨#[118]⟩) s] ++ o).map aPair))] [] [] (.av (.tup [(.agg [(.sl []), (.sl [(.agg (zl27 s))])]), (vI 0)])) [] [] := by
 have ⟨hc, he, hs, hz, hes, ho⟩ := hQ.a
 refine bG Tryz.func11 ?_
 refine gO (tn 4 (kc (q117_to hQ.1) (tn 3 (kb ff (tn 1 (kc (q156_to hQ.1) (tn 7 (kb ff (tn 1 (kc (q171_to hQ.1) (tn 6 (kb ff (kq 10 z))))))))))))) ?_
 refine NXW (sx 71 [(2, (.ptr 2 0)), (4, (.ptr 4 0)), (11, (.ptr 20 0))] [(20, (.cells 83 [(.mp 16), (.mp 17), (.mp 18), (jI 0)])), (16, (.map ([]) ([]))), (17, (.map ((varsM ([DPair.mk (⟨#[118]⟩) s] ++ o)).1) ((varsM ([DPair.mk (⟨#[118]⟩) s] ++ o)).2))), (18, (.map ([]) ([]))), (4, (.cells 42 [.nil, .nil])), (2, (.cells 42 [(jL []), (jL [(.agg zl16)])]))] []) (tn 3 (kg (CallTo_ren (swap_inv (18, 0) (1003, 0) rfl) (CallTo_ren (swap_inv (17, 0) (1002, 0) rfl) (CallTo_ren (swap_inv (16, 0) (1001, 0) rfl) (CallTo_ren (swap_inv (20, 0) (1000, 0) rfl) (u48_to hQ))))) trivial (tn 7 (kb ff (tn 2 (kp (show Uni 2 [] ∧ ([] : List AV).length * 32 ≤ 140737488355328 from ⟨by simp [Uni, AV.cells, AV.isTup], by first | omega | (simp; done) | (simp; omega)⟩) (kw (show ([] : List AV) = _ from rfl) (tn 5 (kc (q221_to hQ.1) (tn 1 (kb ff (tn 1 (kc (q224_to hQ.1) (tn 2 (kb ff (tn 1 (kb ff (kc (q225_to hQ.1) (kb ff (tn 1 (kb ff (kb ff (tn 3 z))))))))))))))))))))))) (by kernel_rfl) (W_weak (S' := (sx 71 [(1, (jL (([DPair.mk (⟨#[118]⟩) s] ++ o).map aPair))), (2, (.ptr 2 0)), (4, (.ptr 4 0)), (7, (jL [])), (34, (jB false))] [(4, (.cells 42 [.nil, .nil])), (2, (.cells 42 [(jL []), (jL [(.agg zl16)])]))] [])) (WK (by kernel_rfl)) (W_code (c' := .region 10 (regOps 10 Tryz.f11) false) (by kernel_rfl) (rg16 hQ))) (by kernel_rfl) ?_
 exact eN
end Go.Proofs.YtkgflongbanbgaaGreatDoor
namespace Go.Proofs.YtkgflongbanbgaaGreatDoor
open Go Go.Eng
theorem q228_to {s : ByteArray} (hQ : Qs s) : CallTo Tryz.prog 22 [(jL []), (jL [])] [] [] (jB true) [] [] := by
 refine bG Tryz.func22 ?_
 refine gO (tn 6 (kb ff (tn 1 z))) ?_
 refine uN (sx 26 [(0, (jL [])), (1, (jL [])), (5, (jI 0))] [] []) 60 ?_
 refine gO (tn 4 (kb ff z)) ?_
 refine uO (tn 1 z) ?_
 exact eN
theorem q231_to {s : ByteArray} (hQ : Qs s) : CallTo Tryz.prog 63 [(jL []), (jL [])] [] [] (jB true) [] [] := by
 refine bG Tryz.func63 ?_
 refine gO (tn 6 (kb ff (tn 1 z))) ?_
 refine uN (sx 26 [(0, (jL [])), (1, (jL [])), (5, (jI 0))] [] []) 60 ?_
 refine gO (tn 4 (kb ff z)) ?_
 refine uO (tn 1 z) ?_
 exact eN
theorem q230_to {s : ByteArray} (hQ : Qs s) : CallTo Tryz.prog 42 [(.av (.agg [(vS (⟨#[]⟩)), (.sl []), (.sl [])])), (.av (.agg [(vS (⟨#[]⟩)), (.sl []), (.sl [])]))] [] [] (jB true) [] [] := by
 refine bG Tryz.func42 ?_
 refine gO (tn 9 (kb (show eqs (⟨#[]⟩) (⟨#[]⟩) = true from (by kernel_rfl)) (tn 1 (kb (show eqs (⟨#[]⟩) (⟨#[]⟩) = true from (by kernel_rfl)) (tn 1 (kb (show eqs (⟨#[]⟩) (⟨#[]⟩) = true from (by kernel_rfl)) (tn 1 (kb (show eqs (⟨#[]⟩) (⟨#[]⟩) = true from (by kernel_rfl)) (tn 1 (kb (show eqs (⟨#[]⟩) (⟨#[]⟩) = true from (by kernel_rfl)) (kc (q231_to hQ) (kb (show eqs (⟨#[]⟩) (⟨#[]⟩) = true from (by kernel_rfl)) (tn 1 (kb tt (tn 1 (kb tt (tn 1 (kb tt (tn 1 (kb tt (tn 1 (kb tt (kc (q228_to hQ) (kb tt (tn 1 z))))))))))))))))))))))))) ?_
 exact eN
theorem q233_to {s : ByteArray} (hQ : Qs s) : CallTo Tryz.prog 43 [(jL []), (jL [])] [] [] (jB true) [] [] := by
 refine bG Tryz.func43 ?_
 refine gO (tn 6 (kb ff (tn 1 z))) ?_
 refine uN (sx 105 [(0, (jL [])), (1, (jL [])), (5, (jI 0))] [] []) 60 ?_
 refine gO (tn 4 (kb ff z)) ?_
 refine uO (tn 1 z) ?_
 exact eN
theorem q232_to {s : ByteArray} (hQ : Qs s) : CallTo Tryz.prog 43 [(jL [(.agg (zl1 s))]), (jL [(.agg (zl19 s))])] [] [] (jB true) [] [] := by
 have ⟨hc, he, hs, hz, hes⟩ := hQ.a
 refine bG Tryz.func43 ?_
 refine gO (tn 6 (kb ff (tn 1 z))) ?_
 refine uN (sx 105 [(0, (jL [(.agg (zl1 s))])), (1, (jL [(.agg (zl19 s))])), (5, (jI 0))] [] []) 60 ?_
 refine gO (tn 4 (kb tt z)) ?_
 have d1 := (el0 (.agg (zl1 s)) [])
 have d2 := (el0 (.agg (zl19 s)) [])
 refine DR3 (tn 2 (ko (eO d1) (kp d1 (tn 5 (ko (eO d2) (kp d2 (kp d2 (tn 12 (kb ff (tn 1 (kb ff (tn 1 (kb ff (tn 1 (kb ff (tn 1 (kb ff (tn 1 (kb ff (tn 1 (kb (show (!eqs s ((⟨#[]⟩) ++ s)) = false from (by simp [hes])) (tn 1 (kb (show (!eqs s ((⟨#[]⟩) ++ s)) = false from (by simp [hes])) (tn 1 (kb (show (!eqs s ((⟨#[]⟩) ++ s)) = false from (by simp [hes])) (tn 1 (kb (show (!eqs s ((⟨#[]⟩) ++ s)) = false from (by simp [hes])) (tn 1 (kb (show (!eqs s ((⟨#[]⟩) ++ s)) = false from (by simp [hes])) (tn 1 (kb (show (!eqs s ((⟨#[]⟩) ++ s)) = false from (by simp [hes])) (tn 1 (kb (show (!eqs (⟨#[]⟩) (⟨#[]⟩)) = false from (by rw [show eqs (⟨#[]⟩) (⟨#[]⟩) = true from (by kernel_rfl)]; rfl)) (tn 1 (kb (show (!eqs (⟨#[]⟩) (⟨#[]⟩)) = false from (by rw [show eqs (⟨#[]⟩) (⟨#[]⟩) = true from (by kernel_rfl)]; rfl)) (tn 1 (kb (show (!eqs (⟨#[]⟩) (⟨#[]⟩)) = false from (by rw [show eqs (⟨#[]⟩) (⟨#[]⟩) = true from (by kernel_rfl)]; rfl)) (tn 1 (kb (show (!eqs (⟨#[]⟩) (⟨#[]⟩)) = false from (by rw [show eqs (⟨#[]⟩) (⟨#[]⟩) = true from (by kernel_rfl)]; rfl)) (tn 1 (kb (show (!eqs (⟨#[]⟩) (⟨#[]⟩)) = false from (by rw [show eqs (⟨#[]⟩) (⟨#[]⟩) = true from (by kernel_rfl)]; rfl)) (tn 1 (kb (show (!eqs (⟨#[]⟩) (⟨#[]⟩)) = false from (by rw [show eqs (⟨#[]⟩) (⟨#[]⟩) = true from (by kernel_rfl)]; rfl)) (tn 1 (kb (show (!eqs (⟨#[]⟩) (⟨#[]⟩)) = false from (by rw [show eqs (⟨#[]⟩) (⟨#[]⟩) = true from (by kernel_rfl)]; rfl)) (tn 1 (kb (show (!eqs (⟨#[]⟩) (⟨#[]⟩)) = false from (by rw [show eqs (⟨#[]⟩) (⟨#[]⟩) = true from (by kernel_rfl)]; rfl)) (tn 1 (kb (show (!eqs (⟨#[]⟩) (⟨#[]⟩)) = false from (by rw [show eqs (⟨#[]⟩) (⟨#[]⟩) = true from (by kernel_rfl)]; rfl)) (tn 1 (kb (show (!eqs (⟨#[]⟩) (⟨#[]⟩)) = false from (by rw [show eqs (⟨#[]⟩) (⟨#[]⟩) = true from (by kernel_rfl)]; rfl)) (tn 1 (kb (show (!eqs (⟨#[]⟩) (⟨#[]⟩)) = false from (by rw [show eqs (⟨#[]⟩) (⟨#[]⟩) = true from (by kernel_rfl)]; rfl)) (kc (q230_to hQ) (kb (show (!eqs (⟨#[]⟩) (⟨#[]⟩)) = false from (by rw [show eqs (⟨#[]⟩) (⟨#[]⟩) = true from (by kernel_rfl)]; rfl)) (tn 1 (kb (show (!eqs (⟨#[]⟩) (⟨#[]⟩)) = false from (by rw [show eqs (⟨#[]⟩) (⟨#[]⟩) = true from (by kernel_rfl)]; rfl)) (tn 1 (kb ff (tn 1 (kb ff (tn 1 (kb ff (tn 1 (kb ff (tn 1 (kb ff (kc (q231_to hQ) (kb ff (tn 1 (kb ff (tn 1 (kb ff (tn 1 (kb ff (tn 1 (kb ff (tn 1 (kb ff (tn 1 (kb ff (tn 1 (kb ff (tn 1 (kb ff (tn 1 (kb ff (tn 1 (kb ff (tn 1 (kb ff (tn 1 (kb ff (tn 1 (kb ff (tn 1 (kb ff (kc (q233_to hQ) (kb ff (tn 1 (kb ff (kb ff (tn 1 z))))))))))))))))))))))))))))))))))))))))))))))))))))))))))))))))))))))))))))))))))))))))))))))))))))))) (by kernel_rfl) (by kernel_rfl) (by kernel_rfl) ?_
 refine uN (sx 105 [(0, (jL [(.agg (zl1 s))])), (1, (jL [(.agg (zl19 s))])), (5, (jI 0)), (6, (.ptr 6 0)), (7, (.ptr 7 0)), (8, (jI 0)), (20, (jL [(.agg (zl1 s))])), (21, (jI 0)), (22, (.av (.ro (zl1 s) 0))), (23, (.av (.agg (zl1 s)))), (24, (jL [(.agg (zl19 s))])), (25, (jI 0)), (26, (.av (.ro (zl19 s) 0))), (27, (.av (.agg (zl19 s))))] [(7, (.cells 33 [(jI 1), (jS ((⟨#[]⟩) ++ s)), (jS (⟨#[]⟩)), (jS (⟨#[]⟩)), (jS (⟨#[]⟩)), (jL []), (jL []), (jL []), (jL []), (jL [])])), (6, (.cells 33 [(jI 1), (jS s), (jS (⟨#[]⟩)), (jS (⟨#[]⟩)), (jS (⟨#[]⟩)), (jL []), (jL []), (jL []), (jL []), (jL [])]))] []) 60 ?_
 refine gO (tn 5 (kb ff z)) ?_
 refine uO (tn 1 (kn (wrE (0 + 1) 1 (by omega)) (tn 1 z))) ?_
 refine uA (sx 105 [(0, (jL [(.agg (zl1 s))])), (1, (jL [(.agg (zl19 s))])), (5, (jI 1)), (6, (.ptr 6 0)), (7, (.ptr 7 0)), (20, (jL [(.agg (zl1 s))])), (21, (jI 0)), (22, (.av (.ro (zl1 s) 0))), (23, (.av (.agg (zl1 s)))), (24, (jL [(.agg (zl19 s))])), (25, (jI 0)), (26, (.av (.ro (zl19 s) 0))), (27, (.av (.agg (zl19 s))))] [(7, (.cells 33 [(jI 1), (jS ((⟨#[]⟩) ++ s)), (jS (⟨#[]⟩)), (jS (⟨#[]⟩)), (jS (⟨#[]⟩)), (jL []), (jL []), (jL []), (jL []), (jL [])])), (6, (.cells 33 [(jI 1), (jS s), (jS (⟨#[]⟩)), (jS (⟨#[]⟩)), (jS (⟨#[]⟩)), (jL []), (jL []), (jL []), (jL []), (jL [])]))] []) ?_
 refine gO (tn 4 (kb ff z)) ?_
 refine uO (tn 1 z) ?_
 exact eN
theorem q234_to {s : ByteArray} (hQ : Qs s) : CallTo Tryz.prog 23 [(jL []), (jL [])] [] [] (jB true) [] [] := by
 refine bG Tryz.func23 ?_
 refine gO (tn 6 (kb ff (tn 1 z))) ?_
 refine uN (sx 91 [(0, (jL [])), (1, (jL [])), (5, (jI 0))] [] []) 60 ?_
 refine gO (tn 4 (kb ff z)) ?_
 refine uO (tn 1 z) ?_
 exact eN
theorem q229_to {s : ByteArray} (hQ : Qs s) : CallTo Tryz.prog 23 [(jL [(.agg (zl2 s))]), (jL [(.agg (zl20 s))])] [] [] (jB true) [] [] := by
 have ⟨hc, he, hs, hz, hes⟩ := hQ.a
 refine bG Tryz.func23 ?_
 refine gO (tn 6 (kb ff (tn 1 z))) ?_
 refine uN (sx 91 [(0, (jL [(.agg (zl2 s))])), (1, (jL [(.agg (zl20 s))])), (5, (jI 0))] [] []) 60 ?_
 refine gO (tn 4 (kb tt z)) ?_
 have d1 := (el0 (.agg (zl2 s)) [])
 have d2 := (el0 (.agg (zl20 s)) [])
 refine DR3 (tn 2 (ko (eO d1) (kp d1 (tn 5 (ko (eO d2) (kp d2 (kp d2 (tn 12 (kb ff (tn 1 (kb ff (tn 1 (kb ff (tn 1 (kb ff (tn 1 (kb ff (tn 1 (kb ff (tn 1 (kb ff (tn 1 (kb ff (tn 1 (kb ff (tn 1 (kb ff (tn 1 (kb ff (tn 1 (kb ff (tn 1 (kb (show (!eqs (⟨#[]⟩) (⟨#[]⟩)) = false from (by rw [show eqs (⟨#[]⟩) (⟨#[]⟩) = true from (by kernel_rfl)]; rfl)) (tn 1 (kb (show (!eqs (⟨#[]⟩) (⟨#[]⟩)) = false from (by rw [show eqs (⟨#[]⟩) (⟨#[]⟩) = true from (by kernel_rfl)]; rfl)) (tn 1 (kb (show (!eqs (⟨#[]⟩) (⟨#[]⟩)) = false from (by rw [show eqs (⟨#[]⟩) (⟨#[]⟩) = true from (by kernel_rfl)]; rfl)) (tn 1 (kb (show (!eqs (⟨#[]⟩) (⟨#[]⟩)) = false from (by rw [show eqs (⟨#[]⟩) (⟨#[]⟩) = true from (by kernel_rfl)]; rfl)) (tn 1 (kb (show (!eqs (⟨#[]⟩) (⟨#[]⟩)) = false from (by rw [show eqs (⟨#[]⟩) (⟨#[]⟩) = true from (by kernel_rfl)]; rfl)) (tn 1 (kb (show (!eqs (⟨#[]⟩) (⟨#[]⟩)) = false from (by rw [show eqs (⟨#[]⟩) (⟨#[]⟩) = true from (by kernel_rfl)]; rfl)) (tn 1 (kb (show (!eqs (⟨#[]⟩) (⟨#[]⟩)) = false from (by rw [show eqs (⟨#[]⟩) (⟨#[]⟩) = true from (by kernel_rfl)]; rfl)) (tn 1 (kb (show (!eqs (⟨#[]⟩) (⟨#[]⟩)) = false from (by rw [show eqs (⟨#[]⟩) (⟨#[]⟩) = true from (by kernel_rfl)]; rfl)) (tn 1 (kb (show (!eqs (⟨#[]⟩) (⟨#[]⟩)) = false from (by rw [show eqs (⟨#[]⟩) (⟨#[]⟩) = true from (by kernel_rfl)]; rfl)) (tn 1 (kb (show (!eqs (⟨#[]⟩) (⟨#[]⟩)) = false from (by rw [show eqs (⟨#[]⟩) (⟨#[]⟩) = true from (by kernel_rfl)]; rfl)) (tn 1 (kb (show (!eqs (⟨#[]⟩) (⟨#[]⟩)) = false from (by rw [show eqs (⟨#[]⟩) (⟨#[]⟩) = true from (by kernel_rfl)]; rfl)) (tn 1 (kb (show (!eqs (⟨#[]⟩) (⟨#[]⟩)) = false from (by rw [show eqs (⟨#[]⟩) (⟨#[]⟩) = true from (by kernel_rfl)]; rfl)) (tn 1 (kb (show (!eqs (⟨#[]⟩) (⟨#[]⟩)) = false from (by rw [show eqs (⟨#[]⟩) (⟨#[]⟩) = true from (by kernel_rfl)]; rfl)) (tn 1 (kb (show (!eqs (⟨#[]⟩) (⟨#[]⟩)) = false from (by rw [show eqs (⟨#[]⟩) (⟨#[]⟩) = true from (by kernel_rfl)]; rfl)) (tn 1 (kb (show (!eqs (⟨#[]⟩) (⟨#[]⟩)) = false from (by rw [show eqs (⟨#[]⟩) (⟨#[]⟩) = true from (by kernel_rfl)]; rfl)) (tn 1 (kb (show (!eqs (⟨#[]⟩) (⟨#[]⟩)) = false from (by rw [show eqs (⟨#[]⟩) (⟨#[]⟩) = true from (by kernel_rfl)]; rfl)) (tn 1 (kb (show (!eqs (⟨#[]⟩) (⟨#[]⟩)) = false from (by rw [show eqs (⟨#[]⟩) (⟨#[]⟩) = true from (by kernel_rfl)]; rfl)) (tn 1 (kb (show (!eqs (⟨#[]⟩) (⟨#[]⟩)) = false from (by rw [show eqs (⟨#[]⟩) (⟨#[]⟩) = true from (by kernel_rfl)]; rfl)) (tn 1 (kb (show (!eqs (⟨#[]⟩) (⟨#[]⟩)) = false from (by rw [show eqs (⟨#[]⟩) (⟨#[]⟩) = true from (by kernel_rfl)]; rfl)) (tn 1 (kb (show (!eqs (⟨#[]⟩) (⟨#[]⟩)) = false from (by rw [show eqs (⟨#[]⟩) (⟨#[]⟩) = true from (by kernel_rfl)]; rfl)) (tn 1 (kb (show (!eqs (⟨#[]⟩) (⟨#[]⟩)) = false from (by rw [show eqs (⟨#[]⟩) (⟨#[]⟩) = true from (by kernel_rfl)]; rfl)) (tn 1 (kb (show (!eqs (⟨#[]⟩) (⟨#[]⟩)) = false from (by rw [show eqs (⟨#[]⟩) (⟨#[]⟩) = true from (by kernel_rfl)]; rfl)) (tn 1 (kb (show (!eqs (⟨#[]⟩) (⟨#[]⟩)) = false from (by rw [show eqs (⟨#[]⟩) (⟨#[]⟩) = true from (by kernel_rfl)]; rfl)) (kc (q230_to hQ) (kb (show (!eqs (⟨#[]⟩) (⟨#[]⟩)) = false from (by rw [show eqs (⟨#[]⟩) (⟨#[]⟩) = true from (by kernel_rfl)]; rfl)) (tn 1 (kb (show (!eqs (⟨#[]⟩) (⟨#[]⟩)) = false from (by rw [show eqs (⟨#[]⟩) (⟨#[]⟩) = true from (by kernel_rfl)]; rfl)) (tn 1 (kb ff (tn 1 (kb ff (tn 1 (kb ff (tn 1 (kb ff (tn 1 (kb ff (kc (q232_to hQ) (kb ff (tn 1 (kb ff (tn 1 (kb ff (tn 1 (kb ff (tn 1 (kb ff (tn 1 (kb ff (tn 1 (kb ff (kc (q234_to hQ) (kb ff (tn 1 (kb ff (kb ff (tn 1 (kn (wrE (0 + 1) 1 (by omega)) (tn 1 z))))))))))))))))))))))))))))))))))))))))))))))))))))))))))))))))))))))))))))))))))))))))))))))))))))))))))))))))) (by kernel_rfl) (by kernel_rfl) (by kernel_rfl) ?_
 refine uA (sx 91 [(0, (jL [(.agg (zl2 s))])), (1, (jL [(.agg (zl20 s))])), (5, (jI 1)), (6, (.ptr 6 0)), (7, (.ptr 7 0)), (19, (jL [(.agg (zl2 s))])), (20, (jI 0)), (21, (.av (.ro (zl2 s) 0))), (22, (.av (.agg (zl2 s)))), (23, (jL [(.agg (zl20 s))])), (24, (jI 0)), (25, (.av (.ro (zl20 s) 0))), (26, (.av (.agg (zl20 s))))] [(7, (.cells 38 [(jI 1), (jI 0), (jS (⟨#[]⟩)), (jS (⟨#[]⟩)), (jS (⟨#[]⟩)), (jS (⟨#[]⟩)), (jS (⟨#[]⟩)), (jL []), (jL []), (jL [(.agg (zl19 s))]), (jL [])])), (6, (.cells 38 [(jI 1), (jI 0), (jS (⟨#[]⟩)), (jS (⟨#[]⟩)), (jS (⟨#[]⟩)), (jS (⟨#[]⟩)), (jS (⟨#[]⟩)), (jL []), (jL []), (jL [(.agg (zl1 s))]), (jL [])]))] []) ?_
 refine gO (tn 4 (kb ff z)) ?_
 refine uO (tn 1 z) ?_
 exact eN
theorem q227_to {s : ByteArray} (hQ : Qs s) : CallTo Tryz.prog 12 [(.av (.agg [(.sl []), (.sl [(.agg (zl2 s))])])), (.av (.agg [(.sl []), (.sl [(.agg (zl20 s))])]))] [] [] (jB true) [] [] := by
 refine bG Tryz.func12 ?_
 refine gO (tn 7 (kc (q228_to hQ) (tn 1 (kb tt (tn 1 (kb tt (tn 1 (kb tt (tn 1 (kb tt (tn 1 (kb tt (kc (q229_to hQ) (kb tt (tn 1 z))))))))))))))) ?_
 exact eN
theorem q237_to {s : ByteArray} (hQ : Qs s) : CallTo Tryz.prog 43 [(jL [(.agg (zl21 s))]), (jL [(.agg (zl21 s))])] [] [] (jB true) [] [] := by
 have ⟨hc, he, hs, hz, hes⟩ := hQ.a
 refine bG Tryz.func43 ?_
 refine gO (tn 6 (kb ff (tn 1 z))) ?_
 refine uN (sx 105 [(0, (jL [(.agg (zl21 s))])), (1, (jL [(.agg (zl21 s))])), (5, (jI 0))] [] []) 60 ?_
 refine gO (tn 4 (kb tt z)) ?_
 have d1 := (el0 (.agg (zl21 s)) [])
 have d2 := (el0 (.agg (zl21 s)) [])
 refine DR3 (tn 2 (ko (eO d1) (kp d1 (tn 5 (ko (eO d2) (kp d2 (kp d2 (tn 12 (kb ff (tn 1 (kb ff (tn 1 (kb ff (tn 1 (kb ff (tn 1 (kb ff (tn 1 (kb ff (tn 1 (kb (show (!eqs (((⟨#[]⟩) ++ s) ++ (⟨#[32, 116, 119, 111]⟩)) (((⟨#[]⟩) ++ s) ++ (⟨#[32, 116, 119, 111]⟩))) = false from (by rw [show eqs (((⟨#[]⟩) ++ s) ++ (⟨#[32, 116, 119, 111]⟩)) (((⟨#[]⟩) ++ s) ++ (⟨#[32, 116, 119, 111]⟩)) = true from (eqs_self _)]; rfl)) (tn 1 (kb (show (!eqs (((⟨#[]⟩) ++ s) ++ (⟨#[32, 116, 119, 111]⟩)) (((⟨#[]⟩) ++ s) ++ (⟨#[32, 116, 119, 111]⟩))) = false from (by rw [show eqs (((⟨#[]⟩) ++ s) ++ (⟨#[32, 116, 119, 111]⟩)) (((⟨#[]⟩) ++ s) ++ (⟨#[32, 116, 119, 111]⟩)) = true from (eqs_self _)]; rfl)) (tn 1 (kb (show (!eqs (((⟨#[]⟩) ++ s) ++ (⟨#[32, 116, 119, 111]⟩)) (((⟨#[]⟩) ++ s) ++ (⟨#[32, 116, 119, 111]⟩))) = false from (by rw [show eqs (((⟨#[]⟩) ++ s) ++ (⟨#[32, 116, 119, 111]⟩)) (((⟨#[]⟩) ++ s) ++ (⟨#[32, 116, 119, 111]⟩)) = true from (eqs_self _)]; rfl)) (tn 1 (kb (show (!eqs (((⟨#[]⟩) ++ s) ++ (⟨#[32, 116, 119, 111]⟩)) (((⟨#[]⟩) ++ s) ++ (⟨#[32, 116, 119, 111]⟩))) = false from (by rw [show eqs (((⟨#[]⟩) ++ s) ++ (⟨#[32, 116, 119, 111]⟩)) (((⟨#[]⟩) ++ s) ++ (⟨#[32, 116, 119, 111]⟩)) = true from (eqs_self _)]; rfl)) (tn 1 (kb (show (!eqs (((⟨#[]⟩) ++ s) ++ (⟨#[32, 116, 119, 111]⟩)) (((⟨#[]⟩) ++ s) ++ (⟨#[32, 116, 119, 111]⟩))) = false from (by rw [show eqs (((⟨#[]⟩) ++ s) ++ (⟨#[32, 116, 119, 111]⟩)) (((⟨#[]⟩) ++ s) ++ (⟨#[32, 116, 119, 111]⟩)) = true from (eqs_self _)]; rfl)) (tn 1 (kb (show (!eqs (((⟨#[]⟩) ++ s) ++ (⟨#[32, 116, 119, 111]⟩)) (((⟨#[]⟩) ++ s) ++ (⟨#[32, 116, 119, 111]⟩))) = false from (by rw [show eqs (((⟨#[]⟩) ++ s) ++ (⟨#[32, 116, 119, 111]⟩)) (((⟨#[]⟩) ++ s) ++ (⟨#[32, 116, 119, 111]⟩)) = true from (eqs_self _)]; rfl)) (tn 1 (kb (show (!eqs (⟨#[]⟩) (⟨#[]⟩)) = false from (by rw [show eqs (⟨#[]⟩) (⟨#[]⟩) = true from (by kernel_rfl)]; rfl)) (tn 1 (kb (show (!eqs (⟨#[]⟩) (⟨#[]⟩)) = false from (by rw [show eqs (⟨#[]⟩) (⟨#[]⟩) = true from (by kernel_rfl)]; rfl)) (tn 1 (kb (show (!eqs (⟨#[]⟩) (⟨#[]⟩)) = false from (by rw [show eqs (⟨#[]⟩) (⟨#[]⟩) = true from (by kernel_rfl)]; rfl)) (tn 1 (kb (show (!eqs (⟨#[]⟩) (⟨#[]⟩)) = false from (by rw [show eqs (⟨#[]⟩) (⟨#[]⟩) = true from (by kernel_rfl)]; rfl)) (tn 1 (kb (show (!eqs (⟨#[]⟩) (⟨#[]⟩)) = false from (by rw [show eqs (⟨#[]⟩) (⟨#[]⟩) = true from (by kernel_rfl)]; rfl)) (tn 1 (kb (show (!eqs (⟨#[]⟩) (⟨#[]⟩)) = false from (by rw [show eqs (⟨#[]⟩) (⟨#[]⟩) = true from (by kernel_rfl)]; rfl)) (tn 1 (kb (show (!eqs (⟨#[]⟩) (⟨#[]⟩)) = false from (by rw [show eqs (⟨#[]⟩) (⟨#[]⟩) = true from (by kernel_rfl)]; rfl)) (tn 1 (kb (show (!eqs (⟨#[]⟩) (⟨#[]⟩)) = false from (by rw [show eqs (⟨#[]⟩) (⟨#[]⟩) = true from (by kernel_rfl)]; rfl)) (tn 1 (kb (show (!eqs (⟨#[]⟩) (⟨#[]⟩)) = false from (by rw [show eqs (⟨#[]⟩) (⟨#[]⟩) = true from (by kernel_rfl)]; rfl)) (tn 1 (kb (show (!eqs (⟨#[]⟩) (⟨#[]⟩)) = false from (by rw [show eqs (⟨#[]⟩) (⟨#[]⟩) = true from (by kernel_rfl)]; rfl)) (tn 1 (kb (show (!eqs (⟨#[]⟩) (⟨#[]⟩)) = false from (by rw [show eqs (⟨#[]⟩) (⟨#[]⟩) = true from (by kernel_rfl)]; rfl)) (kc (q230_to hQ) (kb (show (!eqs (⟨#[]⟩) (⟨#[]⟩)) = false from (by rw [show eqs (⟨#[]⟩) (⟨#[]⟩) = true from (by kernel_rfl)]; rfl)) (tn 1 (kb (show (!eqs (⟨#[]⟩) (⟨#[]⟩)) = false from (by rw [show eqs (⟨#[]⟩) (⟨#[]⟩) = true from (by kernel_rfl)]; rfl)) (tn 1 (kb ff (tn 1 (kb ff (tn 1 (kb ff (tn 1 (kb ff (tn 1 (kb ff (kc (q231_to hQ) (kb ff (tn 1 (kb ff (tn 1 (kb ff (tn 1 (kb ff (tn 1 (kb ff (tn 1 (kb ff (tn 1 (kb ff (tn 1 (kb ff (tn 1 (kb ff (tn 1 (kb ff (tn 1 (kb ff (tn 1 (kb ff (tn 1 (kb ff (tn 1 (kb ff (tn 1 (kb ff (kc (q233_to hQ) (kb ff (tn 1 (kb ff (kb ff (tn 1 z))))))))))))))))))))))))))))))))))))))))))))))))))))))))))))))))))))))))))))))))))))))))))))))))))))))) (by kernel_rfl) (by kernel_rfl) (by kernel_rfl) ?_
 refine uN (sx 105 [(0, (jL [(.agg (zl21 s))])), (1, (jL [(.agg (zl21 s))])), (5, (jI 0)), (6, (.ptr 6 0)), (7, (.ptr 7 0)), (8, (jI 0)), (20, (jL [(.agg (zl21 s))])), (21, (jI 0)), (22, (.av (.ro (zl21 s) 0))), (23, (.av (.agg (zl21 s)))), (24, (jL [(.agg (zl21 s))])), (25, (jI 0)), (26, (.av (.ro (zl21 s) 0))), (27, (.av (.agg (zl21 s))))] [(7, (.cells 33 [(jI 1), (jS (((⟨#[]⟩) ++ s) ++ (⟨#[32, 116, 119, 111]⟩))), (jS (⟨#[]⟩)), (jS (⟨#[]⟩)), (jS (⟨#[]⟩)), (jL []), (jL []), (jL []), (jL []), (jL [])])), (6, (.cells 33 [(jI 1), (jS (((⟨#[]⟩) ++ s) ++ (⟨#[32, 116, 119, 111]⟩))), (jS (⟨#[]⟩)), (jS (⟨#[]⟩)), (jS (⟨#[]⟩)), (jL []), (jL []), (jL []), (jL []), (jL [])]))] []) 60 ?_
 refine gO (tn 5 (kb ff z)) ?_
 refine uO (tn 1 (kn (wrE (0 + 1) 1 (by omega)) (tn 1 z))) ?_
 refine uA (sx 105 [(0, (jL [(.agg (zl21 s))])), (1, (jL [(.agg (zl21 s))])), (5, (jI 1)), (6, (.ptr 6 0)), (7, (.ptr 7 0)), (20, (jL [(.agg (zl21 s))])), (21, (jI 0)), (22, (.av (.ro (zl21 s) 0))), (23, (.av (.agg (zl21 s)))), (24, (jL [(.agg (zl21 s))])), (25, (jI 0)), (26, (.av (.ro (zl21 s) 0))), (27, (.av (.agg (zl21 s))))] [(7, (.cells 33 [(jI 1), (jS (((⟨#[]⟩) ++ s) ++ (⟨#[32, 116, 119, 111]⟩))), (jS (⟨#[]⟩)), (jS (⟨#[]⟩)), (jS (⟨#[]⟩)), (jL []), (jL []), (jL []), (jL []), (jL [])])), (6, (.cells 33 [(jI 1), (jS (((⟨#[]⟩) ++ s) ++ (⟨#[32, 116, 119, 111]⟩))), (jS (⟨#[]⟩)), (jS (⟨#[]⟩)), (jS (⟨#[]⟩)), (jL []), (jL []), (jL []), (jL []), (jL [])]))] []) ?_
 refine gO (tn 4 (kb ff z)) ?_
 refine uO (tn 1 z) ?_
 exact eN
theorem q236_to {s : ByteArray} (hQ : Qs s) : CallTo Tryz.prog 23 [(jL [(.agg (zl22 s))]), (jL [(.agg (zl22 s))])] [] [] (jB true) [] [] := by
 have ⟨hc, he, hs, hz, hes⟩ := hQ.a
 refine bG Tryz.func23 ?_
 refine gO (tn 6 (kb ff (tn 1 z))) ?_
 refine uN (sx 91 [(0, (jL [(.agg (zl22 s))])), (1, (jL [(.agg (zl22 s))])), (5, (jI 0))] [] []) 60 ?_
 refine gO (tn 4 (kb tt z)) ?_
 have d1 := (el0 (.agg (zl22 s)) [])
 have d2 := (el0 (.agg (zl22 s)) [])
 refine DR3 (tn 2 (ko (eO d1) (kp d1 (tn 5 (ko (eO d2) (kp d2 (kp d2 (tn 12 (kb ff (tn 1 (kb ff (tn 1 (kb ff (tn 1 (kb ff (tn 1 (kb ff (tn 1 (kb ff (tn 1 (kb ff (tn 1 (kb ff (tn 1 (kb ff (tn 1 (kb ff (tn 1 (kb ff (tn 1 (kb ff (tn 1 (kb (show (!eqs (⟨#[]⟩) (⟨#[]⟩)) = false from (by rw [show eqs (⟨#[]⟩) (⟨#[]⟩) = true from (by kernel_rfl)]; rfl)) (tn 1 (kb (show (!eqs (⟨#[]⟩) (⟨#[]⟩)) = false from (by rw [show eqs (⟨#[]⟩) (⟨#[]⟩) = true from (by kernel_rfl)]; rfl)) (tn 1 (kb (show (!eqs (⟨#[]⟩) (⟨#[]⟩)) = false from (by rw [show eqs (⟨#[]⟩) (⟨#[]⟩) = true from (by kernel_rfl)]; rfl)) (tn 1 (kb (show (!eqs (⟨#[]⟩) (⟨#[]⟩)) = false from (by rw [show eqs (⟨#[]⟩) (⟨#[]⟩) = true from (by kernel_rfl)]; rfl)) (tn 1 (kb (show (!eqs (⟨#[]⟩) (⟨#[]⟩)) = false from (by rw [show eqs (⟨#[]⟩) (⟨#[]⟩) = true from (by kernel_rfl)]; rfl)) (tn 1 (kb (show (!eqs (⟨#[]⟩) (⟨#[]⟩)) = false from (by rw [show eqs (⟨#[]⟩) (⟨#[]⟩) = true from (by kernel_rfl)]; rfl)) (tn 1 (kb (show (!eqs (⟨#[]⟩) (⟨#[]⟩)) = false from (by rw [show eqs (⟨#[]⟩) (⟨#[]⟩) = true from (by kernel_rfl)]; rfl)) (tn 1 (kb (show (!eqs (⟨#[]⟩) (⟨#[]⟩)) = false from (by rw [show eqs (⟨#[]⟩) (⟨#[]⟩) = true from (by kernel_rfl)]; rfl)) (tn 1 (kb (show (!eqs (⟨#[]⟩) (⟨#[]⟩)) = false from (by rw [show eqs (⟨#[]⟩) (⟨#[]⟩) = true from (by kernel_rfl)]; rfl)) (tn 1 (kb (show (!eqs (⟨#[]⟩) (⟨#[]⟩)) = false from (by rw [show eqs (⟨#[]⟩) (⟨#[]⟩) = true from (by kernel_rfl)]; rfl)) (tn 1 (kb (show (!eqs (⟨#[]⟩) (⟨#[]⟩)) = false from (by rw [show eqs (⟨#[]⟩) (⟨#[]⟩) = true from (by kernel_rfl)]; rfl)) (tn 1 (kb (show (!eqs (⟨#[]⟩) (⟨#[]⟩)) = false from (by rw [show eqs (⟨#[]⟩) (⟨#[]⟩) = true from (by kernel_rfl)]; rfl)) (tn 1 (kb (show (!eqs (⟨#[]⟩) (⟨#[]⟩)) = false from (by rw [show eqs (⟨#[]⟩) (⟨#[]⟩) = true from (by kernel_rfl)]; rfl)) (tn 1 (kb (show (!eqs (⟨#[]⟩) (⟨#[]⟩)) = false from (by rw [show eqs (⟨#[]⟩) (⟨#[]⟩) = true from (by kernel_rfl)]; rfl)) (tn 1 (kb (show (!eqs (⟨#[]⟩) (⟨#[]⟩)) = false from (by rw [show eqs (⟨#[]⟩) (⟨#[]⟩) = true from (by kernel_rfl)]; rfl)) (tn 1 (kb (show (!eqs (⟨#[]⟩) (⟨#[]⟩)) = false from (by rw [show eqs (⟨#[]⟩) (⟨#[]⟩) = true from (by kernel_rfl)]; rfl)) (tn 1 (kb (show (!eqs (⟨#[]⟩) (⟨#[]⟩)) = false from (by rw [show eqs (⟨#[]⟩) (⟨#[]⟩) = true from (by kernel_rfl)]; rfl)) (tn 1 (kb (show (!eqs (⟨#[]⟩) (⟨#[]⟩)) = false from (by rw [show eqs (⟨#[]⟩) (⟨#[]⟩) = true from (by kernel_rfl)]; rfl)) (tn 1 (kb (show (!eqs (⟨#[]⟩) (⟨#[]⟩)) = false from (by rw [show eqs (⟨#[]⟩) (⟨#[]⟩) = true from (by kernel_rfl)]; rfl)) (tn 1 (kb (show (!eqs (⟨#[]⟩) (⟨#[]⟩)) = false from (by rw [show eqs (⟨#[]⟩) (⟨#[]⟩) = true from (by kernel_rfl)]; rfl)) (tn 1 (kb (show (!eqs (⟨#[]⟩) (⟨#[]⟩)) = false from (by rw [show eqs (⟨#[]⟩) (⟨#[]⟩) = true from (by kernel_rfl)]; rfl)) (tn 1 (kb (show (!eqs (⟨#[]⟩) (⟨#[]⟩)) = false from (by rw [show eqs (⟨#[]⟩) (⟨#[]⟩) = true from (by kernel_rfl)]; rfl)) (tn 1 (kb (show (!eqs (⟨#[]⟩) (⟨#[]⟩)) = false from (by rw [show eqs (⟨#[]⟩) (⟨#[]⟩) = true from (by kernel_rfl)]; rfl)) (kc (q230_to hQ) (kb (show (!eqs (⟨#[]⟩) (⟨#[]⟩)) = false from (by rw [show eqs (⟨#[]⟩) (⟨#[]⟩) = true from (by kernel_rfl)]; rfl)) (tn 1 (kb (show (!eqs (⟨#[]⟩) (⟨#[]⟩)) = false from (by rw [show eqs (⟨#[]⟩) (⟨#[]⟩) = true from (by kernel_rfl)]; rfl)) (tn 1 (kb ff (tn 1 (kb ff (tn 1 (kb ff (tn 1 (kb ff (tn 1 (kb ff (kc (q237_to hQ) (kb ff (tn 1 (kb ff (tn 1 (kb ff (tn 1 (kb ff (tn 1 (kb ff (tn 1 (kb ff (tn 1 (kb ff (kc (q234_to hQ) (kb ff (tn 1 (kb ff (kb ff (tn 1 (kn (wrE (0 + 1) 1 (by omega)) (tn 1 z))))))))))))))))))))))))))))))))))))))))))))))))))))))))))))))))))))))))))))))))))))))))))))))))))))))))))))))))) (by kernel_rfl) (by kernel_rfl) (by kernel_rfl) ?_
 refine uA (sx 91 [(0, (jL [(.agg (zl22 s))])), (1, (jL [(.agg (zl22 s))])), (5, (jI 1)), (6, (.ptr 6 0)), (7, (.ptr 7 0)), (19, (jL [(.agg (zl22 s))])), (20, (jI 0)), (21, (.av (.ro (zl22 s) 0))), (22, (.av (.agg (zl22 s)))), (23, (jL [(.agg (zl22 s))])), (24, (jI 0)), (25, (.av (.ro (zl22 s) 0))), (26, (.av (.agg (zl22 s))))] [(7, (.cells 38 [(jI 1), (jI 0), (jS (⟨#[]⟩)), (jS (⟨#[]⟩)), (jS (⟨#[]⟩)), (jS (⟨#[]⟩)), (jS (⟨#[]⟩)), (jL []), (jL []), (jL [(.agg (zl21 s))]), (jL [])])), (6, (.cells 38 [(jI 1), (jI 0), (jS (⟨#[]⟩)), (jS (⟨#[]⟩)), (jS (⟨#[]⟩)), (jS (⟨#[]⟩)), (jS (⟨#[]⟩)), (jL []), (jL []), (jL [(.agg (zl21 s))]), (jL [])]))] []) ?_
 refine gO (tn 4 (kb ff z)) ?_
 refine uO (tn 1 z) ?_
 exact eN
theorem q235_to {s : ByteArray} (hQ : Qs s) : CallTo Tryz.prog 12 [(.av (.agg [(.sl []), (.sl [(.agg (zl22 s))])])), (.av (.agg [(.sl []), (.sl [(.agg (zl22 s))])]))] [] [] (jB true) [] [] := by
 refine bG Tryz.func12 ?_
 refine gO (tn 7 (kc (q228_to hQ) (tn 1 (kb tt (tn 1 (kb tt (tn 1 (kb tt (tn 1 (kb tt (tn 1 (kb tt (kc (q236_to hQ) (kb tt (tn 1 z))))))))))))))) ?_
 exact eN
theorem q240_to {s : ByteArray} (hQ : Qs s) : CallTo Tryz.prog 43 [(jL [(.agg (zl23 s))]), (jL [(.agg (zl23 s))])] [] [] (jB true) [] [] := by
 have ⟨hc, he, hs, hz, hes⟩ := hQ.a
 refine bG Tryz.func43 ?_
 refine gO (tn 6 (kb ff (tn 1 z))) ?_
 refine uN (sx 105 [(0, (jL [(.agg (zl23 s))])), (1, (jL [(.agg (zl23 s))])), (5, (jI 0))] [] []) 60 ?_
 refine gO (tn 4 (kb tt z)) ?_
 have d1 := (el0 (.agg (zl23 s)) [])
 have d2 := (el0 (.agg (zl23 s)) [])
 refine DR3 (tn 2 (ko (eO d1) (kp d1 (tn 5 (ko (eO d2) (kp d2 (kp d2 (tn 12 (kb ff (tn 1 (kb ff (tn 1 (kb ff (tn 1 (kb ff (tn 1 (kb ff (tn 1 (kb ff (tn 1 (kb (show (!eqs (((⟨#[]⟩) ++ (⟨#[111, 110, 101, 32]⟩)) ++ s) (((⟨#[]⟩) ++ (⟨#[111, 110, 101, 32]⟩)) ++ s)) = false from (by rw [show eqs (((⟨#[]⟩) ++ (⟨#[111, 110, 101, 32]⟩)) ++ s) (((⟨#[]⟩) ++ (⟨#[111, 110, 101, 32]⟩)) ++ s) = true from (eqs_self _)]; rfl)) (tn 1 (kb (show (!eqs (((⟨#[]⟩) ++ (⟨#[111, 110, 101, 32]⟩)) ++ s) (((⟨#[]⟩) ++ (⟨#[111, 110, 101, 32]⟩)) ++ s)) = false from (by rw [show eqs (((⟨#[]⟩) ++ (⟨#[111, 110, 101, 32]⟩)) ++ s) (((⟨#[]⟩) ++ (⟨#[111, 110, 101, 32]⟩)) ++ s) = true from (eqs_self _)]; rfl)) (tn 1 (kb (show (!eqs (((⟨#[]⟩) ++ (⟨#[111, 110, 101, 32]⟩)) ++ s) (((⟨#[]⟩) ++ (⟨#[111, 110, 101, 32]⟩)) ++ s)) = false from (by rw [show eqs (((⟨#[]⟩) ++ (⟨#[111, 110, 101, 32]⟩)) ++ s) (((⟨#[]⟩) ++ (⟨#[111, 110, 101, 32]⟩)) ++ s) = true from (eqs_self _)]; rfl)) (tn 1 (kb (show (!eqs (((⟨#[]⟩) ++ (⟨#[111, 110, 101, 32]⟩)) ++ s) (((⟨#[]⟩) ++ (⟨#[111, 110, 101, 32]⟩)) ++ s)) = false from (by rw [show eqs (((⟨#[]⟩) ++ (⟨#[111, 110, 101, 32]⟩)) ++ s) (((⟨#[]⟩) ++ (⟨#[111, 110, 101, 32]⟩)) ++ s) = true from (eqs_self _)]; rfl)) (tn 1 (kb (show (!eqs (((⟨#[]⟩) ++ (⟨#[111, 110, 101, 32]⟩)) ++ s) (((⟨#[]⟩) ++ (⟨#[111, 110, 101, 32]⟩)) ++ s)) = false from (by rw [show eqs (((⟨#[]⟩) ++ (⟨#[111, 110, 101, 32]⟩)) ++ s) (((⟨#[]⟩) ++ (⟨#[111, 110, 101, 32]⟩)) ++ s) = true from (eqs_self _)]; rfl)) (tn 1 (kb (show (!eqs (((⟨#[]⟩) ++ (⟨#[111, 110, 101, 32]⟩)) ++ s) (((⟨#[]⟩) ++ (⟨#[111, 110, 101, 32]⟩)) ++ s)) = false from (by rw [show eqs (((⟨#[]⟩) ++ (⟨#[111, 110, 101, 32]⟩)) ++ s) (((⟨#[]⟩) ++ (⟨#[111, 110, 101, 32]⟩)) ++ s) = true from (eqs_self _)]; rfl)) (tn 1 (kb (show (!eqs (⟨#[]⟩) (⟨#[]⟩)) = false from (by rw [show eqs (⟨#[]⟩) (⟨#[]⟩) = true from (by kernel_rfl)]; rfl)) (tn 1 (kb (show (!eqs (⟨#[]⟩) (⟨#[]⟩)) = false from (by rw [show eqs (⟨#[]⟩) (⟨#[]⟩) = true from (by kernel_rfl)]; rfl)) (tn 1 (kb (show (!eqs (⟨#[]⟩) (⟨#[]⟩)) = false from (by rw [show eqs (⟨#[]⟩) (⟨#[]⟩) = true from (by kernel_rfl)]; rfl)) (tn 1 (kb (show (!eqs (⟨#[]⟩) (⟨#[]⟩)) = false from (by rw [show eqs (⟨#[]⟩) (⟨#[]⟩) = true from (by kernel_rfl)]; rfl)) (tn 1 (kb (show (!eqs (⟨#[]⟩) (⟨#[]⟩)) = false from (by rw [show eqs (⟨#[]⟩) (⟨#[]⟩) = true from (by kernel_rfl)]; rfl)) (tn 1 (kb (show (!eqs (⟨#[]⟩) (⟨#[]⟩)) = false from (by rw [show eqs (⟨#[]⟩) (⟨#[]⟩) = true from (by kernel_rfl)]; rfl)) (tn 1 (kb (show (!eqs (⟨#[]⟩) (⟨#[]⟩)) = false from (by rw [show eqs (⟨#[]⟩) (⟨#[]⟩) = true from (by kernel_rfl)]; rfl)) (tn 1 (kb (show (!eqs (⟨#[]⟩) (⟨#[]⟩)) = false from (by rw [show eqs (⟨#[]⟩) (⟨#[]⟩) = true from (by kernel_rfl)]; rfl)) (tn 1 (kb (show (!eqs (⟨#[]⟩) (⟨#[]⟩)) = false from (by rw [show eqs (⟨#[]⟩) (⟨#[]⟩) = true from (by kernel_rfl)]; rfl)) (tn 1 (kb (show (!eqs (⟨#[]⟩) (⟨#[]⟩)) = false from (by rw [show eqs (⟨#[]⟩) (⟨#[]⟩) = true from (by kernel_rfl)]; rfl)) (tn 1 (kb (show (!eqs (⟨#[]⟩) (⟨#[]⟩)) = false from (by rw [show eqs (⟨#[]⟩) (⟨#[]⟩) = true from (by kernel_rfl)]; rfl)) (kc (q230_to hQ) (kb (show (!eqs (⟨#[]⟩) (⟨#[]⟩)) = false from (by rw [show eqs (⟨#[]⟩) (⟨#[]⟩) = true from (by kernel_rfl)]; rfl)) (tn 1 (kb (show (!eqs (⟨#[]⟩) (⟨#[]⟩)) = false from (by rw [show eqs (⟨#[]⟩) (⟨#[]⟩) = true from (by kernel_rfl)]; rfl)) (tn 1 (kb ff (tn 1 (kb ff (tn 1 (kb ff (tn 1 (kb ff (tn 1 (kb ff (kc (q231_to hQ) (kb ff (tn 1 (kb ff (tn 1 (kb ff (tn 1 (kb ff (tn 1 (kb ff (tn 1 (kb ff (tn 1 (kb ff (tn 1 (kb ff (tn 1 (kb ff (tn 1 (kb ff (tn 1 (kb ff (tn 1 (kb ff (tn 1 (kb ff (tn 1 (kb ff (tn 1 (kb ff (kc (q233_to hQ) (kb ff (tn 1 (kb ff (kb ff (tn 1 z))))))))))))))))))))))))))))))))))))))))))))))))))))))))))))))))))))))))))))))))))))))))))))))))))))))) (by kernel_rfl) (by kernel_rfl) (by kernel_rfl) ?_
 refine uN (sx 105 [(0, (jL [(.agg (zl23 s))])), (1, (jL [(.agg (zl23 s))])), (5, (jI 0)), (6, (.ptr 6 0)), (7, (.ptr 7 0)), (8, (jI 0)), (20, (jL [(.agg (zl23 s))])), (21, (jI 0)), (22, (.av (.ro (zl23 s) 0))), (23, (.av (.agg (zl23 s)))), (24, (jL [(.agg (zl23 s))])), (25, (jI 0)), (26, (.av (.ro (zl23 s) 0))), (27, (.av (.agg (zl23 s))))] [(7, (.cells 33 [(jI 1), (jS (((⟨#[]⟩) ++ (⟨#[111, 110, 101, 32]⟩)) ++ s)), (jS (⟨#[]⟩)), (jS (⟨#[]⟩)), (jS (⟨#[]⟩)), (jL []), (jL []), (jL []), (jL []), (jL [])])), (6, (.cells 33 [(jI 1), (jS (((⟨#[]⟩) ++ (⟨#[111, 110, 101, 32]⟩)) ++ s)), (jS (⟨#[]⟩)), (jS (⟨#[]⟩)), (jS (⟨#[]⟩)), (jL []), (jL []), (jL []), (jL []), (jL [])]))] []) 60 ?_
 refine gO (tn 5 (kb ff z)) ?_
 refine uO (tn 1 (kn (wrE (0 + 1) 1 (by omega)) (tn 1 z))) ?_
 refine uA (sx 105 [(0, (jL [(.agg (zl23 s))])), (1, (jL [(.agg (zl23 s))])), (5, (jI 1)), (6, (.ptr 6 0)), (7, (.ptr 7 0)), (20, (jL [(.agg (zl23 s))])), (21, (jI 0)), (22, (.av (.ro (zl23 s) 0))), (23, (.av (.agg (zl23 s)))), (24, (jL [(.agg (zl23 s))])), (25, (jI 0)), (26, (.av (.ro (zl23 s) 0))), (27, (.av (.agg (zl23 s))))] [(7, (.cells 33 [(jI 1), (jS (((⟨#[]⟩) ++ (⟨#[111, 110, 101, 32]⟩)) ++ s)), (jS (⟨#[]⟩)), (jS (⟨#[]⟩)), (jS (⟨#[]⟩)), (jL []), (jL []), (jL []), (jL []), (jL [])])), (6, (.cells 33 [(jI 1), (jS (((⟨#[]⟩) ++ (⟨#[111, 110, 101, 32]⟩)) ++ s)), (jS (⟨#[]⟩)), (jS (⟨#[]⟩)), (jS (⟨#[]⟩)), (jL []), (jL []), (jL []), (jL []), (jL [])]))] []) ?_
 refine gO (tn 4 (kb ff z)) ?_
 refine uO (tn 1 z) ?_
 exact eN
theorem q239_to {s : ByteArray} (hQ : Qs s) : CallTo Tryz.prog 23 [(jL [(.agg (zl24 s))]), (jL [(.agg (zl24 s))])] [] [] (jB true) [] [] := by
 have ⟨hc, he, hs, hz, hes⟩ := hQ.a
 refine bG Tryz.func23 ?_
 refine gO (tn 6 (kb ff (tn 1 z))) ?_
 refine uN (sx 91 [(0, (jL [(.agg (zl24 s))])), (1, (jL [(.agg (zl24 s))])), (5, (jI 0))] [] []) 60 ?_
 refine gO (tn 4 (kb tt z)) ?_
 have d1 := (el0 (.agg (zl24 s)) [])
 have d2 := (el0 (.agg (zl24 s)) [])
 refine DR3 (tn 2 (ko (eO d1) (kp d1 (tn 5 (ko (eO d2) (kp d2 (kp d2 (tn 12 (kb ff (tn 1 (kb ff (tn 1 (kb ff (tn 1 (kb ff (tn 1 (kb ff (tn 1 (kb ff (tn 1 (kb ff (tn 1 (kb ff (tn 1 (kb ff (tn 1 (kb ff (tn 1 (kb ff (tn 1 (kb ff (tn 1 (kb (show (!eqs (⟨#[]⟩) (⟨#[]⟩)) = false from (by rw [show eqs (⟨#[]⟩) (⟨#[]⟩) = true from (by kernel_rfl)]; rfl)) (tn 1 (kb (show (!eqs (⟨#[]⟩) (⟨#[]⟩)) = false from (by rw [show eqs (⟨#[]⟩) (⟨#[]⟩) = true from (by kernel_rfl)]; rfl)) (tn 1 (kb (show (!eqs (⟨#[]⟩) (⟨#[]⟩)) = false from (by rw [show eqs (⟨#[]⟩) (⟨#[]⟩) = true from (by kernel_rfl)]; rfl)) (tn 1 (kb (show (!eqs (⟨#[]⟩) (⟨#[]⟩)) = false from (by rw [show eqs (⟨#[]⟩) (⟨#[]⟩) = true from (by kernel_rfl)]; rfl)) (tn 1 (kb (show (!eqs (⟨#[]⟩) (⟨#[]⟩)) = false from (by rw [show eqs (⟨#[]⟩) (⟨#[]⟩) = true from (by kernel_rfl)]; rfl)) (tn 1 (kb (show (!eqs (⟨#[]⟩) (⟨#[]⟩)) = false from (by rw [show eqs (⟨#[]⟩) (⟨#[]⟩) = true from (by kernel_rfl)]; rfl)) (tn 1 (kb (show (!eqs (⟨#[]⟩) (⟨#[]⟩)) = false from (by rw [show eqs (⟨#[]⟩) (⟨#[]⟩) = true from (by kernel_rfl)]; rfl)) (tn 1 (kb (show (!eqs (⟨#[]⟩) (⟨#[]⟩)) = false from (by rw [show eqs (⟨#[]⟩) (⟨#[]⟩) = true from (by kernel_rfl)]; rfl)) (tn 1 (kb (show (!eqs (⟨#[]⟩) (⟨#[]⟩)) = false from (by rw [show eqs (⟨#[]⟩) (⟨#[]⟩) = true from (by kernel_rfl)]; rfl)) (tn 1 (kb (show (!eqs (⟨#[]⟩) (⟨#[]⟩)) = false from (by rw [show eqs (⟨#[]⟩) (⟨#[]⟩) = true from (by kernel_rfl)]; rfl)) (tn 1 (kb (show (!eqs (⟨#[]⟩) (⟨#[]⟩)) = false from (by rw [show eqs (⟨#[]⟩) (⟨#[]⟩) = true from (by kernel_rfl)]; rfl)) (tn 1 (kb (show (!eqs (⟨#[]⟩) (⟨#[]⟩)) = false from (by rw [show eqs (⟨#[]⟩) (⟨#[]⟩) = true from (by kernel_rfl)]; rfl)) (tn 1 (kb (show (!eqs (⟨#[]⟩) (⟨#[]⟩)) = false from (by rw [show eqs (⟨#[]⟩) (⟨#[]⟩) = true from (by kernel_rfl)]; rfl)) (tn 1 (kb (show (!eqs (⟨#[]⟩) (⟨#[]⟩)) = false from (by rw [show eqs (⟨#[]⟩) (⟨#[]⟩) = true from (by kernel_rfl)]; rfl)) (tn 1 (kb (show (!eqs (⟨#[]⟩) (⟨#[]⟩)) = false from (by rw [show eqs (⟨#[]⟩) (⟨#[]⟩) = true from (by kernel_rfl)]; rfl)) (tn 1 (kb (show (!eqs (⟨#[]⟩) (⟨#[]⟩)) = false from (by rw [show eqs (⟨#[]⟩) (⟨#[]⟩) = true from (by kernel_rfl)]; rfl)) (tn 1 (kb (show (!eqs (⟨#[]⟩) (⟨#[]⟩)) = false from (by rw [show eqs (⟨#[]⟩) (⟨#[]⟩) = true from (by kernel_rfl)]; rfl)) (tn 1 (kb (show (!eqs (⟨#[]⟩) (⟨#[]⟩)) = false from (by rw [show eqs (⟨#[]⟩) (⟨#[]⟩) = true from (by kernel_rfl)]; rfl)) (tn 1 (kb (show (!eqs (⟨#[]⟩) (⟨#[]⟩)) = false from (by rw [show eqs (⟨#[]⟩) (⟨#[]⟩) = true from (by kernel_rfl)]; rfl)) (tn 1 (kb (show (!eqs (⟨#[]⟩) (⟨#[]⟩)) = false from (by rw [show eqs (⟨#[]⟩) (⟨#[]⟩) = true from (by kernel_rfl)]; rfl)) (tn 1 (kb (show (!eqs (⟨#[]⟩) (⟨#[]⟩)) = false from (by rw [show eqs (⟨#[]⟩) (⟨#[]⟩) = true from (by kernel_rfl)]; rfl)) (tn 1 (kb (show (!eqs (⟨#[]⟩) (⟨#[]⟩)) = false from (by rw [show eqs (⟨#[]⟩) (⟨#[]⟩) = true from (by kernel_rfl)]; rfl)) (tn 1 (kb (show (!eqs (⟨#[]⟩) (⟨#[]⟩)) = false from (by rw [show eqs (⟨#[]⟩) (⟨#[]⟩) = true from (by kernel_rfl)]; rfl)) (kc (q230_to hQ) (kb (show (!eqs (⟨#[]⟩) (⟨#[]⟩)) = false from (by rw [show eqs (⟨#[]⟩) (⟨#[]⟩) = true from (by kernel_rfl)]; rfl)) (tn 1 (kb (show (!eqs (⟨#[]⟩) (⟨#[]⟩)) = false from (by rw [show eqs (⟨#[]⟩) (⟨#[]⟩) = true from (by kernel_rfl)]; rfl)) (tn 1 (kb ff (tn 1 (kb ff (tn 1 (kb ff (tn 1 (kb ff (tn 1 (kb ff (kc (q240_to hQ) (kb ff (tn 1 (kb ff (tn 1 (kb ff (tn 1 (kb ff (tn 1 (kb ff (tn 1 (kb ff (tn 1 (kb ff (kc (q234_to hQ) (kb ff (tn 1 (kb ff (kb ff (tn 1 (kn (wrE (0 + 1) 1 (by omega)) (tn 1 z))))))))))))))))))))))))))))))))))))))))))))))))))))))))))))))))))))))))))))))))))))))))))))))))))))))))))))))))) (by kernel_rfl) (by kernel_rfl) (by kernel_rfl) ?_
 refine uA (sx 91 [(0, (jL [(.agg (zl24 s))])), (1, (jL [(.agg (zl24 s))])), (5, (jI 1)), (6, (.ptr 6 0)), (7, (.ptr 7 0)), (19, (jL [(.agg (zl24 s))])), (20, (jI 0)), (21, (.av (.ro (zl24 s) 0))), (22, (.av (.agg (zl24 s)))), (23, (jL [(.agg (zl24 s))])), (24, (jI 0)), (25, (.av (.ro (zl24 s) 0))), (26, (.av (.agg (zl24 s))))] [(7, (.cells 38 [(jI 1), (jI 0), (jS (⟨#[]⟩)), (jS (⟨#[]⟩)), (jS (⟨#[]⟩)), (jS (⟨#[]⟩)), (jS (⟨#[]⟩)), (jL []), (jL []), (jL [(.agg (zl23 s))]), (jL [])])), (6, (.cells 38 [(jI 1), (jI 0), (jS (⟨#[]⟩)), (jS (⟨#[]⟩)), (jS (⟨#[]⟩)), (jS (⟨#[]⟩)), (jS (⟨#[]⟩)), (jL []), (jL []), (jL [(.agg (zl23 s))]), (jL [])]))] []) ?_
 refine gO (tn 4 (kb ff z)) ?_
 refine uO (tn 1 z) ?_
 exact eN
theorem q238_to {s : ByteArray} (hQ : Qs s) : CallTo Tryz.prog 12 [(.av (.agg [(.sl []), (.sl [(.agg (zl24 s))])])), (.av (.agg [(.sl []), (.sl [(.agg (zl24 s))])]))] [] [] (jB true) [] [] := by
 refine bG Tryz.func12 ?_
 refine gO (tn 7 (kc (q228_to hQ) (tn 1 (kb tt (tn 1 (kb tt (tn 1 (kb tt (tn 1 (kb tt (tn 1 (kb tt (kc (q239_to hQ) (kb tt (tn 1 z))))))))))))))) ?_
 exact eN
theorem q243_to {s : ByteArray} (hQ : Qs s) : CallTo Tryz.prog 43 [(jL [(.agg (zl26 s))]), (jL [(.agg (zl26 s))])] [] [] (jB true) [] [] := by
 have ⟨hc, he, hs, hz, hes⟩ := hQ.a
 refine bG Tryz.func43 ?_
 refine gO (tn 6 (kb ff (tn 1 z))) ?_
 refine uN (sx 105 [(0, (jL [(.agg (zl26 s))])), (1, (jL [(.agg (zl26 s))])), (5, (jI 0))] [] []) 60 ?_
 refine gO (tn 4 (kb tt z)) ?_
 have d1 := (el0 (.agg (zl26 s)) [])
 have d2 := (el0 (.agg (zl26 s)) [])
 refine DR3 (tn 2 (ko (eO d1) (kp d1 (tn 5 (ko (eO d2) (kp d2 (kp d2 (tn 12 (kb ff (tn 1 (kb ff (tn 1 (kb ff (tn 1 (kb ff (tn 1 (kb ff (tn 1 (kb ff (tn 1 (kb (show (!eqs ((((⟨#[]⟩) ++ (⟨#[111, 110, 101, 32]⟩)) ++ s) ++ (⟨#[32, 116, 119, 111]⟩)) ((((⟨#[]⟩) ++ (⟨#[111, 110, 101, 32]⟩)) ++ s) ++ (⟨#[32, 116, 119, 111]⟩))) = false from (by rw [show eqs ((((⟨#[]⟩) ++ (⟨#[111, 110, 101, 32]⟩)) ++ s) ++ (⟨#[32, 116, 119, 111]⟩)) ((((⟨#[]⟩) ++ (⟨#[111, 110, 101, 32]⟩)) ++ s) ++ (⟨#[32, 116, 119, 111]⟩)) = true from (eqs_self _)]; rfl)) (tn 1 (kb (show (!eqs ((((⟨#[]⟩) ++ (⟨#[111, 110, 101, 32]⟩)) ++ s) ++ (⟨#[32, 116, 119, 111]⟩)) ((((⟨#[]⟩) ++ (⟨#[111, 110, 101, 32]⟩)) ++ s) ++ (⟨#[32, 116, 119, 111]⟩))) = false from (by rw [show eqs ((((⟨#[]⟩) ++ (⟨#[111, 110, 101, 32]⟩)) ++ s) ++ (⟨#[32, 116, 119, 111]⟩)) ((((⟨#[]⟩) ++ (⟨#[111, 110, 101, 32]⟩)) ++ s) ++ (⟨#[32, 116, 119, 111]⟩)) = true from (eqs_self _)]; rfl)) (tn 1 (kb (show (!eqs ((((⟨#[]⟩) ++ (⟨#[111, 110, 101, 32]⟩)) ++ s) ++ (⟨#[32, 116, 119, 111]⟩)) ((((⟨#[]⟩) ++ (⟨#[111, 110, 101, 32]⟩)) ++ s) ++ (⟨#[32, 116, 119, 111]⟩))) = false from (by rw [show eqs ((((⟨#[]⟩) ++ (⟨#[111, 110, 101, 32]⟩)) ++ s) ++ (⟨#[32, 116, 119, 111]⟩)) ((((⟨#[]⟩) ++ (⟨#[111, 110, 101, 32]⟩)) ++ s) ++ (⟨#[32, 116, 119, 111]⟩)) = true from (eqs_self _)]; rfl)) (tn 1 (kb (show (!eqs ((((⟨#[]⟩) ++ (⟨#[111, 110, 101, 32]⟩)) ++ s) ++ (⟨#[32, 116, 119, 111]⟩)) ((((⟨#[]⟩) ++ (⟨#[111, 110, 101, 32]⟩)) ++ s) ++ (⟨#[32, 116, 119, 111]⟩))) = false from (by rw [show eqs ((((⟨#[]⟩) ++ (⟨#[111, 110, 101, 32]⟩)) ++ s) ++ (⟨#[32, 116, 119, 111]⟩)) ((((⟨#[]⟩) ++ (⟨#[111, 110, 101, 32]⟩)) ++ s) ++ (⟨#[32, 116, 119, 111]⟩)) = true from (eqs_self _)]; rfl)) (tn 1 (kb (show (!eqs ((((⟨#[]⟩) ++ (⟨#[111, 110, 101, 32]⟩)) ++ s) ++ (⟨#[32, 116, 119, 111]⟩)) ((((⟨#[]⟩) ++ (⟨#[111, 110, 101, 32]⟩)) ++ s) ++ (⟨#[32, 116, 119, 111]⟩))) = false from (by rw [show eqs ((((⟨#[]⟩) ++ (⟨#[111, 110, 101, 32]⟩)) ++ s) ++ (⟨#[32, 116, 119, 111]⟩)) ((((⟨#[]⟩) ++ (⟨#[111, 110, 101, 32]⟩)) ++ s) ++ (⟨#[32, 116, 119, 111]⟩)) = true from (eqs_self _)]; rfl)) (tn 1 (kb (show (!eqs ((((⟨#[]⟩) ++ (⟨#[111, 110, 101, 32]⟩)) ++ s) ++ (⟨#[32, 116, 119, 111]⟩)) ((((⟨#[]⟩) ++ (⟨#[111, 110, 101, 32]⟩)) ++ s) ++ (⟨#[32, 116, 119, 111]⟩))) = false from (by rw [show eqs ((((⟨#[]⟩) ++ (⟨#[111, 110, 101, 32]⟩)) ++ s) ++ (⟨#[32, 116, 119, 111]⟩)) ((((⟨#[]⟩) ++ (⟨#[111, 110, 101, 32]⟩)) ++ s) ++ (⟨#[32, 116, 119, 111]⟩)) = true from (eqs_self _)]; rfl)) (tn 1 (kb (show (!eqs (⟨#[]⟩) (⟨#[]⟩)) = false from (by rw [show eqs (⟨#[]⟩) (⟨#[]⟩) = true from (by kernel_rfl)]; rfl)) (tn 1 (kb (show (!eqs (⟨#[]⟩) (⟨#[]⟩)) = false from (by rw [show eqs (⟨#[]⟩) (⟨#[]⟩) = true from (by kernel_rfl)]; rfl)) (tn 1 (kb (show (!eqs (⟨#[]⟩) (⟨#[]⟩)) = false from (by rw [show eqs (⟨#[]⟩) (⟨#[]⟩) = true from (by kernel_rfl)]; rfl)) (tn 1 (kb (show (!eqs (⟨#[]⟩) (⟨#[]⟩)) = false from (by rw [show eqs (⟨#[]⟩) (⟨#[]⟩) = true from (by kernel_rfl)]; rfl)) (tn 1 (kb (show (!eqs (⟨#[]⟩) (⟨#[]⟩)) = false from (by rw [show eqs (⟨#[]⟩) (⟨#[]⟩) = true from (by kernel_rfl)]; rfl)) (tn 1 (kb (show (!eqs (⟨#[]⟩) (⟨#[]⟩)) = false from (by rw [show eqs (⟨#[]⟩) (⟨#[]⟩) = true from (by kernel_rfl)]; rfl)) (tn 1 (kb (show (!eqs (⟨#[]⟩) (⟨#[]⟩)) = false from (by rw [show eqs (⟨#[]⟩) (⟨#[]⟩) = true from (by kernel_rfl)]; rfl)) (tn 1 (kb (show (!eqs (⟨#[]⟩) (⟨#[]⟩)) = false from (by rw [show eqs (⟨#[]⟩) (⟨#[]⟩) = true from (by kernel_rfl)]; rfl)) (tn 1 (kb (show (!eqs (⟨#[]⟩) (⟨#[]⟩)) = false from (by rw [show eqs (⟨#[]⟩) (⟨#[]⟩) = true from (by kernel_rfl)]; rfl)) (tn 1 (kb (show (!eqs (⟨#[]⟩) (⟨#[]⟩)) = false from (by rw [show eqs (⟨#[]⟩) (⟨#[]⟩) = true from (by kernel_rfl)]; rfl)) (tn 1 (kb (show (!eqs (⟨#[]⟩) (⟨#[]⟩)) = false from (by rw [show eqs (⟨#[]⟩) (⟨#[]⟩) = true from (by kernel_rfl)]; rfl)) (kc (q230_to hQ) (kb (show (!eqs (⟨#[]⟩) (⟨#[]⟩)) = false from (by rw [show eqs (⟨#[]⟩) (⟨#[]⟩) = true from (by kernel_rfl)]; rfl)) (tn 1 (kb (show (!eqs (⟨#[]⟩) (⟨#[]⟩)) = false from (by rw [show eqs (⟨#[]⟩) (⟨#[]⟩) = true from (by kernel_rfl)]; rfl)) (tn 1 (kb ff (tn 1 (kb ff (tn 1 (kb ff (tn 1 (kb ff (tn 1 (kb ff (kc (q231_to hQ) (kb ff (tn 1 (kb ff (tn 1 (kb ff (tn 1 (kb ff (tn 1 (kb ff (tn 1 (kb ff (tn 1 (kb ff (tn 1 (kb ff (tn 1 (kb ff (tn 1 (kb ff (tn 1 (kb ff (tn 1 (kb ff (tn 1 (kb ff (tn 1 (kb ff (tn 1 (kb ff (kc (q233_to hQ) (kb ff (tn 1 (kb ff (kb ff (tn 1 z))))))))))))))))))))))))))))))))))))))))))))))))))))))))))))))))))))))))))))))))))))))))))))))))))))))) (by kernel_rfl) (by kernel_rfl) (by kernel_rfl) ?_
 refine uN (sx 105 [(0, (jL [(.agg (zl26 s))])), (1, (jL [(.agg (zl26 s))])), (5, (jI 0)), (6, (.ptr 6 0)), (7, (.ptr 7 0)), (8, (jI 0)), (20, (jL [(.agg (zl26 s))])), (21, (jI 0)), (22, (.av (.ro (zl26 s) 0))), (23, (.av (.agg (zl26 s)))), (24, (jL [(.agg (zl26 s))])), (25, (jI 0)), (26, (.av (.ro (zl26 s) 0))), (27, (.av (.agg (zl26 s))))] [(7, (.cells 33 [(jI 1), (jS ((((⟨#[]⟩) ++ (⟨#[111, 110, 101, 32]⟩)) ++ s) ++ (⟨#[32, 116, 119, 111]⟩))), (jS (⟨#[]⟩)), (jS (⟨#[]⟩)), (jS (⟨#[]⟩)), (jL []), (jL []), (jL []), (jL []), (jL [])])), (6, (.cells 33 [(jI 1), (jS ((((⟨#[]⟩) ++ (⟨#[111, 110, 101, 32]⟩)) ++ s) ++ (⟨#[32, 116, 119, 111]⟩))), (jS (⟨#[]⟩)), (jS (⟨#[]⟩)), (jS (⟨#[]⟩)), (jL []), (jL []), (jL []), (jL []), (jL [])]))] []) 60 ?_
 refine gO (tn 5 (kb ff z)) ?_
 refine uO (tn 1 (kn (wrE (0 + 1) 1 (by omega)) (tn 1 z))) ?_
 refine uA (sx 105 [(0, (jL [(.agg (zl26 s))])), (1, (jL [(.agg (zl26 s))])), (5, (jI 1)), (6, (.ptr 6 0)), (7, (.ptr 7 0)), (20, (jL [(.agg (zl26 s))])), (21, (jI 0)), (22, (.av (.ro (zl26 s) 0))), (23, (.av (.agg (zl26 s)))), (24, (jL [(.agg (zl26 s))])), (25, (jI 0)), (26, (.av (.ro (zl26 s) 0))), (27, (.av (.agg (zl26 s))))] [(7, (.cells 33 [(jI 1), (jS ((((⟨#[]⟩) ++ (⟨#[111, 110, 101, 32]⟩)) ++ s) ++ (⟨#[32, 116, 119, 111]⟩))), (jS (⟨#[]⟩)), (jS (⟨#[]⟩)), (jS (⟨#[]⟩)), (jL []), (jL []), (jL []), (jL []), (jL [])])), (6, (.cells 33 [(jI 1), (jS ((((⟨#[]⟩) ++ (⟨#[111, 110, 101, 32]⟩)) ++ s) ++ (⟨#[32, 116, 119, 111]⟩))), (jS (⟨#[]⟩)), (jS (⟨#[]⟩)), (jS (⟨#[]⟩)), (jL []), (jL []), (jL []), (jL []), (jL [])]))] []) ?_
 refine gO (tn 4 (kb ff z)) ?_
 refine uO (tn 1 z) ?_
 exact eN
theorem q242_to {s : ByteArray} (hQ : Qs s) : CallTo Tryz.prog 23 [(jL [(.agg (zl27 s))]), (jL [(.agg (zl27 s))])] [] [] (jB true) [] [] := by
 have ⟨hc, he, hs, hz, hes⟩ := hQ.a
 refine bG Tryz.func23 ?_
 refine gO (tn 6 (kb ff (tn 1 z))) ?_
 refine uN (sx 91 [(0, (jL [(.agg (zl27 s))])), (1, (jL [(.agg (zl27 s))])), (5, (jI 0))] [] []) 60 ?_
 refine gO (tn 4 (kb tt z)) ?_
 have d1 := (el0 (.agg (zl27 s)) [])
 have d2 := (el0 (.agg (zl27 s)) [])
 refine DR3 (tn 2 (ko (eO d1) (kp d1 (tn 5 (ko (eO d2) (kp d2 (kp d2 (tn 12 (kb ff (tn 1 (kb ff (tn 1 (kb ff (tn 1 (kb ff (tn 1 (kb ff (tn 1 (kb ff (tn 1 (kb ff (tn 1 (kb ff (tn 1 (kb ff (tn 1 (kb ff (tn 1 (kb ff (tn 1 (kb ff (tn 1 (kb (show (!eqs (⟨#[]⟩) (⟨#[]⟩)) = false from (by rw [show eqs (⟨#[]⟩) (⟨#[]⟩) = true from (by kernel_rfl)]; rfl)) (tn 1 (kb (show (!eqs (⟨#[]⟩) (⟨#[]⟩)) = false from (by rw [show eqs (⟨#[]⟩) (⟨#[]⟩) = true from (by kernel_rfl)]; rfl)) (tn 1 (kb (show (!eqs (⟨#[]⟩) (⟨#[]⟩)) = false from (by rw [show eqs (⟨#[]⟩) (⟨#[]⟩) = true from (by kernel_rfl)]; rfl)) (tn 1 (kb (show (!eqs (⟨#[]⟩) (⟨#[]⟩)) = false from (by rw [show eqs (⟨#[]⟩) (⟨#[]⟩) = true from (by kernel_rfl)]; rfl)) (tn 1 (kb (show (!eqs (⟨#[]⟩) (⟨#[]⟩)) = false from (by rw [show eqs (⟨#[]⟩) (⟨#[]⟩) = true from (by kernel_rfl)]; rfl)) (tn 1 (kb (show (!eqs (⟨#[]⟩) (⟨#[]⟩)) = false from (by rw [show eqs (⟨#[]⟩) (⟨#[]⟩) = true from (by kernel_rfl)]; rfl)) (tn 1 (kb (show (!eqs (⟨#[]⟩) (⟨#[]⟩)) = false from (by rw [show eqs (⟨#[]⟩) (⟨#[]⟩) = true from (by kernel_rfl)]; rfl)) (tn 1 (kb (show (!eqs (⟨#[]⟩) (⟨#[]⟩)) = false from (by rw [show eqs (⟨#[]⟩) (⟨#[]⟩) = true from (by kernel_rfl)]; rfl)) (tn 1 (kb (show (!eqs (⟨#[]⟩) (⟨#[]⟩)) = false from (by rw [show eqs (⟨#[]⟩) (⟨#[]⟩) = true from (by kernel_rfl)]; rfl)) (tn 1 (kb (show (!eqs (⟨#[]⟩) (⟨#[]⟩)) = false from (by rw [show eqs (⟨#[]⟩) (⟨#[]⟩) = true from (by kernel_rfl)]; rfl)) (tn 1 (kb (show (!eqs (⟨#[]⟩) (⟨#[]⟩)) = false from (by rw [show eqs (⟨#[]⟩) (⟨#[]⟩) = true from (by kernel_rfl)]; rfl)) (tn 1 (kb (show (!eqs (⟨#[]⟩) (⟨#[]⟩)) = false from (by rw [show eqs (⟨#[]⟩) (⟨#[]⟩) = true from (by kernel_rfl)]; rfl)) (tn 1 (kb (show (!eqs (⟨#[]⟩) (⟨#[]⟩)) = false from (by rw [show eqs (⟨#[]⟩) (⟨#[]⟩) = true from (by kernel_rfl)]; rfl)) (tn 1 (kb (show (!eqs (⟨#[]⟩) (⟨#[]⟩)) = false from (by rw [show eqs (⟨#[]⟩) (⟨#[]⟩) = true from (by kernel_rfl)]; rfl)) (tn 1 (kb (show (!eqs (⟨#[]⟩) (⟨#[]⟩)) = false from (by rw [show eqs (⟨#[]⟩) (⟨#[]⟩) = true from (by kernel_rfl)]; rfl)) (tn 1 (kb (show (!eqs (⟨#[]⟩) (⟨#[]⟩)) = false from (by rw [show eqs (⟨#[]⟩) (⟨#[]⟩) = true from (by kernel_rfl)]; rfl)) (tn 1 (kb (show (!eqs (⟨#[]⟩) (⟨#[]⟩)) = false from (by rw [show eqs (⟨#[]⟩) (⟨#[]⟩) = true from (by kernel_rfl)]; rfl)) (tn 1 (kb (show (!eqs (⟨#[]⟩) (⟨#[]⟩)) = false from (by rw [show eqs (⟨#[]⟩) (⟨#[]⟩) = true from (by kernel_rfl)]; rfl)) (tn 1 (kb (show (!eqs (⟨#[]⟩) (⟨#[]⟩)) = false from (by rw [show eqs (⟨#[]⟩) (⟨#[]⟩) = true from (by kernel_rfl)]; rfl)) (tn 1 (kb (show (!eqs (⟨#[]⟩) (⟨#[]⟩)) = false from (by rw [show eqs (⟨#[]⟩) (⟨#[]⟩) = true from (by kernel_rfl)]; rfl)) (tn 1 (kb (show (!eqs (⟨#[]⟩) (⟨#[]⟩)) = false from (by rw [show eqs (⟨#[]⟩) (⟨#[]⟩) = true from (by kernel_rfl)]; rfl)) (tn 1 (kb (show (!eqs (⟨#[]⟩) (⟨#[]⟩)) = false from (by rw [show eqs (⟨#[]⟩) (⟨#[]⟩) = true from (by kernel_rfl)]; rfl)) (tn 1 (kb (show (!eqs (⟨#[]⟩) (⟨#[]⟩)) = false from (by rw [show eqs (⟨#[]⟩) (⟨#[]⟩) = true from (by kernel_rfl)]; rfl)) (kc (q230_to hQ) (kb (show (!eqs (⟨#[]⟩) (⟨#[]⟩)) = false from (by rw [show eqs (⟨#[]⟩) (⟨#[]⟩) = true from (by kernel_rfl)]; rfl)) (tn 1 (kb (show (!eqs (⟨#[]⟩) (⟨#[]⟩)) = false from (by rw [show eqs (⟨#[]⟩) (⟨#[]⟩) = true from (by kernel_rfl)]; rfl)) (tn 1 (kb ff (tn 1 (kb ff (tn 1 (kb ff (tn 1 (kb ff (tn 1 (kb ff (kc (q243_to hQ) (kb ff (tn 1 (kb ff (tn 1 (kb ff (tn 1 (kb ff (tn 1 (kb ff (tn 1 (kb ff (tn 1 (kb ff (kc (q234_to hQ) (kb ff (tn 1 (kb ff (kb ff (tn 1 (kn (wrE (0 + 1) 1 (by omega)) (tn 1 z))))))))))))))))))))))))))))))))))))))))))))))))))))))))))))))))))))))))))))))))))))))))))))))))))))))))))))))))) (by kernel_rfl) (by kernel_rfl) (by kernel_rfl) ?_
 refine uA (sx 91 [(0, (jL [(.agg (zl27 s))])), (1, (jL [(.agg (zl27 s))])), (5, (jI 1)), (6, (.ptr 6 0)), (7, (.ptr 7 0)), (19, (jL [(.agg (zl27 s))])), (20, (jI 0)), (21, (.av (.ro (zl27 s) 0))), (22, (.av (.agg (zl27 s)))), (23, (jL [(.agg (zl27 s))])), (24, (jI 0)), (25, (.av (.ro (zl27 s) 0))), (26, (.av (.agg (zl27 s))))] [(7, (.cells 38 [(jI 1), (jI 0), (jS (⟨#[]⟩)), (jS (⟨#[]⟩)), (jS (⟨#[]⟩)), (jS (⟨#[]⟩)), (jS (⟨#[]⟩)), (jL []), (jL []), (jL [(.agg (zl26 s))]), (jL [])])), (6, (.cells 38 [(jI 1), (jI 0), (jS (⟨#[]⟩)), (jS (⟨#[]⟩)), (jS (⟨#[]⟩)), (jS (⟨#[]⟩)), (jS (⟨#[]⟩)), (jL []), (jL []), (jL [(.agg (zl26 s))]), (jL [])]))] []) ?_
 refine gO (tn 4 (kb ff z)) ?_
 refine uO (tn 1 z) ?_
 exact eN
theorem q241_to {s : ByteArray} (hQ : Qs s) : CallTo Tryz.prog 12 [(.av (.agg [(.sl []), (.sl [(.agg (zl27 s))])])), (.av (.agg [(.sl []), (.sl [(.agg (zl27 s))])]))] [] [] (jB true) [] [] := by
 refine bG Tryz.func12 ?_
 refine gO (tn 7 (kc (q228_to hQ) (tn 1 (kb tt (tn 1 (kb tt (tn 1 (kb tt (tn 1 (kb tt (tn 1 (kb tt (kc (q242_to hQ) (kb tt (tn 1 z))))))))))))))) ?_
 exact eN
end Go.Proofs.YtkgflongbanbgaaGreatDoor
namespace Go.Proofs.YtkgflongbanbgaaGreatDoor
open Go Go.Eng
def aByt (b : UInt8) : AV := .val (.int .u8 ((b.toNat : Nat) : Int))
def wrdP (l : List UInt8) (v : Nat) : ByteArray := (l.take v).foldl (fun s b => s ++ wb b) ⟨#[119]⟩
theorem wrdP_succ {l : List UInt8} {v : Nat} (h : v < l.length) : wrdP l (v + 1) = wrdP l v ++ wb (l.getD v 0) := by
 unfold wrdP
 rw [List.take_succ_eq_append_getElem h, List.foldl_append]
 simp [List.getD, h]
theorem wrdP_end {l : List UInt8} {v : Nat} (h : v ≤ l.length) (h2 : v ≤ 20) (h3 : ¬ (v < l.length ∧ v < 20)) : wrdP l v = wrdV l := by
 unfold wrdP wrdV
 congr 1
 rcases Nat.lt_or_ge v 20 with h4 | h4
 ·have : v = l.length := by omega
  rw [List.take_of_length_le (by omega), List.take_of_length_le (by omega)]
 ·rw [show v = 20 by omega]
theorem wrdP_size (l : List UInt8) (v : Nat) : (wrdP l v).size ≤ v + 1 := by
 have h := (wrd_fold (l.take v) _ Asc_w).2
 have h1 : (ByteArray.mk #[119]).size = 1 := rfl
 have h2 : (l.take v).length ≤ v := by simp; omega
 unfold wrdP; omega
theorem el_byt (l : List UInt8) (v : Nat) (h : v < l.length) : 0 ≤ ((v : Nat) : Int) ∧ (l.map aByt)[((v : Nat) : Int).toNat]? = some (aByt (l.getD v 0)) := by
 refine ⟨by omega, ?_⟩
 rw [Int.toNat_natCast, List.getElem?_map, List.getElem?_eq_getElem h]
 simp [List.getD, h]
theorem lword_to (l : List UInt8) (hl : l.length ≤ 1073741824) : CallTo Tryz.prog 6 [jL (l.map aByt)] [] [] (jS (wrdV l)) [] [] := by
 have hml : (l.map aByt).length = l.length := List.length_map ..
 refine BEG (fun _ : Unit => jS (wrdV l)) () Tryz.func6 (by kernel_rfl) ?_
 refine GO (tn 3 z) (by kernel_rfl) ?_
 refine LP (n := l.length + 1) (fun N M S => ∃ v : Nat, (v ≤ l.length) ∧ (v ≤ 20) ∧ (l.length - v < N) ∧ M = () ∧ S = (sx 26 [(0, jL (l.map aByt)), (3, jS (wrdP l v)), (4, jI ((v : Nat) : Int))] [] [])) (by kernel_rfl) ⟨0, by omega, by omega, by omega, rfl, rfl⟩ (WK (by kernel_rfl)) ?_
 rintro n M S ⟨v, hv, h20, hF, rfl, rfl⟩
 obtain ⟨n, rfl⟩ : ∃ k, n = k + 1 := ⟨n - 1, by omega⟩
 by_cases h1 : v < l.length
 ·have hd : decide (((v : Nat) : Int) < (((l.map aByt).length : Nat) : Int)) = true := decide_eq_true (by omega)
  by_cases h2 : v < 20
  ·have hd2 : decide (((v : Nat) : Int) < 20) = true := decide_eq_true (by omega)
   have hs := wrdP_size l v
   have hb := (l.getD v 0).toNat_lt
   have hwr := wrE (((v : Nat) : Int) + 1) ((v + 1 : Nat) : Int) (by omega)
   have hm : IntKind.u8.wrap (97 + Int.tmod (((l.getD v 0).toNat : Nat) : Int) 26) = ((97 + (l.getD v 0).toNat % 26 : Nat) : Int) := by
    generalize (l.getD v 0).toNat = b at hb
    have e : Int.tmod ((b : Nat) : Int) 26 = ((b % 26 : Nat) : Int) := by
     rw [Int.tmod_eq_emod_of_nonneg (by omega)]; omega
    rw [e]
    simp only [IntKind.wrap, IntKind.signed, IntKind.bits]
    simp
    omega
   have hun : Uni 1 [(.val (.int .u8 ((97 + (l.getD v 0).toNat % 26 : Nat) : Int)) : AV)] := by intro c hc; simp only [List.mem_cons, List.not_mem_nil, or_false] at hc; subst hc; exact ⟨rfl, rfl⟩
   have hib : List.all [(.val (.int .u8 ((97 + (l.getD v 0).toNat % 26 : Nat) : Int)) : AV)] AV.isByte = true := rfl
   have hsz : (((wrdP l v).size + (wb (l.getD v 0)).size : Nat) : Int) ≤ IntKind.i64.max := by rw [wb_size, show IntKind.i64.max = 9223372036854775807 from rfl]; omega
   have hw2 : wrdP l v ++ wb (l.getD v 0) = wrdP l (v + 1) := (wrdP_succ h1).symm
   refine GO (tn 5 (kb hd (tn 1 (kb hd (tn 1 (kb hd (kb hd2 (tn 3 (ke (el_byt l v h1) (tn 1 (kp (show (26 : Int) ≠ 0 by decide) (kn hm (kp hun (kp hib (kp hsz (tn 2 (kn hwr (tn 1 z)))))))))))))))))) (by kernel_rfl) ?_
   exact AG ⟨v + 1, by omega, by omega, by omega, rfl, by rw [wrdP_succ h1]⟩ (WK (by kernel_rfl)) (by kernel_rfl) (Nat.lt_succ_self _)
  ·have hd2 : decide (((v : Nat) : Int) < 20) = false := decide_eq_false (by omega)
   have he := wrdP_end hv h20 (fun h => h2 h.2)
   refine GO (tn 5 (kb hd (tn 1 (kb hd (tn 1 (kb hd (kb hd2 z))))))) (by kernel_rfl) ?_
   refine OUT (tn 2 z) (by kernel_rfl) ?_
   exact ENw (r := jS (wrdP l v)) (by rw [he]) (by kernel_rfl)
 ·have hd : decide (((v : Nat) : Int) < (((l.map aByt).length : Nat) : Int)) = false := decide_eq_false (by omega)
  have he := wrdP_end hv h20 (fun h => h1 h.1)
  refine GO (tn 5 (kb hd (kb hd (kb hd (kb (rfl : false = false) z))))) (by kernel_rfl) ?_
  refine OUT (tn 2 z) (by kernel_rfl) ?_
  exact ENw (r := jS (wrdP l v)) (by rw [he]) (by kernel_rfl)
end Go.Proofs.YtkgflongbanbgaaGreatDoor
