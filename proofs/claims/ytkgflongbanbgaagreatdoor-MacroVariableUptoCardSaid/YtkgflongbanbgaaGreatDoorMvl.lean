/- Texts joined by a program (merge.py). -/
import Derived.Test.YtkgflongbanbgaaGreatDoorMvj
import Derived.Test.YtkgflongbanbgaaGreatDoorMvh
import Derived.Test.YtkgflongbanbgaaGreatDoorMvk
import Derived.Test.YtkgflongbanbgaaGreatDoorMvf
import Derived.KernelRfl
import Derived.Test.YtkgflongbanbgaaGreatDoorMvd
import Derived.ProofKit
import Derived.SliceStrings
import Derived.Test.YtkgflongbanbgaaGreatDoorRows
set_option linter.unusedSimpArgs false
set_option linter.unusedVariables false
set_option maxRecDepth 100000
set_option maxHeartbeats 4000000
namespace Go.CE
variable {P : Program}
theorem awake_to {call : CallT} (hcall : CallOk P call) {f : FuncId} (hent : Eng.Enterable P f) {n0 : ID} (h : okB (call (.f f) [] h0 n0) = true) : Eng.CallTo P f [] [] [] (.av (.val (.bool true))) [] [] := by
 obtain ⟨H', n', hr⟩ : ∃ H' n', call (.f f) [] h0 n0 = .ok (.b true) H' n' := by
  cases hc : call (.f f) [] h0 n0 with
  | no => rw [hc] at h; cases h
  | ok v H' n' =>
   rw [hc] at h
   cases v with
   | b x =>
    have hx : x = true := h
    subst hx
    exact ⟨H', n', rfl⟩
   | _ => cases h
 refine ⟨hent, fun G w vs hw hargs _ _ => ?_⟩
 have hvs : vs = [] := by simpa only [Eng.RepSs] using hargs
 subst hvs
 have hcd := (hcall.f f [] h0 n0 _ H' n' hr (fun _ => none) w [] (by simp [VRs]) ⟨fun i hi => absurd (hget_h0 i) hi, fun i j _ _ hi => absurd (hget_h0 i) hi⟩ (fun i _ _ => rfl)).enters hent
 refine (callsIn_wide.1 hcd).mono ?_
 rintro e w' ⟨u, rfl, ρ', e1, e2, e3⟩
 have hout : ∀ b, b < w.heap.size → w'.heap[b]? = w.heap[b]? := fun b hb => e1.out b hb (fun i x hi => absurd (hget_h0 i) hi)
 simp only [VR] at e3
 subst e3
 have hkeep : ∀ κ, Eng.Keep G w G w' κ := fun κ => ⟨rfl, fun b hb => ⟨hout b (hw.lt κ b hb), rfl⟩⟩
 have himm : Eng.Imm G.U w w' := Eng.imm_of (fun b hb => hout b (by
  rcases Nat.lt_or_ge b w.heap.size with q | q
  ·exact q
  ·have := hw.zero b q; omega))
 exact ⟨.bool true, G, rfl, ⟨⟨fun _ => Nat.le_refl _, himm, e1.size, e1.os, Prod.ext e1.tape rfl, e1.output, fun _ _ => rfl, fun _ => Nat.le_refl _, fun κ _ _ => hkeep κ⟩, fun b hb _ => ⟨hout b hb, rfl⟩, fun κ b hb => .inl ⟨κ, hb⟩⟩,
  ⟨hw.inj, fun κ b hb => Nat.lt_of_lt_of_le (hw.lt κ b hb) e1.size, fun b hb => hw.zero b (Nat.le_trans e1.size hb)⟩, by simp only [Eng.RepS, Eng.Rep]; exact ⟨trivial, rfl⟩, fun p hp => by simp at hp, fun i _ => hkeep _, fun _ => rfl, fun _ => rfl⟩
end Go.CE
namespace Go.Proofs.YtkgflongbanbgaaGreatDoor
open Go Go.CE
theorem lib_ok : ∀ f g, lib f = some g → LibOk Tryz.prog f g := by
 intro f g h
 unfold lib at h
 have key : ∀ (m : Nat) (x : LibF) (r : Option LibF), LibOk Tryz.prog m x → (r = some g → LibOk Tryz.prog f g) → bc (Nat.beq f m) (some x) r = some g → LibOk Tryz.prog f g := by
  intro m x r hx hr hb
  cases hm : Nat.beq f m with
  | true =>
   rw [hm] at hb
   rw [Nat.beq_eq] at hm
   cases hb
   rw [hm]; exact hx
  | false => rw [hm] at hb; exact hr hb
 exact (key _ _ _ stringOk (key _ _ _ checkOk (key _ _ _ countOk (key _ _ _ indexOk (fun h => by cases h))))) h
theorem mixed : Tryz.prog.follows .mixedOrders = true := by kernel_rfl
theorem awake_to : Eng.CallTo Tryz.prog 5 [] [] [] (.av (.val (.bool true))) [] [] :=
 CE.awake_to (callF_ok mixed lib_ok 60) ⟨_, Tryz.func5, by kernel_rfl, by kernel_rfl⟩ awake_runs
end Go.Proofs.YtkgflongbanbgaaGreatDoor
namespace Go.Proofs.YtkgflongbanbgaaGreatDoor
open Go Go.Eng
theorem cta {f : FuncId} {a b : List SV} {r : SV} (h : CallTo Tryz.prog f a [] [] r [] []) (e : a = b) : CallTo Tryz.prog f b [] [] r [] [] := by rw [← e]; exact h
theorem q244_to {s : ByteArray} (hQ : Qs s) : CallTo Tryz.prog 8 [(jS (⟨#[118]⟩)), (jL [])] [] [] (.av (.agg zl3)) [] [] := by
 refine bG Tryz.func8 ?_
 refine gO (tn 5 z) ?_
 exact eN
theorem q245_to {s : ByteArray} (hQ : Qs s) : CallTo Tryz.prog 7 [(jS s)] [] [] (.av (.agg (zl1 s))) [] [] := by
 refine bG Tryz.func7 ?_
 refine gO (tn 4 z) ?_
 exact eN
theorem q246_to {s : ByteArray} (hQ : Qs s) : CallTo Tryz.prog 10 [(jL [(.agg (zl1 s))])] [] [] (.av (.agg (zl2 s))) [] [] := by
 refine bG Tryz.func10 ?_
 refine gO (tn 4 z) ?_
 exact eN
theorem q247_to {s : ByteArray} (hQ : Qs s) : CallTo Tryz.prog 9 [(jS (⟨#[118]⟩)), (jS (⟨#[]⟩)), (jL [(.agg (zl2 s))])] [] [] (.av (.agg (zl6 s))) [] [] := by
 refine bG Tryz.func9 ?_
 refine gO (tn 5 (kp (show Uni 2 [(.agg zl4), (.agg zl5)] from by simp [Uni, AV.cells, AV.isTup, zl5, zl4]) (tn 7 z))) ?_
 exact eN
theorem q248_to {s : ByteArray} (hQ : Qs s) : CallTo Tryz.prog 10 [(jL [(.agg zl3)])] [] [] (.av (.agg zl7)) [] [] := by
 refine bG Tryz.func10 ?_
 refine gO (tn 4 z) ?_
 exact eN
theorem x1_to (s : ByteArray) (o : List DPair) (l : List UInt8) (hQ : Qo s o) (hw : CallTo Tryz.prog 6 [jL (l.map aByt)] [] [] (jS s) [] []) (hf : fewL o = true) : CallTo Tryz.prog 3 [(jL (l.map aByt)), (jB false), (jB false), (jL (o.map aPair))] [] [] (jB true) [] [] := by
 have ⟨hc, he, hs, hz, hes, ho⟩ := hQ.a
 refine bG Tryz.func3 ?_
 refine gO (tn 2 (kc (fewL_to o (by omega)) (tn 1 (kb (show (!fewL o) = false from (by simp [hf])) (tn 1 (kc hw (tn 3 (kb ff (tn 1 (kc (q244_to hQ.1) (kp (show Uni 10 [(.agg zl3)] from (uni_one rfl rfl)) (kp (show Uni 10 [(.agg zl3)] ∧ ([(.agg zl3)] : List AV).length * 192 ≤ 140737488355328 from ⟨uni_one rfl rfl, by first | omega | (simp; done) | (simp; omega)⟩) (kw (show ([(.agg zl3)] : List AV) = _ from rfl) (tn 2 (kb ff (tn 1 (kc (q245_to hQ.1) (kp (show Uni 10 [(.agg (zl1 s))] from (uni_one rfl rfl)) (kc (q246_to hQ.1) (kp (show Uni 11 [(.agg (zl2 s))] from (uni_one rfl rfl)) (kc (q247_to hQ.1) (tn 1 (kc (q248_to hQ.1) (kp (show Uni 11 [(.agg (zl6 s)), (.agg zl7)] from by simp [Uni, AV.cells, AV.isTup, zl7, zl3, zl6, zl2, zl1, zl5, zl4]) (tn 4 (kc (q248_to hQ.1) (kp (show Uni 11 [(.agg zl7)] from (uni_one rfl rfl)) (tn 5 (kc (u1_to hQ) (tn 6 z)))))))))))))))))))))))))))))) ?_
 have d1 := (cta (b := [(.av (.agg [(.sl []), (.sl [(.agg zl7)])])), (jL ([(.agg [(vS (⟨#[118]⟩)), (vS s)])] ++ (o.map aPair)))]) (u11_to hQ) (by kernel_rfl))
 refine DR3 (tn 3 (kp (show Uni 2 [(.agg [(vS (⟨#[118]⟩)), (vS s)])] from (uni_one rfl rfl)) (tn 1 (kp (show Uni 2 [(.agg [(vS (⟨#[118]⟩)), (vS s)])] ∧ Uni 2 (o.map aPair) ∧ (([(.agg [(vS (⟨#[118]⟩)), (vS s)])] : List AV).length + ((o.map aPair) : List AV).length) * 32 ≤ 140737488355328 from ⟨uni_one rfl rfl, uni_aPair _, by first | omega | (simp; done) | (simp; omega)⟩) (ko (cO d1) (kp d1 (tn 11 (kb tt (tn 1 (kb tt (tn 1 (kb tt (tn 1 (kb tt (tn 1 (kb tt (tn 1 (kb tt (kc (q227_to hQ.1) (kb tt (tn 1 (kb tt (tn 1 (kb tt (tn 1 (kb tt (tn 1 (kb tt (tn 1 (kb tt (tn 1 (kb tt (kc awake_to (kb tt (tn 1 z))))))))))))))))))))))))))))))))))) (by kernel_rfl) (by kernel_rfl) (by kernel_rfl) ?_
 exact eN
theorem q249_to {s : ByteArray} (hQ : Qs s) : CallTo Tryz.prog 7 [(jS (⟨#[32, 116, 119, 111]⟩))] [] [] (.av (.agg zl10)) [] [] := by
 refine bG Tryz.func7 ?_
 refine gO (tn 4 z) ?_
 exact eN
theorem q250_to {s : ByteArray} (hQ : Qs s) : CallTo Tryz.prog 10 [(jL [(.agg zl3), (.agg zl10)])] [] [] (.av (.agg zl11)) [] [] := by
 refine bG Tryz.func10 ?_
 refine gO (tn 4 z) ?_
 exact eN
theorem x2_to (s : ByteArray) (o : List DPair) (l : List UInt8) (hQ : Qo s o) (hw : CallTo Tryz.prog 6 [jL (l.map aByt)] [] [] (jS s) [] []) (hf : fewL o = true) : CallTo Tryz.prog 3 [(jL (l.map aByt)), (jB false), (jB true), (jL (o.map aPair))] [] [] (jB true) [] [] := by
 have ⟨hc, he, hs, hz, hes, ho⟩ := hQ.a
 refine bG Tryz.func3 ?_
 refine gO (tn 2 (kc (fewL_to o (by omega)) (tn 1 (kb (show (!fewL o) = false from (by simp [hf])) (tn 1 (kc hw (tn 3 (kb ff (tn 1 (kc (q244_to hQ.1) (kp (show Uni 10 [(.agg zl3)] from (uni_one rfl rfl)) (kp (show Uni 10 [(.agg zl3)] ∧ ([(.agg zl3)] : List AV).length * 192 ≤ 140737488355328 from ⟨uni_one rfl rfl, by first | omega | (simp; done) | (simp; omega)⟩) (kw (show ([(.agg zl3)] : List AV) = _ from rfl) (tn 2 (kb tt (tn 1 (kc (q249_to hQ.1) (kp (show Uni 10 [(.agg zl10)] from (uni_one rfl rfl)) (kp (show (1 : Nat) = 1 ∧ Uni 10 [(.agg zl10)] ∧ (([(.agg zl3)] : List AV).length + ([(.agg zl10)] : List AV).length) * 192 ≤ 140737488355328 from ⟨rfl, uni_one rfl rfl, by first | omega | (simp; done) | (simp; omega)⟩) (kw (show ([(.agg zl3), (.agg zl10)] : List AV) = _ from rfl) (tn 2 (kc (q245_to hQ.1) (kp (show Uni 10 [(.agg (zl1 s))] from (uni_one rfl rfl)) (kc (q246_to hQ.1) (kp (show Uni 11 [(.agg (zl2 s))] from (uni_one rfl rfl)) (kc (q247_to hQ.1) (tn 1 (kc (q250_to hQ.1) (kp (show Uni 11 [(.agg (zl6 s)), (.agg zl11)] from by simp [Uni, AV.cells, AV.isTup, zl11, zl10, zl3, zl6, zl2, zl1, zl5, zl4]) (tn 4 (kc (q250_to hQ.1) (kp (show Uni 11 [(.agg zl11)] from (uni_one rfl rfl)) (tn 5 (kc (u18_to hQ) (tn 6 z))))))))))))))))))))))))))))))))))) ?_
 have d1 := (cta (b := [(.av (.agg [(.sl []), (.sl [(.agg zl11)])])), (jL ([(.agg [(vS (⟨#[118]⟩)), (vS s)])] ++ (o.map aPair)))]) (u28_to hQ) (by kernel_rfl))
 refine DR3 (tn 3 (kp (show Uni 2 [(.agg [(vS (⟨#[118]⟩)), (vS s)])] from (uni_one rfl rfl)) (tn 1 (kp (show Uni 2 [(.agg [(vS (⟨#[118]⟩)), (vS s)])] ∧ Uni 2 (o.map aPair) ∧ (([(.agg [(vS (⟨#[118]⟩)), (vS s)])] : List AV).length + ((o.map aPair) : List AV).length) * 32 ≤ 140737488355328 from ⟨uni_one rfl rfl, uni_aPair _, by first | omega | (simp; done) | (simp; omega)⟩) (ko (cO d1) (kp d1 (tn 11 (kb tt (tn 1 (kb tt (tn 1 (kb tt (tn 1 (kb tt (tn 1 (kb tt (tn 1 (kb tt (kc (q235_to hQ.1) (kb tt (tn 1 (kb tt (tn 1 (kb tt (tn 1 (kb tt (tn 1 (kb tt (tn 1 (kb tt (tn 1 (kb tt (kc awake_to (kb tt (tn 1 z))))))))))))))))))))))))))))))))))) (by kernel_rfl) (by kernel_rfl) (by kernel_rfl) ?_
 exact eN
theorem q251_to {s : ByteArray} (hQ : Qs s) : CallTo Tryz.prog 7 [(jS (⟨#[111, 110, 101, 32]⟩))] [] [] (.av (.agg zl13)) [] [] := by
 refine bG Tryz.func7 ?_
 refine gO (tn 4 z) ?_
 exact eN
theorem q252_to {s : ByteArray} (hQ : Qs s) : CallTo Tryz.prog 10 [(jL [(.agg zl13), (.agg zl3)])] [] [] (.av (.agg zl14)) [] [] := by
 refine bG Tryz.func10 ?_
 refine gO (tn 4 z) ?_
 exact eN
theorem x3_to (s : ByteArray) (o : List DPair) (l : List UInt8) (hQ : Qo s o) (hw : CallTo Tryz.prog 6 [jL (l.map aByt)] [] [] (jS s) [] []) (hf : fewL o = true) : CallTo Tryz.prog 3 [(jL (l.map aByt)), (jB true), (jB false), (jL (o.map aPair))] [] [] (jB true) [] [] := by
 have ⟨hc, he, hs, hz, hes, ho⟩ := hQ.a
 refine bG Tryz.func3 ?_
 refine gO (tn 2 (kc (fewL_to o (by omega)) (tn 1 (kb (show (!fewL o) = false from (by simp [hf])) (tn 1 (kc hw (tn 3 (kb tt (tn 1 (kc (q251_to hQ.1) (kp (show Uni 10 [(.agg zl13)] from (uni_one rfl rfl)) (kp (show Uni 10 [(.agg zl13)] ∧ ([(.agg zl13)] : List AV).length * 192 ≤ 140737488355328 from ⟨uni_one rfl rfl, by first | omega | (simp; done) | (simp; omega)⟩) (kw (show ([(.agg zl13)] : List AV) = _ from rfl) (tn 2 (kc (q244_to hQ.1) (kp (show Uni 10 [(.agg zl3)] from (uni_one rfl rfl)) (kp (show (1 : Nat) = 1 ∧ Uni 10 [(.agg zl3)] ∧ (([(.agg zl13)] : List AV).length + ([(.agg zl3)] : List AV).length) * 192 ≤ 140737488355328 from ⟨rfl, uni_one rfl rfl, by first | omega | (simp; done) | (simp; omega)⟩) (kw (show ([(.agg zl13), (.agg zl3)] : List AV) = _ from rfl) (tn 2 (kb ff (tn 1 (kc (q245_to hQ.1) (kp (show Uni 10 [(.agg (zl1 s))] from (uni_one rfl rfl)) (kc (q246_to hQ.1) (kp (show Uni 11 [(.agg (zl2 s))] from (uni_one rfl rfl)) (kc (q247_to hQ.1) (tn 1 (kc (q252_to hQ.1) (kp (show Uni 11 [(.agg (zl6 s)), (.agg zl14)] from by simp [Uni, AV.cells, AV.isTup, zl14, zl3, zl13, zl6, zl2, zl1, zl5, zl4]) (tn 4 (kc (q252_to hQ.1) (kp (show Uni 11 [(.agg zl14)] from (uni_one rfl rfl)) (tn 5 (kc (u33_to hQ) (tn 6 z))))))))))))))))))))))))))))))))))) ?_
 have d1 := (cta (b := [(.av (.agg [(.sl []), (.sl [(.agg zl14)])])), (jL ([(.agg [(vS (⟨#[118]⟩)), (vS s)])] ++ (o.map aPair)))]) (u38_to hQ) (by kernel_rfl))
 refine DR3 (tn 3 (kp (show Uni 2 [(.agg [(vS (⟨#[118]⟩)), (vS s)])] from (uni_one rfl rfl)) (tn 1 (kp (show Uni 2 [(.agg [(vS (⟨#[118]⟩)), (vS s)])] ∧ Uni 2 (o.map aPair) ∧ (([(.agg [(vS (⟨#[118]⟩)), (vS s)])] : List AV).length + ((o.map aPair) : List AV).length) * 32 ≤ 140737488355328 from ⟨uni_one rfl rfl, uni_aPair _, by first | omega | (simp; done) | (simp; omega)⟩) (ko (cO d1) (kp d1 (tn 11 (kb tt (tn 1 (kb tt (tn 1 (kb tt (tn 1 (kb tt (tn 1 (kb tt (tn 1 (kb tt (kc (q238_to hQ.1) (kb tt (tn 1 (kb tt (tn 1 (kb tt (tn 1 (kb tt (tn 1 (kb tt (tn 1 (kb tt (tn 1 (kb tt (kc awake_to (kb tt (tn 1 z))))))))))))))))))))))))))))))))))) (by kernel_rfl) (by kernel_rfl) (by kernel_rfl) ?_
 exact eN
theorem q253_to {s : ByteArray} (hQ : Qs s) : CallTo Tryz.prog 10 [(jL [(.agg zl13), (.agg zl3), (.agg zl10)])] [] [] (.av (.agg zl16)) [] [] := by
 refine bG Tryz.func10 ?_
 refine gO (tn 4 z) ?_
 exact eN
theorem x4_to (s : ByteArray) (o : List DPair) (l : List UInt8) (hQ : Qo s o) (hw : CallTo Tryz.prog 6 [jL (l.map aByt)] [] [] (jS s) [] []) (hf : fewL o = true) : CallTo Tryz.prog 3 [(jL (l.map aByt)), (jB true), (jB true), (jL (o.map aPair))] [] [] (jB true) [] [] := by
 have ⟨hc, he, hs, hz, hes, ho⟩ := hQ.a
 refine bG Tryz.func3 ?_
 refine gO (tn 2 (kc (fewL_to o (by omega)) (tn 1 (kb (show (!fewL o) = false from (by simp [hf])) (tn 1 (kc hw (tn 3 (kb tt (tn 1 (kc (q251_to hQ.1) (kp (show Uni 10 [(.agg zl13)] from (uni_one rfl rfl)) (kp (show Uni 10 [(.agg zl13)] ∧ ([(.agg zl13)] : List AV).length * 192 ≤ 140737488355328 from ⟨uni_one rfl rfl, by first | omega | (simp; done) | (simp; omega)⟩) (kw (show ([(.agg zl13)] : List AV) = _ from rfl) (tn 2 (kc (q244_to hQ.1) (kp (show Uni 10 [(.agg zl3)] from (uni_one rfl rfl)) (kp (show (1 : Nat) = 1 ∧ Uni 10 [(.agg zl3)] ∧ (([(.agg zl13)] : List AV).length + ([(.agg zl3)] : List AV).length) * 192 ≤ 140737488355328 from ⟨rfl, uni_one rfl rfl, by first | omega | (simp; done) | (simp; omega)⟩) (kw (show ([(.agg zl13), (.agg zl3)] : List AV) = _ from rfl) (tn 2 (kb tt (tn 1 (kc (q249_to hQ.1) (kp (show Uni 10 [(.agg zl10)] from (uni_one rfl rfl)) (kp (show (2 : Nat) = 2 ∧ Uni 10 [(.agg zl10)] ∧ (([(.agg zl13), (.agg zl3)] : List AV).length + ([(.agg zl10)] : List AV).length) * 192 ≤ 140737488355328 from ⟨rfl, uni_one rfl rfl, by first | omega | (simp; done) | (simp; omega)⟩) (kw (show ([(.agg zl13), (.agg zl3), (.agg zl10)] : List AV) = _ from rfl) (tn 2 (kc (q245_to hQ.1) (kp (show Uni 10 [(.agg (zl1 s))] from (uni_one rfl rfl)) (kc (q246_to hQ.1) (kp (show Uni 11 [(.agg (zl2 s))] from (uni_one rfl rfl)) (kc (q247_to hQ.1) (tn 1 (kc (q253_to hQ.1) (kp (show Uni 11 [(.agg (zl6 s)), (.agg zl16)] from by simp [Uni, AV.cells, AV.isTup, zl16, zl10, zl3, zl13, zl6, zl2, zl1, zl5, zl4]) (tn 4 (kc (q253_to hQ.1) (kp (show Uni 11 [(.agg zl16)] from (uni_one rfl rfl)) (tn 5 (kc (u43_to hQ) (tn 6 z)))))))))))))))))))))))))))))))))))))))) ?_
 have d1 := (cta (b := [(.av (.agg [(.sl []), (.sl [(.agg zl16)])])), (jL ([(.agg [(vS (⟨#[118]⟩)), (vS s)])] ++ (o.map aPair)))]) (u47_to hQ) (by kernel_rfl))
 refine DR3 (tn 3 (kp (show Uni 2 [(.agg [(vS (⟨#[118]⟩)), (vS s)])] from (uni_one rfl rfl)) (tn 1 (kp (show Uni 2 [(.agg [(vS (⟨#[118]⟩)), (vS s)])] ∧ Uni 2 (o.map aPair) ∧ (([(.agg [(vS (⟨#[118]⟩)), (vS s)])] : List AV).length + ((o.map aPair) : List AV).length) * 32 ≤ 140737488355328 from ⟨uni_one rfl rfl, uni_aPair _, by first | omega | (simp; done) | (simp; omega)⟩) (ko (cO d1) (kp d1 (tn 11 (kb tt (tn 1 (kb tt (tn 1 (kb tt (tn 1 (kb tt (tn 1 (kb tt (tn 1 (kb tt (kc (q241_to hQ.1) (kb tt (tn 1 (kb tt (tn 1 (kb tt (tn 1 (kb tt (tn 1 (kb tt (tn 1 (kb tt (tn 1 (kb tt (kc awake_to (kb tt (tn 1 z))))))))))))))))))))))))))))))))))) (by kernel_rfl) (by kernel_rfl) (by kernel_rfl) ?_
 exact eN
end Go.Proofs.YtkgflongbanbgaaGreatDoor
namespace Go.Proofs.YtkgflongbanbgaaGreatDoor
open Go Go.Eng
theorem few_len (o : List DPair) (h : fewL o = true) : o.length ≤ 20 := by
 unfold fewL at h
 rw [lenM_eq] at h
 rcases Nat.lt_or_ge 20 o.length with hl | hl
 ·rw [dT (p := ((o.length : Nat) : Int) > 20) (by omega)] at h
  simp at h
 ·exact hl
theorem var_many (l : List UInt8) (x y : Bool) (o : List DPair) (ho : o.length ≤ 1073741824) (hf : fewL o = false) : CallTo Tryz.prog 3 [jL (l.map aByt), jB x, jB y, jL (o.map aPair)] [] [] (jB true) [] [] := by
 refine BEG (fun _ : Unit => jB true) () Tryz.func3 (by kernel_rfl) ?_
 refine GO (tn 2 (kc (fewL_to o ho) (tn 1 (kb (show (!fewL o) = true from by rw [hf]; rfl) (kc awake_to (tn 1 z)))))) (by kernel_rfl) ?_
 exact EN (by kernel_rfl)
theorem wrdV_ne (l : List UInt8) : eqs (wrdV l) ⟨#[]⟩ = false := by
 have h := (wrdV_size l).1
 unfold eqs
 rw [beq_eq_false_iff_ne]
 intro e
 have : (wrdV l).data = #[] := Array.toList_inj.1 e
 have h2 : (wrdV l).data.size = 0 := by rw [this]; rfl
 have h3 : (wrdV l).size = (wrdV l).data.size := rfl
 omega
theorem var_all (l : List UInt8) (x y : Bool) (o : List DPair) (hl : l.length ≤ 1073741824) (ho : o.length ≤ 1073741824) : CallTo Tryz.prog 3 [jL (l.map aByt), jB x, jB y, jL (o.map aPair)] [] [] (jB true) [] [] := by
 cases hf : fewL o with
 | false => exact var_many l x y o ho hf
 | true =>
  have h20 := few_len o hf
  have hw := lword_to l hl
  cases x <;> cases y
  ·exact x1_to (wrdV l) o l ⟨⟨wrdV_asc l, wrdV_ne l, (wrdV_size l).2⟩, by omega⟩ hw hf
  ·exact x2_to (wrdV l) o l ⟨⟨wrdV_asc l, wrdV_ne l, (wrdV_size l).2⟩, by omega⟩ hw hf
  ·exact x3_to (wrdV l) o l ⟨⟨wrdV_asc l, wrdV_ne l, (wrdV_size l).2⟩, by omega⟩ hw hf
  ·exact x4_to (wrdV l) o l ⟨⟨wrdV_asc l, wrdV_ne l, (wrdV_size l).2⟩, by omega⟩ hw hf
end Go.Proofs.YtkgflongbanbgaaGreatDoor
namespace Go.Eng
open Go.ChangeShapes Go.WideShapes Go.ChangeAt Go.RowKit
def U0 (w : World) (b : Nat) : Nat := match w.heap[b]? with
 | some (.cells arr _ _) => arr.size
 | _ => 0
theorem wf0 (w : World) : Wf ⟨U0 w, fun _ => 0, fun _ => none, fun _ => 0, []⟩ w :=
 ⟨fun κ κ' b h => by simp at h, fun κ b h => by simp at h, fun b hb => by simp only [U0]; rw [Array.getElem?_eq_none hb]⟩
theorem law_calls {P : Program} {f : FuncId} {xs : List AV} (h : CallTo P f (xs.map .av) [] [] (jB true) [] []) {W : World} {vs : List Value} (hr : RepL (U0 W) W xs vs) :
  Calls P f vs.toArray W (fun e W' => e = .returned (.bool true) ∧ Below W.heap.size W W') := by
 refine (h.2 ⟨U0 W, fun _ => 0, fun _ => none, fun _ => 0, []⟩ W vs (wf0 W) (RepSs_av hr) (by simp) (by simp)).mono ?_
 rintro e w' ⟨v, G', rfl, s1, _, s3, _⟩
 simp only [jB, RepS, Rep] at s3
 rw [s3.1]
 exact ⟨rfl, s1.os, s1.toExt.tp, s1.output, s1.size, fun k hk => (s1.stay k hk (by simp)).1⟩
theorem cell_U0 {w : World} {b o : Nat} {v : Value} (h : w.cell? ⟨b, o, none⟩ = some v) : o < U0 w b := by
 unfold U0
 simp only [World.cell?] at h
 split at h
 ·rename_i arr e fz hb
  rw [hb]
  simp only [Option.isSome_none, Bool.false_eq_true, if_false] at h
  rcases Nat.lt_or_ge o arr.size with h1 | h1
  ·exact h1
  ·simp [Array.getElem?_eq_none h1] at h
 ·simp at h
theorem RepL_strs {U : Nat → Nat} {w : World} : ∀ l : List ByteArray, RepL U w (l.map strAV) (l.map Value.string)
 | [] => by simp [RepL]
 | s :: l => by
  simp only [List.map_cons, RepL]
  exact ⟨_, _, rfl, by simp only [strAV, Rep]; exact ⟨trivial, rfl⟩, RepL_strs l⟩
end Go.Eng
namespace Go.Proofs.YtkgflongbanbgaaGreatDoor
open Go Go.Eng Go.ChangeShapes Go.WideShapes Go.ChangeAt Go.RowKit
section
variable {H : Type} (enc : TypeId × Value → H) (P : Program) (w : World) (sp : Nat → Bool) (held : Bool)
def Rd (n : Nat) (t : TypeId) {α : Type} (f : α → List AV) (wt : α → Nat) : Prop :=
 ∀ cs x, DataW.trod enc P w 0 sp held n t cs = some x → ∃ a : α, RepL (U0 w) w (f a) cs ∧ wt a ≤ Rows.uptoBulk x.1 ∧ ∀ v ∈ cs, v.oneCell' = true
variable {enc P w sp held}
theorem Rd_map {n : Nat} {t : TypeId} {α β : Type} {f : α → List AV} {wt : α → Nat} {f' : β → List AV} {wt' : β → Nat} (c : α → β) (h : Rd enc P w sp held n t f wt) (hf : ∀ a, f' (c a) = f a) (hw : ∀ a, wt' (c a) ≤ wt a) : Rd enc P w sp held n t f' wt' :=
 fun cs x hx => by
  obtain ⟨a, h1, h2, h3⟩ := h cs x hx
  exact ⟨c a, by rw [hf]; exact h1, Nat.le_trans (hw a) h2, h3⟩
theorem Rd_str {t : TypeId} (ht : P.underlying t = some .string) (n : Nat) : Rd enc P w sp held n t (fun s : ByteArray => [vS s]) wStr := fun cs x h => by
 obtain ⟨s, rfl, rfl, _⟩ := DataW.trod_string ht h
 refine ⟨s, by simp only [RepL, Rep]; exact ⟨_, _, rfl, ⟨rfl, rfl⟩, rfl⟩, ?_, by intro v hv; simp at hv; subst hv; rfl⟩
 have e : s.data.toList.length = s.size := by rw [Array.length_toList]; rfl
 simp only [wStr, Rows.uptoBulk]; omega
theorem add_add (a : Addr) (i j : Nat) : (a.add i).add j = a.add (i + j) := by
 obtain ⟨b, o, s⟩ := a
 unfold Addr.add
 by_cases hi : i = 0
 ·subst hi; simp
 ·by_cases hj : j = 0
  ·subst hj; simp [hi]
  ·simp [hi, hj]; omega
theorem cells_get {a : Addr} {n : Nat} {cs : List Value} (h : w.cells? 0 a n = some cs) : cs.length = n ∧ ∀ j, j < n → w.cell? (a.add j) = cs[j]? := by
 unfold World.cells? at h
 rw [if_pos (Nat.zero_le _)] at h
 exact ⟨by simpa using mapM_some_length h, fun j hj => mapM_some_get h j j (by simp [hj])⟩
def One (sz : Nat) {α : Type} (f : α → List AV) (g : α → AV) : Prop :=
 ∀ (U : Nat → Nat) (w : World) (a : α) (us : List Value), RepL U w (f a) us → us.length = sz → (∀ v ∈ us, v.oneCell' = true) → ∃ u : Value, Rep U w (g a) u ∧ u.cells.toList = us
theorem One_agg {α : Type} {sz : Nat} (f : α → List AV) : One sz f (fun a => .agg (f a)) := fun U w a us h _ h1 => ⟨.agg us.toArray, by simp only [Rep]; exact ⟨_, rfl, by simpa using h, by simpa using h1⟩, by simp [Value.cells]⟩
theorem One_val {α : Type} (g : α → AV) (v : α → Value) (hg : ∀ a, g a = .val (v a)) (hc : ∀ a, (v a).cells = #[v a]) : One 1 (fun a => [g a]) g := fun U w a us h _ h1 => by
 simp only [RepL] at h
 obtain ⟨u, us', rfl, h2, rfl⟩ := h
 refine ⟨u, h2, ?_⟩
 rw [hg] at h2; simp only [Rep] at h2
 rw [h2.1, hc]
theorem slice_go {e : TypeId} {n sz : Nat} {α : Type} {f : α → List AV} {g : α → AV} {wt : α → Nat} (hc : P.cellsOf e = sz) (hR : Rd enc P w sp held n e f wt) (hO : One sz f g) (a : Addr) :
  ∀ (elems : List (DataW H × List MemPlace)) (i0 : Nat), (∀ i, i < elems.length → (w.cells? 0 (a.add ((i0 + i) * sz)) sz).bind (DataW.trod enc P w 0 sp held n e) = elems[i]?) →
   ∃ (l : List α) (es : List Value), RepL (U0 w) w (l.map g) es ∧ l.length = elems.length ∧ (∀ v ∈ es, v.cells.size = sz) ∧ wl wt l ≤ Rows.uptoBulkAll (elems.map (·.1)) ∧
    ∀ j v, (vcells es)[j]? = some v → w.cell? (a.add (i0 * sz + j)) = some v ∧ v.oneCell' = true
 | [], i0, _ => ⟨[], [], by simp [RepL], rfl, by simp, by simp [wl, Rows.uptoBulkAll], by simp [vcells]⟩
 | x :: elems, i0, h => by
  have h0 := h 0 (by simp)
  simp only [Nat.add_zero, List.getElem?_cons_zero, Option.bind_eq_some_iff] at h0
  obtain ⟨cs, hcs, hx⟩ := h0
  obtain ⟨hl, hget⟩ := cells_get hcs
  obtain ⟨y, r1, r2, r3⟩ := hR cs x hx
  obtain ⟨u, u1, u2⟩ := hO _ _ y cs r1 hl r3
  obtain ⟨l, es, k1, k2, k3, k4, k5⟩ := slice_go hc hR hO a elems (i0 + 1) (fun i hi => by
   have := h (i + 1) (by simpa using hi)
   rw [show i0 + 1 + i = i0 + (i + 1) by omega]; simpa using this)
  have hsz : u.cells.size = sz := by rw [← Array.length_toList, u2, hl]
  refine ⟨y :: l, u :: es, by simp only [List.map_cons, RepL]; exact ⟨_, _, rfl, u1, k1⟩, by simp [k2], ?_, by simp only [List.map_cons, wl, Rows.uptoBulkAll]; omega, fun j v hj => ?_⟩
  ·intro v hv; simp only [List.mem_cons] at hv
   rcases hv with rfl | hv
   ·exact hsz
   ·exact k3 v hv
  ·simp only [vcells, List.flatMap_cons, u2] at hj
   by_cases hjl : j < sz
   ·rw [List.getElem?_append_left (by omega)] at hj
    have := hget j hjl
    rw [add_add] at this
    exact ⟨by rw [this, hj], r3 v (List.mem_of_getElem? hj)⟩
   ·rw [List.getElem?_append_right (by omega), hl] at hj
    have := k5 (j - sz) v hj
    rw [show (i0 + 1) * sz + (j - sz) = i0 * sz + j by rw [Nat.add_mul]; omega] at this
    exact this
theorem Rd_slice {t e : TypeId} {n sz : Nat} {α : Type} {f : α → List AV} {g : α → AV} {wt : α → Nat} (ht : P.underlying t = some (.slice e)) (hc : P.cellsOf e = sz) (hz : 0 < sz) (hO : One sz f g) (hR : ∀ m, n = m + 1 → Rd enc P w sp held m e f wt) :
  Rd enc P w sp held n t (fun l : List α => [.sl (l.map g)]) (wl wt) := fun cs x h => by
 rcases DataW.trod_slice ht h with ⟨rfl, rfl⟩ | ⟨a, len, cap, elems, rest, m, rfl, rfl, rfl, hb, hl, hm, hlen, hel, _, _⟩
 ·exact ⟨[], by simp only [List.map_nil, RepL]; exact ⟨_, _, rfl, Rep_nil _ _, rfl⟩, by simp [wl, Rows.uptoBulk], by intro v hv; simp at hv; subst hv; rfl⟩
 ·obtain ⟨l, es, k1, k2, k3, k4, k5⟩ := slice_go hc (hR m rfl) hO a elems 0 (fun i hi => by rw [Nat.zero_add]; have := hel i (by omega); rw [hc] at this; exact this)
  refine ⟨l, ?_, by simp only [Rows.uptoBulk]; omega, by intro v hv; simp at hv; subst hv; rfl⟩
  simp only [RepL]
  refine ⟨_, _, rfl, ?_, rfl⟩
  simp only [Rep]
  have hll : (l.map g).length = len := by simp; omega
  have hes : es.length = len := by have := k1.length; omega
  have hfirst : vcells es ≠ [] → a.spot = none := by
   intro hne
   obtain ⟨v, r, hv⟩ := List.exists_cons_of_ne_nil hne
   have := (k5 0 v (by rw [hv]; rfl)).1
   simp only [Nat.zero_mul, Nat.zero_add, Addr.add, if_true, World.cell?] at this
   split at this
   ·cases hs : a.spot with
    | none => rfl
    | some s => rw [hs] at this; simp at this
   ·simp at this
  refine ⟨some a, cap, es, sz, by rw [hll], k1, k3, by simp, by rw [hll]; exact hl, ?_, ?_⟩
  ·rintro hne ad ⟨⟩
   have hsz : sz ≠ 0 := by omega
   refine hfirst (fun q => ?_)
   have hz := vcells_length es k3
   rw [q] at hz
   simp only [List.length_nil] at hz
   have : es.length = 0 := by
    rcases Nat.mul_eq_zero.1 hz.symm with h | h
    ·exact h
    ·exact absurd h hsz
   apply hne
   have : l.length = 0 := by omega
   simp [List.eq_nil_of_length_eq_zero this]
  ·by_cases hne : vcells es = []
   ·exact .inl hne
   ·right
    have hs := hfirst hne
    obtain ⟨b, off, s⟩ := a
    simp only at hs; subst hs
    refine ⟨b, off, rfl, ?_, fun j v hj => ?_⟩
    ·have hlen : 0 < (vcells es).length := List.length_pos_iff.2 hne
     have hv := List.getElem?_eq_getElem (l := vcells es) (i := (vcells es).length - 1) (by omega)
     have := (k5 _ _ hv).1
     rw [Nat.zero_mul, Nat.zero_add, addr_add] at this
     have := cell_U0 this
     omega
    ·have := k5 j v hj
     rw [Nat.zero_mul, Nat.zero_add, addr_add] at this
     exact this
def RdF (enc : TypeId × Value → H) (P : Program) (w : World) (sp : Nat → Bool) (held : Bool) (n : Nat) (fs : List Field) (o tot : Nat) {α : Type} (f : α → List AV) (wt : α → Nat) : Prop :=
 ∀ (cs : List Value) (xs : List (DataW H × List MemPlace)), cs.length = tot → xs.length = fs.length → (∀ (i : Nat) (fd : Field), fs[i]? = some fd → DataW.trod enc P w 0 sp held n fd.type ((cs.drop fd.offset).take (P.cellsOf fd.type)) = xs[i]?) →
  ∃ a : α, RepL (U0 w) w (f a) (cs.drop o) ∧ wt a ≤ Rows.uptoBulkAll (xs.map (·.1)) ∧ ∀ v ∈ cs.drop o, v.oneCell' = true
theorem RdF_nil {n o : Nat} : RdF enc P w sp held n [] o o (fun _ : Unit => []) (fun _ => 0) := fun cs xs h _ _ => by
 have : cs.drop o = [] := List.drop_eq_nil_of_le (by omega)
 exact ⟨(), by rw [this]; simp [RepL], Nat.zero_le _, by rw [this]; simp⟩
theorem RdF_cons {n o k tot : Nat} {fd : Field} {fs : List Field} {α β : Type} {f : α → List AV} {wt : α → Nat} {g : β → List AV} {wg : β → Nat} (ho : fd.offset = o) (hk : P.cellsOf fd.type = k) (h0 : Rd enc P w sp held n fd.type f wt) (h : RdF enc P w sp held n fs (o + k) tot g wg) :
  RdF enc P w sp held n (fd :: fs) o tot (fun a : α × β => f a.1 ++ g a.2) (fun a => wt a.1 + wg a.2) := fun cs xs hl hx hf => by
 cases xs with
 | nil => simp at hx
 | cons x xs =>
  have e0 := hf 0 fd rfl
  rw [ho, hk] at e0
  obtain ⟨a, a1, a2, a3⟩ := h0 _ x e0
  obtain ⟨b, b1, b2, b3⟩ := h cs xs hl (by simpa using hx) (fun i fd' hi => by simpa using hf (i + 1) fd' (by simpa using hi))
  have hd : cs.drop o = (cs.drop o).take k ++ cs.drop (o + k) := by rw [← List.drop_drop, List.take_append_drop]
  refine ⟨(a, b), by rw [hd]; exact a1.append b1, by simp only [List.map_cons, Rows.uptoBulkAll]; omega, fun v hv => ?_⟩
  rw [hd, List.mem_append] at hv
  rcases hv with hv | hv
  ·exact a3 v hv
  ·exact b3 v hv
theorem Rd_struct {t : TypeId} {fs : Array Field} {n tot : Nat} {α : Type} {f : α → List AV} {wt : α → Nat} (ht : P.underlying t = some (.struct fs)) (hc : P.cellsOf t = tot) (h : ∀ m, n = m + 1 → RdF enc P w sp held m fs.toList 0 tot f wt) : Rd enc P w sp held n t f (fun a => 1 + wt a) := fun cs x hx => by
 obtain ⟨xs, m, rfl, rfl, hl, hlen, hf⟩ := DataW.trod_struct ht hx
 obtain ⟨a, a1, a2, a3⟩ := h m rfl cs xs (by omega) (by simpa using hlen) (fun i fd hi => hf i fd (by simpa using hi))
 exact ⟨a, by simpa using a1, by simp only [Rows.uptoBulk]; omega, by simpa using a3⟩
end
end Go.Proofs.YtkgflongbanbgaaGreatDoor
namespace Go.Proofs.YtkgflongbanbgaaGreatDoor
open Go Go.Eng
open Go.ChangeShapes Go.WideShapes Go.ChangeAt Go.RowKit
theorem One_aPair : One 2 (fun x : DPair => [(vS ((x).fKey)), (vS ((x).fValue))]) aPair := fun U w a us h1 h2 h3 => by rw [aPair_eq]; exact One_agg (fun x : DPair => [(vS ((x).fKey)), (vS ((x).fValue))]) U w a us h1 h2 h3
theorem Rd_aPair {H : Type} {enc : TypeId × Value → H} {w : World} {sp : Nat → Bool} {held : Bool} (n : Nat) : Rd enc Tryz.prog w sp held n 47 (fun x : DPair => [(vS ((x).fKey)), (vS ((x).fValue))]) wPair := by
 have h := Rd_struct (n := n) (enc := enc) (P := Tryz.prog) (w := w) (sp := sp) (held := held) (tot := 2) Tryz.underlying47 (by kernel_rfl) (fun m hm => (RdF_cons (k := 1) rfl (by kernel_rfl) (Rd_str Tryz.underlying9 m) (RdF_cons (k := 1) rfl (by kernel_rfl) (Rd_str Tryz.underlying9 m) RdF_nil)))
 exact Rd_map (fun a => DPair.mk a.1 a.2.1) h (fun _ => rfl) (fun a => by simp only [wPair_eq, w1]; omega)
theorem Rd_prs {H : Type} {enc : TypeId × Value → H} {w : World} {sp : Nat → Bool} {held : Bool} (n : Nat) : Rd enc Tryz.prog w sp held n 23 (fun l : List DPair => [.sl (l.map aPair)]) (wl wPair) := (Rd_slice (t := 23) (e := 47) (sz := 2) (g := aPair) (wt := wPair) Tryz.underlying23 (by kernel_rfl) (by decide) One_aPair (fun q hq => (Rd_aPair q)))
end Go.Proofs.YtkgflongbanbgaaGreatDoor
