/- Texts joined by a program (merge.py). -/
import Derived.Test.YtcdfhagcchmnhaaGreatDoorMtg
import Derived.Test.YtcdfhagcchmnhaaGreatDoorMte
import Derived.Test.YtcdfhagcchmnhaaGreatDoorMth
import Derived.Test.YtcdfhagcchmnhaaGreatDoorMtc
import Derived.KernelRfl
import Derived.StillTail
import Derived.Test.YtcdfhagcchmnhaaGreatDoorMtb
import Derived.ProofKit
import Derived.SliceStrings
import Derived.Test.YtcdfhagcchmnhaaGreatDoorRows
set_option linter.unusedSimpArgs false
set_option linter.unusedVariables false
namespace Go.CE
variable {P : Program}
theorem awake_to {call : CallT} (hcall : CallOk P call) {f : FuncId} (hent : Eng.Enterable P f) {n0 : ID} (h : okB (call (.f f) [] h0 n0) = true) : Eng.CallTo P f [] [] [] (.av (.val (.bool true))) [] [] := by
  obtain ⟨H', n', hr⟩ : ∃ H' n', call (.f f) [] h0 n0 = .ok (.b true) H' n' := by
    cases hc : call (.f f) [] h0 n0 with
    | no => rw [hc] at h; cases h
    | ok v H' n' =>
      rw [hc] at h
      cases v with
      | b x =>
        have hx : x = true := h
        subst hx
        exact ⟨H', n', rfl⟩
      | _ => cases h
  refine ⟨hent, fun G w vs hw hargs _ _ => ?_⟩
  have hvs : vs = [] := by simpa only [Eng.RepSs] using hargs
  subst hvs
  have hcd := (hcall.f f [] h0 n0 _ H' n' hr (fun _ => none) w [] (by simp [VRs]) ⟨fun i hi => absurd (hget_h0 i) hi, fun i j _ _ hi => absurd (hget_h0 i) hi⟩ (fun i _ _ => rfl)).enters hent
  refine (callsIn_wide.1 hcd).mono ?_
  rintro e w' ⟨u, rfl, ρ', e1, e2, e3⟩
  have hout : ∀ b, b < w.heap.size → w'.heap[b]? = w.heap[b]? := fun b hb => e1.out b hb (fun i x hi => absurd (hget_h0 i) hi)
  simp only [VR] at e3
  subst e3
  have hkeep : ∀ κ, Eng.Keep G w G w' κ := fun κ => ⟨rfl, fun b hb => ⟨hout b (hw.lt κ b hb), rfl⟩⟩
  have himm : Eng.Imm G.U w w' := Eng.imm_of (fun b hb => hout b (by
    rcases Nat.lt_or_ge b w.heap.size with q | q
    · exact q
    · have := hw.zero b q; omega))
  exact ⟨.bool true, G, rfl, ⟨⟨fun _ => Nat.le_refl _, himm, e1.size, e1.os, Prod.ext e1.tape rfl, e1.output, fun _ _ => rfl, fun _ => Nat.le_refl _, fun κ _ _ => hkeep κ⟩, fun b hb _ => ⟨hout b hb, rfl⟩, fun κ b hb => .inl ⟨κ, hb⟩⟩,
    ⟨hw.inj, fun κ b hb => Nat.lt_of_lt_of_le (hw.lt κ b hb) e1.size, fun b hb => hw.zero b (Nat.le_trans e1.size hb)⟩, by simp only [Eng.RepS, Eng.Rep]; exact ⟨trivial, rfl⟩, fun p hp => by simp at hp, fun i _ => hkeep _, fun _ => rfl, fun _ => rfl⟩
end Go.CE
namespace Go.Proofs.YtcdfhagcchmnhaaGreatDoor
open Go Go.CE
theorem lib_ok : ∀ f g, lib f = some g → LibOk Tryz.prog f g := by
  intro f g h
  unfold lib at h
  have key : ∀ (m : Nat) (x : LibF) (r : Option LibF), LibOk Tryz.prog m x → (r = some g → LibOk Tryz.prog f g) → bc (Nat.beq f m) (some x) r = some g → LibOk Tryz.prog f g := by
    intro m x r hx hr hb
    cases hm : Nat.beq f m with
    | true =>
      rw [hm] at hb
      rw [Nat.beq_eq] at hm
      cases hb
      rw [hm]; exact hx
    | false => rw [hm] at hb; exact hr hb
  exact (key _ _ _ stringOk (key _ _ _ checkOk (key _ _ _ countOk (key _ _ _ indexOk (fun h => by cases h))))) h
theorem mixed : Tryz.prog.follows .mixedOrders = true := by kernel_rfl
theorem awake_to : Eng.CallTo Tryz.prog 6 [] [] [] (.av (.val (.bool true))) [] [] :=
  CE.awake_to (callF_ok mixed lib_ok 60) ⟨_, Tryz.func6, by kernel_rfl, by kernel_rfl⟩ awake_runs
end Go.Proofs.YtcdfhagcchmnhaaGreatDoor
namespace Go.Proofs.YtcdfhagcchmnhaaGreatDoor
open Go Go.Eng
def cpyA (a : DAttr) : DAttr := a
set_option maxRecDepth 100000 in
set_option maxHeartbeats 4000000 in
theorem cpyA_to (a : DAttr) (ha : wAttr a ≤ 1073741824) : CallTo Tryz.prog 65 [(.av (cAttr a))] [] [] (.av (cAttr (cpyA a))) [] [] := by
  have hwa := wAttr_eq a
  have hw_0 := wl_len (w := wStr) wStr_pos a.fClasses
  have hw_1 := wl_len (w := wPair) wPair_pos a.fPairs
  refine BEG (fun r : DAttr => (.av (cAttr r))) (cpyA a) Tryz.func65 (by kernel_rfl) ?_
  refine UF (cpyA.eq_1 ..) ?_
  refine GO (tn 2 z) (by kernel_rfl) ?_
  refine DR3 (tn 8 (kp (show Uni 1 (a.fClasses.map strAV) ∧ ((a.fClasses.map strAV) : List AV).length * 16 ≤ 140737488355328 from ⟨uni_strAV _, by first | omega | (simp; done) | (simp; omega)⟩) (tn 4 (kp (show Uni 2 (a.fPairs.map aPair) ∧ ((a.fPairs.map aPair) : List AV).length * 32 ≤ 140737488355328 from ⟨uni_aPair _, by first | omega | (simp; done) | (simp; omega)⟩) (tn 2 z))))) (by kernel_rfl) (by kernel_rfl) (by kernel_rfl) ?_
  exact EN (by kernel_rfl)
def cpyO (x : DInline) : DInline := DInline.mk x.fKind x.fText x.fDest x.fTitle (cpyA x.fAttr) x.fArgs x.fCites x.fKids
set_option maxRecDepth 100000 in
set_option maxHeartbeats 4000000 in
theorem cpyO_to (x : DInline) (hx : wInline x ≤ 1073741824) : CallTo Tryz.prog 83 [(.av (cInline x))] [] [] (.av (cInline (cpyO x))) [] [] := by
  have hwx := wInline_eq x
  have hwa := wAttr_eq x.fAttr
  simp only [wStr, w1] at hwx
  have hw_0 := wl_len (w := wStr) wStr_pos x.fArgs
  have hw_1 := wl_len (w := wCited) wCited_pos x.fCites
  refine BEG (fun r : DInline => (.av (cInline r))) (cpyO x) Tryz.func83 (by kernel_rfl) ?_
  refine UF (cpyO.eq_1 ..) ?_
  refine GO (tn 4 (kc (cpyA_to x.fAttr (by first | assumption | omega | decide | (simp; done) | (simp; omega))) (tn 4 (kp (show Uni 1 (x.fArgs.map strAV) ∧ ((x.fArgs.map strAV) : List AV).length * 16 ≤ 140737488355328 from ⟨uni_strAV _, by first | omega | (simp; done) | (simp; omega)⟩) (kw (Eq.refl (x.fArgs.map strAV)) (tn 4 (kp (show Uni 4 (x.fCites.map aCited) ∧ ((x.fCites.map aCited) : List AV).length * 56 ≤ 140737488355328 from ⟨uni_aCited _, by first | omega | (simp; done) | (simp; omega)⟩) (kw (Eq.refl (x.fCites.map aCited)) (tn 4 z))))))))) (by kernel_rfl) ?_
  exact EN (by kernel_rfl)
end Go.Proofs.YtcdfhagcchmnhaaGreatDoor
namespace Go.Proofs.YtcdfhagcchmnhaaGreatDoor
open Go Go.Eng
theorem wInline_mk (k : Int) (t d ti : ByteArray) (a : DAttr) (ar : List ByteArray) (c : List DCited) (ks : List DInline) : wInline (DInline.mk k t d ti a ar c ks) = 1 + 1 + (t.size + 1) + (d.size + 1) + (ti.size + 1) + wAttr a + wl wStr ar + wl wCited c + wl wInline ks := wInline_eq _
theorem wBlock_mk (k lv : Int) (i t d ti : ByteArray) (a : DAttr) (li : List DInline) (ks : List DBlock) : wBlock (DBlock.mk k lv i t d ti a li ks) = 1 + 1 + 1 + (i.size + 1) + (t.size + 1) + (d.size + 1) + (ti.size + 1) + wAttr a + wl wInline li + wl wBlock ks := wBlock_eq _
theorem loop_map {α β : Type} [Inhabited α] (f : α → AV) (l : List α) (g : α → β) (F : Nat → List β → Nat → List β) (hF : ∀ n acc i, F (n + 1) acc i = cond (decide ((((i : Nat) : Int) : Int) < ((lenM f l : Nat) : Int))) (F n (acc ++ [g (el l i)]) (i + 1)) acc) : F (l.length - 0 + 1) [] 0 = l.map g := by
  have := loop_flat f l (fun x => [g x]) F (fun n acc i => hF n acc i) (l.length - 0 + 1) [] 0 (by omega)
  rw [this, List.map_eq_flatMap]; rfl
theorem map_same {α : Type} {g : α → α} : ∀ {l : List α}, (∀ x ∈ l, g x = x) → l.map g = l
  | [], _ => rfl
  | x :: l, h => by rw [List.map_cons, h x (by simp), map_same (fun y hy => h y (by simp [hy]))]
def cpLS_L0 (rec : (List DInline) → List DInline) (l : List DInline) : Nat → (List DInline) → Nat → List DInline
  | 0, _, _ => default
  | n0 + 1, v3, v8 => cond (decide ((((v8 : Nat) : Int) : Int) < ((lenM aInline l : Nat) : Int))) (cpLS_L0 rec l n0 (v3 ++ ([DInline.mk ((cpyO (el l v8)).fKind) ((cpyO (el l v8)).fText) ((cpyO (el l v8)).fDest) ((cpyO (el l v8)).fTitle) ((cpyO (el l v8)).fAttr) ((cpyO (el l v8)).fArgs) ((cpyO (el l v8)).fCites) (rec ((cpyO (el l v8)).fKids))])) (v8 + 1)) (v3)
def cpLS (rec : (List DInline) → List DInline) (l : List DInline) : List DInline := cpLS_L0 rec l ((List.length l - (0)) + 1) ([]) 0
set_option maxRecDepth 100000 in
set_option maxHeartbeats 4000000 in
theorem cpL_st (rec : (List DInline) → List DInline) (l : List DInline) (hl : wl wInline l ≤ 1073741824) (hrec : ∀ (l' : List DInline), wl wInline l' < wl wInline l → wl wInline l' ≤ 1073741824 → CallTo Tryz.prog 89 [(jL ((l').map aInline))] [] [] (jL ((rec l').map aInline)) [] []) (hrb : ∀ (l' : List DInline), wl wInline l' < wl wInline l → wl wInline l' ≤ 1073741824 → wl wInline (rec l') ≤ wl wInline l') : CallTo Tryz.prog 89 [(jL (l.map aInline))] [] [] (jL ((cpLS rec l).map aInline)) [] [] := by
  have hw_0 := wl_len (w := wInline) wInline_pos l
  refine BEG (fun r : List DInline => (jL (r.map aInline))) (cpLS rec l) Tryz.func89 (by kernel_rfl) ?_
  refine UF (cpLS.eq_1 ..) ?_
  refine GO (tn 5 z) (by kernel_rfl) ?_
  refine LP (fun N M S => ∃ gv3 : Nat, ∃ v3 : List DInline, ∃ v8 : Nat, (wl wInline v3 ≤ wl wInline (l.take v8)) ∧ (v8 ≤ l.length) ∧ (List.length l - v8 < N) ∧ M = cpLS_L0 rec l N v3 v8 ∧ S = (sx 24 [(3, (.own (203, 49) (gv3) 10 (v3.map aInline))), (6, (jL (l.map aInline))), (7, (jI (((lenM aInline l : Nat) : Int)))), (8, (jI (((v8 : Nat) : Int))))] [] [((203, 49), gv3)])) (by kernel_rfl) ⟨0, _, _, by simp [wl], by first | omega | assumption | (simp only [lenM_eq]; omega) | (simp; done) | (simp; omega), by omega, rfl, rfl⟩ (WKf [(3, (.own (203, 49) ((0)) 10 (([]).map aInline)))] (ac (show ((([]).map aInline) : List AV) = [] ∧ 0 < 49 ∧ ((0) : Nat) = (0) from ⟨rfl, by decide, rfl⟩) an) (by kernel_rfl)) ?_
  rintro n0 M S ⟨gv3, v3, v8, hv, hi, hF0, rfl, rfl⟩
  obtain ⟨n0, rfl⟩ : ∃ k, n0 = k + 1 := ⟨n0 - 1, by omega⟩
  refine UF (cpLS_L0.eq_2 ..) ?_
  refine GO (tn 1 z) (by kernel_rfl) ?_
  refine CSd (fun h1p h1 => ?_) (fun h1p h1 => ?_)
  · have := lenM_eq aInline l
    have hce := wl_el (w := wInline) (l := l) (i := v8) (by omega)
    have hcw := wInline_eq (el l v8)
    simp only [wStr, w1] at hcw
    have htk := wl_take (w := wInline) (l := l) (i := v8) (by omega)
    have hvl := wl_len (w := wInline) wInline_pos v3
    have htl := wl_take_le (w := wInline) l v8
    have hco : cpyO (el l v8) = el l v8 := by cases (el l v8); rfl
    have hcw2 : wl wInline (cpyO (el l v8)).fKids = wl wInline (el l v8).fKids := by rw [hco]
    have := wl_len (w := wInline) wInline_pos (rec ((cpyO (el l v8)).fKids))
    have := hrb ((cpyO (el l v8)).fKids) (by first | assumption | omega | decide | (simp; done) | (simp; omega)) (by first | assumption | omega | decide | (simp; done) | (simp; omega))
    refine GO (kb h1 (ke (el_aInline l v8 (by first | omega | (simp only [lenM_eq, true_and]; omega))) (tn 4 (kc (cpyO_to (el l v8) (by first | assumption | omega | decide | (simp; done) | (simp; omega))) (tn 3 (kc (hrec ((cpyO (el l v8)).fKids) (by first | assumption | omega | decide | (simp; done) | (simp; omega)) (by first | assumption | omega | decide | (simp; done) | (simp; omega))) (tn 4 (kp (show Uni 10 [(.agg [(vI ((cpyO (el l v8)).fKind)), (vS ((cpyO (el l v8)).fText)), (vS ((cpyO (el l v8)).fDest)), (vS ((cpyO (el l v8)).fTitle)), (vS (((cpyO (el l v8)).fAttr).fID)), (.sl ((((cpyO (el l v8)).fAttr).fClasses).map strAV)), (.sl ((((cpyO (el l v8)).fAttr).fPairs).map aPair)), (.sl (((cpyO (el l v8)).fArgs).map strAV)), (.sl (((cpyO (el l v8)).fCites).map aCited)), (.sl ((rec ((cpyO (el l v8)).fKids)).map aInline))])] from (uni_one rfl rfl)) (kp (show (gv3 : Nat) = gv3 ∧ Uni 10 [(.agg [(vI ((cpyO (el l v8)).fKind)), (vS ((cpyO (el l v8)).fText)), (vS ((cpyO (el l v8)).fDest)), (vS ((cpyO (el l v8)).fTitle)), (vS (((cpyO (el l v8)).fAttr).fID)), (.sl ((((cpyO (el l v8)).fAttr).fClasses).map strAV)), (.sl ((((cpyO (el l v8)).fAttr).fPairs).map aPair)), (.sl (((cpyO (el l v8)).fArgs).map strAV)), (.sl (((cpyO (el l v8)).fCites).map aCited)), (.sl ((rec ((cpyO (el l v8)).fKids)).map aInline))])] ∧ (((v3.map aInline) : List AV).length + ([(.agg [(vI ((cpyO (el l v8)).fKind)), (vS ((cpyO (el l v8)).fText)), (vS ((cpyO (el l v8)).fDest)), (vS ((cpyO (el l v8)).fTitle)), (vS (((cpyO (el l v8)).fAttr).fID)), (.sl ((((cpyO (el l v8)).fAttr).fClasses).map strAV)), (.sl ((((cpyO (el l v8)).fAttr).fPairs).map aPair)), (.sl (((cpyO (el l v8)).fArgs).map strAV)), (.sl (((cpyO (el l v8)).fCites).map aCited)), (.sl ((rec ((cpyO (el l v8)).fKids)).map aInline))])] : List AV).length) * 192 ≤ 140737488355328 from ⟨rfl, uni_one rfl rfl, by first | omega | (simp; done) | (simp; omega)⟩) (kw (ap1_aInline v3 (DInline.mk ((cpyO (el l v8)).fKind) ((cpyO (el l v8)).fText) ((cpyO (el l v8)).fDest) ((cpyO (el l v8)).fTitle) ((cpyO (el l v8)).fAttr) ((cpyO (el l v8)).fArgs) ((cpyO (el l v8)).fCites) (rec ((cpyO (el l v8)).fKids)))) (tn 1 (kn (wrE ((((v8 : Nat) : Int)) + 1) (((v8 + 1 : Nat) : Int)) (by omega)) (tn 1 z))))))))))))) (by kernel_rfl) ?_
    exact AG ⟨gv3 + 1, _, _, by first | (rw [hco] at *; simp only [wl_append, wl, wInline_mk]; omega) | omega, by first | omega | assumption | (simp only [lenM_eq]; omega) | (simp; done) | (simp; omega), by omega, rfl, rfl⟩ (WK (by kernel_rfl)) (by kernel_rfl) (Nat.lt_succ_self _)
  · have := lenM_eq aInline l
    refine GO (kb h1 z) (by kernel_rfl) ?_
    refine OUT (tn 2 z) (by kernel_rfl) ?_
    exact EN (by kernel_rfl)
def cpLN : Nat → (List DInline) → List DInline
  | 0, _ => default
  | n + 1, l => cpLS (cpLN n) l
theorem cpyO_same (x : DInline) : cpyO x = x := by cases x; rfl
theorem cpLS_eq (rec : (List DInline) → List DInline) (l : List DInline) : cpLS rec l = l.map (fun x => DInline.mk x.fKind x.fText x.fDest x.fTitle x.fAttr x.fArgs x.fCites (rec x.fKids)) :=
  loop_map aInline l (fun x => DInline.mk x.fKind x.fText x.fDest x.fTitle x.fAttr x.fArgs x.fCites (rec x.fKids)) (cpLS_L0 rec l) (fun n acc i => by rw [cpLS_L0]; simp only [cpyO_same])
theorem cpLN_same : ∀ (n : Nat) (l : List DInline), wl wInline l < n → cpLN n l = l
  | 0, l, h => by omega
  | n + 1, l, h => by
    rw [cpLN, cpLS_eq]
    refine map_same (fun x hx => ?_)
    have h1 := wl_mem (w := wInline) hx
    have h2 := wInline_eq x
    rw [cpLN_same n x.fKids (by omega)]
    cases x; rfl
theorem cpLN_bd (n : Nat) (l : List DInline) (h : wl wInline l < n) (_ : wl wInline l ≤ 1073741824) : wl wInline (cpLN n l) ≤ wl wInline l := by rw [cpLN_same n l h]; exact Nat.le_refl _
theorem cpLN_to : ∀ (n : Nat) (l : List DInline), wl wInline l < n → wl wInline l ≤ 1073741824 → CallTo Tryz.prog 89 [(jL (l.map aInline))] [] [] (jL ((cpLN n l).map aInline)) [] []
  | 0, l, h0, _ => absurd h0 (Nat.not_lt_zero _)
  | n + 1, l, h0, hl => by
    exact cpL_st (cpLN n) l hl (fun l' q1 hl' => cpLN_to n l' (by omega) hl') (fun l' q1 hl' => cpLN_bd n l' (by omega) hl')
def cpL (l : List DInline) : List DInline := cpLN (wl wInline l + 1) l
theorem cpL_to (l : List DInline) (hl : wl wInline l ≤ 1073741824) : CallTo Tryz.prog 89 [(jL (l.map aInline))] [] [] (jL ((cpL l).map aInline)) [] [] := cpLN_to _ l (Nat.lt_succ_self _) hl
theorem cpL_bd (l : List DInline) (hl : wl wInline l ≤ 1073741824) : wl wInline (cpL l) ≤ wl wInline l := cpLN_bd _ l (Nat.lt_succ_self _) hl
theorem cpL_same (l : List DInline) : cpL l = l := cpLN_same _ l (Nat.lt_succ_self _)
end Go.Proofs.YtcdfhagcchmnhaaGreatDoor
namespace Go.Proofs.YtcdfhagcchmnhaaGreatDoor
open Go Go.Eng
def cpBS_L0 (rec : (List DBlock) → List DBlock) (l : List DBlock) : Nat → (List DBlock) → Nat → List DBlock
  | 0, _, _ => default
  | n0 + 1, v3, v8 => cond (decide ((((v8 : Nat) : Int) : Int) < ((lenM aBlock l : Nat) : Int))) (cpBS_L0 rec l n0 (v3 ++ ([DBlock.mk ((el l v8).fKind) ((el l v8).fLevel) ((el l v8).fInfo) ((el l v8).fText) ((el l v8).fDest) ((el l v8).fTitle) (cpyA ((el l v8).fAttr)) (cpL ((el l v8).fLine)) (rec ((el l v8).fKids))])) (v8 + 1)) (v3)
def cpBS (rec : (List DBlock) → List DBlock) (l : List DBlock) : List DBlock := cpBS_L0 rec l ((List.length l - (0)) + 1) ([]) 0
set_option maxRecDepth 100000 in
set_option maxHeartbeats 4000000 in
theorem cpB_st (rec : (List DBlock) → List DBlock) (l : List DBlock) (hl : wl wBlock l ≤ 1073741824) (hrec : ∀ (l' : List DBlock), wl wBlock l' < wl wBlock l → wl wBlock l' ≤ 1073741824 → CallTo Tryz.prog 70 [(jL ((l').map aBlock))] [] [] (jL ((rec l').map aBlock)) [] []) (hrb : ∀ (l' : List DBlock), wl wBlock l' < wl wBlock l → wl wBlock l' ≤ 1073741824 → wl wBlock (rec l') ≤ wl wBlock l') : CallTo Tryz.prog 70 [(jL (l.map aBlock))] [] [] (jL ((cpBS rec l).map aBlock)) [] [] := by
  have hw_0 := wl_len (w := wBlock) wBlock_pos l
  refine BEG (fun r : List DBlock => (jL (r.map aBlock))) (cpBS rec l) Tryz.func70 (by kernel_rfl) ?_
  refine UF (cpBS.eq_1 ..) ?_
  refine GO (tn 5 z) (by kernel_rfl) ?_
  refine LP (fun N M S => ∃ gv3 : Nat, ∃ v3 : List DBlock, ∃ v8 : Nat, (wl wBlock v3 ≤ wl wBlock (l.take v8)) ∧ (v8 ≤ l.length) ∧ (List.length l - v8 < N) ∧ M = cpBS_L0 rec l N v3 v8 ∧ S = (sx 30 [(3, (.own (203, 45) (gv3) 11 (v3.map aBlock))), (6, (jL (l.map aBlock))), (7, (jI (((lenM aBlock l : Nat) : Int)))), (8, (jI (((v8 : Nat) : Int))))] [] [((203, 45), gv3)])) (by kernel_rfl) ⟨0, _, _, by simp [wl], by first | omega | assumption | (simp only [lenM_eq]; omega) | (simp; done) | (simp; omega), by omega, rfl, rfl⟩ (WKf [(3, (.own (203, 45) ((0)) 11 (([]).map aBlock)))] (ac (show ((([]).map aBlock) : List AV) = [] ∧ 0 < 45 ∧ ((0) : Nat) = (0) from ⟨rfl, by decide, rfl⟩) an) (by kernel_rfl)) ?_
  rintro n0 M S ⟨gv3, v3, v8, hv, hi, hF0, rfl, rfl⟩
  obtain ⟨n0, rfl⟩ : ∃ k, n0 = k + 1 := ⟨n0 - 1, by omega⟩
  refine UF (cpBS_L0.eq_2 ..) ?_
  refine GO (tn 1 z) (by kernel_rfl) ?_
  refine CSd (fun h1p h1 => ?_) (fun h1p h1 => ?_)
  · have := lenM_eq aBlock l
    have hce := wl_el (w := wBlock) (l := l) (i := v8) (by omega)
    have hcw := wBlock_eq (el l v8)
    simp only [wStr, w1] at hcw
    have htk := wl_take (w := wBlock) (l := l) (i := v8) (by omega)
    have hvl := wl_len (w := wBlock) wBlock_pos v3
    have htl := wl_take_le (w := wBlock) l v8
    have hcx := wAttr_eq (el l v8).fAttr
    have hcs := cpL_same (el l v8).fLine
    refine GO (kb h1 (ke (el_aBlock l v8 (by first | omega | (simp only [lenM_eq, true_and]; omega))) (tn 3 z))) (by kernel_rfl) ?_
    have := cpL_bd ((el l v8).fLine) (by first | assumption | omega | decide | (simp; done) | (simp; omega))
    have := wl_len (w := wBlock) wBlock_pos (rec ((el l v8).fKids))
    have := hrb ((el l v8).fKids) (by first | assumption | omega | decide | (simp; done) | (simp; omega)) (by first | assumption | omega | decide | (simp; done) | (simp; omega))
    have d2 := (cpyA_to ((el l v8).fAttr) (by first | assumption | omega | decide | (simp; done) | (simp; omega)))
    have d3 := (cpL_to ((el l v8).fLine) (by first | assumption | omega | decide | (simp; done) | (simp; omega)))
    have d4 := (hrec ((el l v8).fKids) (by first | assumption | omega | decide | (simp; done) | (simp; omega)) (by first | assumption | omega | decide | (simp; done) | (simp; omega)))
    refine DR3 (tn 2 (ko (cO d2) (kp d2 (tn 3 (ko (cO d3) (kp d3 (tn 3 (ko (cO d4) (kp d4 (tn 9 (kp (show Uni 11 [(.agg [(vI ((el l v8).fKind)), (vI ((el l v8).fLevel)), (vS ((el l v8).fInfo)), (vS ((el l v8).fText)), (vS ((el l v8).fDest)), (vS ((el l v8).fTitle)), (vS ((cpyA ((el l v8).fAttr)).fID)), (.sl (((cpyA ((el l v8).fAttr)).fClasses).map strAV)), (.sl (((cpyA ((el l v8).fAttr)).fPairs).map aPair)), (.sl ((cpL ((el l v8).fLine)).map aInline)), (.sl ((rec ((el l v8).fKids)).map aBlock))])] from (uni_one rfl rfl)) (kp (show (gv3 : Nat) = gv3 ∧ Uni 11 [(.agg [(vI ((el l v8).fKind)), (vI ((el l v8).fLevel)), (vS ((el l v8).fInfo)), (vS ((el l v8).fText)), (vS ((el l v8).fDest)), (vS ((el l v8).fTitle)), (vS ((cpyA ((el l v8).fAttr)).fID)), (.sl (((cpyA ((el l v8).fAttr)).fClasses).map strAV)), (.sl (((cpyA ((el l v8).fAttr)).fPairs).map aPair)), (.sl ((cpL ((el l v8).fLine)).map aInline)), (.sl ((rec ((el l v8).fKids)).map aBlock))])] ∧ (((v3.map aBlock) : List AV).length + ([(.agg [(vI ((el l v8).fKind)), (vI ((el l v8).fLevel)), (vS ((el l v8).fInfo)), (vS ((el l v8).fText)), (vS ((el l v8).fDest)), (vS ((el l v8).fTitle)), (vS ((cpyA ((el l v8).fAttr)).fID)), (.sl (((cpyA ((el l v8).fAttr)).fClasses).map strAV)), (.sl (((cpyA ((el l v8).fAttr)).fPairs).map aPair)), (.sl ((cpL ((el l v8).fLine)).map aInline)), (.sl ((rec ((el l v8).fKids)).map aBlock))])] : List AV).length) * 192 ≤ 140737488355328 from ⟨rfl, uni_one rfl rfl, by first | omega | (simp; done) | (simp; omega)⟩) (kw (ap1_aBlock v3 (DBlock.mk ((el l v8).fKind) ((el l v8).fLevel) ((el l v8).fInfo) ((el l v8).fText) ((el l v8).fDest) ((el l v8).fTitle) (cpyA ((el l v8).fAttr)) (cpL ((el l v8).fLine)) (rec ((el l v8).fKids)))) (tn 1 (kn (wrE ((((v8 : Nat) : Int)) + 1) (((v8 + 1 : Nat) : Int)) (by omega)) (tn 1 z)))))))))))))))) (by kernel_rfl) (by kernel_rfl) (by kernel_rfl) ?_
    exact AG ⟨gv3 + 1, _, _, by first | (rw [hcs] at *; simp only [wl_append, wl, wBlock_mk, cpyA]; omega) | omega, by first | omega | assumption | (simp only [lenM_eq]; omega) | (simp; done) | (simp; omega), by omega, rfl, rfl⟩ (WK (by kernel_rfl)) (by kernel_rfl) (Nat.lt_succ_self _)
  · have := lenM_eq aBlock l
    refine GO (kb h1 z) (by kernel_rfl) ?_
    refine OUT (tn 2 z) (by kernel_rfl) ?_
    exact EN (by kernel_rfl)
def cpBN : Nat → (List DBlock) → List DBlock
  | 0, _ => default
  | n + 1, l => cpBS (cpBN n) l
theorem cpBS_eq (rec : (List DBlock) → List DBlock) (l : List DBlock) : cpBS rec l = l.map (fun x => DBlock.mk x.fKind x.fLevel x.fInfo x.fText x.fDest x.fTitle x.fAttr x.fLine (rec x.fKids)) :=
  loop_map aBlock l (fun x => DBlock.mk x.fKind x.fLevel x.fInfo x.fText x.fDest x.fTitle x.fAttr x.fLine (rec x.fKids)) (cpBS_L0 rec l) (fun n acc i => by rw [cpBS_L0]; simp only [cpL_same, cpyA])
theorem cpBN_same : ∀ (n : Nat) (l : List DBlock), wl wBlock l < n → cpBN n l = l
  | 0, l, h => by omega
  | n + 1, l, h => by
    rw [cpBN, cpBS_eq]
    refine map_same (fun x hx => ?_)
    have h1 := wl_mem (w := wBlock) hx
    have h2 := wBlock_eq x
    rw [cpBN_same n x.fKids (by omega)]
    cases x; rfl
theorem cpBN_bd (n : Nat) (l : List DBlock) (h : wl wBlock l < n) (_ : wl wBlock l ≤ 1073741824) : wl wBlock (cpBN n l) ≤ wl wBlock l := by rw [cpBN_same n l h]; exact Nat.le_refl _
theorem cpBN_to : ∀ (n : Nat) (l : List DBlock), wl wBlock l < n → wl wBlock l ≤ 1073741824 → CallTo Tryz.prog 70 [(jL (l.map aBlock))] [] [] (jL ((cpBN n l).map aBlock)) [] []
  | 0, l, h0, _ => absurd h0 (Nat.not_lt_zero _)
  | n + 1, l, h0, hl => by
    exact cpB_st (cpBN n) l hl (fun l' q1 hl' => cpBN_to n l' (by omega) hl') (fun l' q1 hl' => cpBN_bd n l' (by omega) hl')
def cpB (l : List DBlock) : List DBlock := cpBN (wl wBlock l + 1) l
theorem cpB_to (l : List DBlock) (hl : wl wBlock l ≤ 1073741824) : CallTo Tryz.prog 70 [(jL (l.map aBlock))] [] [] (jL ((cpB l).map aBlock)) [] [] := cpBN_to _ l (Nat.lt_succ_self _) hl
theorem cpB_same (l : List DBlock) : cpB l = l := cpBN_same _ l (Nat.lt_succ_self _)
end Go.Proofs.YtcdfhagcchmnhaaGreatDoor
namespace Go.Eng
variable {P : Program}
theorem WO_sound {ops : Array Oper} {o : Oper} {rest : List Oper} {Q : St → Prop} {S : St} {r : Res} (hg : o.guard = none) (hs : Sound P o S r) (hok : r.ok) (h : WO P ops rest Q (r.st.put o.dst r.v)) : WO P ops (o :: rest) Q S := by
  refine WO_op (fun G w a hr => wanted_none hg a) (fun G w a hr Q' next hn => ?_) h
  obtain ⟨nx, v, w', G', h1, h2, h3, h4, h5, h6⟩ := hs hok G w a hr
  unfold Oper.wp
  rw [h1]
  rcases h2 with rfl | ⟨rfl, rfl⟩
  · rw [Oper.upon_value]; exact hn G' _ w' h3 (h4.put o.dst h5) h6
  · rw [Oper.upon_skip]; exact hn G' _ w' h3 (h4.put o.dst h5) h6
theorem run_eq_nil {t e : TypeId} (ht : P.underlying t = some (.slice e)) (w : World) (a : Option Addr) (n c n' c' : Nat) : (binOp .eql t (.slice a n c) (.slice none n' c')).run P w = .ok (.bool a.isNone) w := by
  have h : (Op.equal t (.slice a n c) (.slice none n' c')).run P w = .ok a.isNone w := by
    rw [show Op.equal t (.slice a n c) (.slice none n' c') = Op.equalIn (9999 + 1) t (.slice a n c) (.slice none n' c') from rfl]
    unfold Op.equalIn
    cases a <;> simp [run_underlying' ht]
  simp [binOp, h]
/-- A slice is held against nil: if it is nil, then it is empty. -/
theorem WO_isnil {ops : Array Oper} {o : Oper} {rest : List Oper} {Q : St → Prop} {S : St} {t t' e : TypeId} {x : Operand} {l : List AV} (ho : o.op = .binOp .eql t x (.const (.slice none 0 0)) t') (hg : o.guard = none) (ht : P.underlying t = some (.slice e)) (hx : S.ev x = .av (.sl l))
    (h : ∀ b : Bool, (b = true → l = []) → WO P ops rest Q (S.put o.dst (.av (.val (.bool b))))) : WO P ops (o :: rest) Q S := by
  intro more Q' G w a hr hq
  have hxr := hr.ev x
  rw [hx] at hxr
  simp only [RepS, Rep] at hxr
  obtain ⟨ad, cap, es, sz, hu, h1, h2, h3, h4⟩ := hxr
  have hbl : ad.isNone = true → l = [] := by
    intro hn
    have : es = [] := h3 (by simpa using hn)
    subst this
    exact List.length_eq_zero_iff.1 (by have := h1.length; simpa using this.symm)
  have he : (execOp a.eval o).run P w = .ok (.value (.bool ad.isNone)) w := by
    have e1 := run_eq_nil ht w ad l.length cap 0 0
    have e2 : (eqGuard .eql t x (.const (.slice none 0 0)) (.slice ad l.length cap) (.slice none 0 0)).run P w = .ok () w := by
      unfold eqGuard
      simp
    have e3 : a.eval (.const (.slice none 0 0)) = .slice none 0 0 := rfl
    simp only [execOp, ho, hu, e3, Sem.run_bind, e2, e1, Result.andThen_ok]
    rfl
  simp only [List.cons_append, wpList]
  rw [if_pos (wanted_none hg a)]
  refine .inl ?_
  unfold Oper.wp
  rw [he, Oper.upon_value]
  exact h ad.isNone hbl more Q' G w _ (hr.put o.dst ⟨rfl, rfl⟩) hq
theorem step_tok0 {G : Gh} {w : World} (hw : Wf G w) (o : Obj) {k : Key} (hk0 : 0 < k.2) (n : Nat) :
    Step G w ((G.setU w.heap.size n).next k w.heap.size) (w.alloc o) ∧ Wf ((G.setU w.heap.size n).next k w.heap.size) (w.alloc o) ∧
      ∀ κ, κ ≠ k → Keep G w ((G.setU w.heap.size n).next k w.heap.size) (w.alloc o) κ := by
  obtain ⟨s1, s2, s3⟩ := step_alloc hw o n
  have how : ∀ κ b, (if κ = k then some w.heap.size else G.ow κ) = some b → (κ = k ∧ b = w.heap.size) ∨ (κ ≠ k ∧ G.ow κ = some b) := by
    intro κ b h
    split at h
    · rename_i hk; simp at h; exact .inl ⟨hk, h.symm⟩
    · rename_i hk; exact .inr ⟨hk, h⟩
  have hkp : ∀ κ, κ ≠ k → Keep G w ((G.setU w.heap.size n).next k w.heap.size) (w.alloc o) κ := fun κ hκ => ⟨by simp only [Gh.next]; rw [if_neg hκ]; rfl, fun b hb => (s3 κ).2 b hb⟩
  refine ⟨⟨⟨s1.U, ⟨s1.imm.cell, s1.imm.map⟩, s1.size, s1.os, s1.tape, s1.output, s1.cp, fun κ => ?_, fun κ _ hg => ?_⟩, s1.stay, fun κ b h => ?_⟩, ⟨fun κ κ' b h h' => ?_, fun κ b h => ?_, s2.zero⟩, hkp⟩
  · simp only [Gh.next, Gh.setU]; split <;> omega
  · refine hkp κ (fun e => ?_)
    simp only [Gh.next, Gh.setU, if_pos e] at hg; omega
  · rcases how κ b h with ⟨_, rfl⟩ | ⟨_, h1⟩
    · exact .inr (Nat.le_refl _)
    · exact .inl ⟨κ, h1⟩
  · rcases how κ b h with ⟨h1, h2⟩ | ⟨h1, h2⟩ <;> rcases how κ' b h' with ⟨h3, h4⟩ | ⟨h3, h4⟩
    · rw [h1, h3]
    · have := hw.lt κ' b h4; omega
    · have := hw.lt κ b h2; omega
    · exact hw.inj κ κ' b h2 h4
  · rcases how κ b h with ⟨_, rfl⟩ | ⟨_, h1⟩
    · simp
    · have := hw.lt κ b h1; simp; omega
/-- An empty slice that is made: it may be appended to. -/
theorem sound_build0 {o : Oper} {S : St} {t e : TypeId} {sz bt : Nat} {z : Value} (d : Nat) (ho : o.op = .buildSlice t 0 #[]) (ht : tElem P t = some e) (hi : tInfo P e = some (sz, bt, some z)) : Sound P o S ⟨True, .own (d, e + 1) (S.gen (d, e + 1) + 1) sz [], S.next (d, e + 1)⟩ := by
  intro _ G w a hr
  have ht' : P.underlying t = some (.slice e) := by
    unfold tElem at ht; split at ht
    · rename_i hh; simp at ht; subst ht; exact hh
    · simp at ht
  have hk0 : 0 < ((d, e + 1) : Key).2 := Nat.succ_pos e
  have hk2 : ∀ κ : Key, κ.2 = 0 → κ ≠ (d, e + 1) := by intro κ h0 he; rw [he] at h0; simp at h0
  obtain ⟨s1, s2, s3⟩ := step_tok0 hr.wf (.cells #[] e) hk0 0
  refine ⟨_, .slice (some ⟨w.heap.size, 0, none⟩) 0 0, w.alloc (.cells #[] e), _, ?_, .inl rfl, s1, hr.nextTok s1.toExt s2 (fun κ h0 => s3 κ (hk2 κ h0)) (next_gen (G := G.setU _ _) hr.gn _ _), ?_, fun i _ => by simp only [Gh.next, Gh.setU]; rw [if_neg (hk2 (i, 0) rfl)]⟩
  · simp only [execOp, ho, Instr.buildSlice, Sem.run_bind, run_underlying' ht', Result.andThen_ok, run_sizeOf' hi]
    simp [newRow, Instr.fill]
    congr 2
    apply Array.ext'
    simp
  · have hg : G.gen (d, e + 1) = S.gen (d, e + 1) := hr.gn _
    refine ⟨hk0, by simp only [Gh.next, Gh.setU, if_true]; omega, some ⟨w.heap.size, 0, none⟩, 0, [], rfl, by simp [RepL], by simp, by simp, by simp, by simp, .inl (by simp [vcells]), fun _ => .inr ⟨w.heap.size, 0, #[], e, rfl, by simp [Gh.next], heap_alloc_new w _, by simp, by simp [Gh.next, Gh.setU], rfl, rfl⟩⟩
theorem append_own_step {o : Oper} {S : St} {t e d : TypeId} {sz bt : Nat} {z : Value} {x y : Operand} {k : Key} {g : Nat} {l l' : List AV} (ho : o.op = .call { callee := .builtin .append, args := #[x, y], argTypes := #[t, t] }) (hd : o.dst = some d) (hx : S.ev x = .own k g sz l) (hy : (S.ev y).toAV = some (.sl l')) (hk : e + 1 = k.2)
    (ht : tElem P t = some e) (hi : tInfo P e = some (sz, bt, some z)) (hz : z.cells.size = sz) (hbt : 0 < bt) (h2 : notInt P t = true) :
    astep P o S = some ⟨S.gen k = g ∧ Uni sz l' ∧ (l.length + l'.length) * bt ≤ 140737488355328, .own k (g + 1) sz (l ++ l'), S.next k⟩ := by
  unfold astep
  rw [ho]
  simp only [aBuiltin]
  unfold aAppend
  rw [ht, hd]
  simp only [hi]
  rw [if_pos ⟨hz, hbt, h2⟩]
  simp only [aSrc, hy, hx]
  rw [if_pos ⟨trivial, hk⟩]
/-- slices.Clone: the elements of the slice. -/
theorem clone_to {f : FuncId} {fn : Func} {t e : TypeId} {sz bt : Nat} {z : Value} {i0 i1 i2 i3 : Nat} {a0 b0 b1 c0 d0 d1 d2 d3 : Oper} {t' : TypeId} (hf : P.funcs[f]? = some fn)
    (hb : fn.body = some (.seq (.region i0 #[a0] false) (.seq (.seq (.region i1 #[b0, b1] false) (.cond (.tmp 4) (.seq (.region i2 #[c0] false) .ret) .skip)) (.seq (.region i3 #[d0, d1, d2, d3] false) .ret))))
    (hname : (fn.name == "runtime.NumGoroutine") = false) (hn : fn.ntmps = 8) (hres : fn.results.toList = [.tmp 2])
    (ha0 : a0.op = .assign (.const (.slice none 0 0)) ∧ a0.dst = some 2 ∧ a0.guard = none) (hb0 : b0.op = .move (.tmp 0) ∧ b0.dst = some 3 ∧ b0.guard = none) (hb1 : b1.op = .binOp .eql t (.tmp 3) (.const (.slice none 0 0)) t' ∧ b1.dst = some 4 ∧ b1.guard = none)
    (hc0 : c0.op = .assign (.const (.slice none 0 0)) ∧ c0.dst = some 2 ∧ c0.guard = none) (hd0 : d0.op = .buildSlice t 0 #[] ∧ d0.dst = some 5 ∧ d0.guard = none) (hd1 : d1.op = .move (.tmp 0) ∧ d1.dst = some 6 ∧ d1.guard = none)
    (hd2 : d2.op = .call { callee := .builtin .append, args := #[.tmp 5, .tmp 6], argTypes := #[t, t] } ∧ d2.dst = some 7 ∧ d2.guard = none) (hd3 : d3.op = .assign (.tmp 7) ∧ d3.dst = some 2 ∧ d3.guard = none)
    (ht : tElem P t = some e) (hi : tInfo P e = some (sz, bt, some z)) (hz : z.cells.size = sz) (hbt : 0 < bt) (l : List AV) (hu : Uni sz l) (hl : l.length * bt ≤ 140737488355328) :
    CallTo P f [.av (.sl l)] [] [] (.av (.sl l)) [] [] := by
  have ht' : P.underlying t = some (.slice e) := by
    unfold tElem at ht; split at ht
    · rename_i hh; simp at ht; subst ht; exact hh
    · simp at ht
  have h2 : notInt P t = true := by unfold notInt; rw [ht']
  refine CallTo_of_body hf hb hname hn (by simp) (by simp) (by simp) (by intro s hs; simp at hs; subst hs; exact ok_av rfl _ _) (by simp) (ok_av rfl _ _) (by simp) rfl rfl ?_
  have hend : ∀ (S : St) (s : SV), S.fr[2]? = some s → s.norm = .av (.sl l) → Ends P fn (.av (.sl l)) [] [] .ret S := by
    intro S s h1 h3
    refine ⟨⟨false, ?_⟩, by simp, by simp⟩
    unfold aRes
    rw [hres]
    simp [aRes1, h1, h3]
  refine W_seq (W_regionO ?_)
  refine WO_sound ha0.2.2 (sound_move (.inr ha0.1)) trivial ?_
  rw [ha0.2.1]
  refine WO_nil rfl ?_
  refine W_seq (W_seq (W_regionO ?_))
  refine WO_sound hb0.2.2 (sound_move (.inl hb0.1)) trivial ?_
  rw [hb0.2.1]
  refine WO_isnil (l := l) hb1.1 hb1.2.2 ht' rfl (fun b hb => ?_)
  rw [hb1.2.1]
  refine WO_nil rfl ?_
  refine W_cond (b := b) rfl ?_
  cases b with
  | true =>
    have hl0 := hb rfl
    subst hl0
    simp only [if_true]
    refine W_seq (W_regionO ?_)
    refine WO_sound hc0.2.2 (sound_move (.inr hc0.1)) trivial ?_
    rw [hc0.2.1]
    refine WO_nil rfl ?_
    exact W_ret (hend _ .nil rfl rfl)
  | false =>
    simp only [Bool.false_eq_true, if_false]
    refine W_skip ?_
    refine W_seq (W_regionO ?_)
    refine WO_sound hd0.2.2 (sound_build0 5 hd0.1 ht hi) trivial ?_
    rw [hd0.2.1]
    refine WO_sound hd1.2.2 (sound_move (.inl hd1.1)) trivial ?_
    rw [hd1.2.1]
    show WO P _ [d2, d3] _ ⟨[.av (.sl l), .junk, .nil, .av (.sl l), .av (.val (.bool false)), .own (5, e + 1) 1 sz [], .av (.sl l), .junk], [], [((5, e + 1), 1)]⟩
    refine WO_sound hd2.2.2 (astep_sound (append_own_step hd2.1 hd2.2.1 rfl rfl rfl ht hi hz hbt h2)) ⟨by simp [St.gen], hu, by simpa using hl⟩ ?_
    rw [hd2.2.1]
    refine WO_sound hd3.2.2 (sound_move (.inr hd3.1)) trivial ?_
    rw [hd3.2.1]
    refine WO_nil rfl ?_
    exact W_ret (hend _ (.own (5, e + 1) 2 sz l) rfl rfl)
end Go.Eng
namespace Go.Eng
variable {P : Program}
section
variable {t t2 ty e : TypeId} {sz bt : Nat} {z : Value}
end
theorem setRow_alloc (w : World) (arr arr' : Array Value) (e : TypeId) : (w.alloc (.cells arr e)).setRow w.heap.size arr' = w.alloc (.cells arr' e) := by
  have h : ((w.alloc (.cells arr e)).setRow w.heap.size arr').heap = (w.alloc (.cells arr' e)).heap := by
    apply Array.ext_getElem?
    intro i
    by_cases hi : i = w.heap.size
    · subst hi; rw [setRow_heap _ _ arr arr' e _ (heap_alloc_new w _), heap_alloc_new w _]
    · rw [setRow_other _ _ _ _ hi]
      rcases Nat.lt_or_ge i w.heap.size with h | h
      · rw [heap_alloc_lt w _ h, heap_alloc_lt w _ h]
      · rw [Array.getElem?_eq_none (by simp; omega), Array.getElem?_eq_none (by simp; omega)]
  exact congrArg (fun h => ({ w with heap := h } : World)) h
theorem setRow_setRow (w : World) (b : Nat) (arr arr' : Array Value) : (w.setRow b arr).setRow b arr' = w.setRow b arr' := by
  have h : ((w.setRow b arr).setRow b arr').heap = (w.setRow b arr').heap := by
    apply Array.ext_getElem?
    intro i
    simp only [World.setRow, Array.getElem?_modify]
    split
    · cases w.heap[i]? with
      | none => rfl
      | some o => cases o <;> rfl
    · rfl
  exact congrArg (fun h => ({ w with heap := h } : World)) h
/-- What is left after a slice of the call's own was moved. -/
theorem own_grown {G : Gh} {w : World} {S : St} {a : Act} {k : Key} {g sz e cap : Nat} {ad : Option Addr} {l l' : List AV} {es es' : List Value} (hr : Rel G w S a) (hk0 : 0 < k.2) (hke : e + 1 = k.2) (hgg : G.gen k = g)
    (g2 : RepL G.U w l es) (g3 : ∀ e ∈ es, e.cells.size = sz) (g5 : Lies G.U w ad (vcells es)) (hx : RepL G.U w l' es') (hu : Uni sz l') {nc : Nat} {rest : List Value} (q1 : l.length + l'.length ≤ nc) (q2 : rest.length = (nc - (l.length + l'.length)) * sz) :
    ∃ G', Step G w G' (w.drew.alloc (.cells (vcells es ++ vcells es' ++ rest).toArray e)) ∧ Rel G' (w.drew.alloc (.cells (vcells es ++ vcells es' ++ rest).toArray e)) (S.next k) a ∧
      RepS G' (w.drew.alloc (.cells (vcells es ++ vcells es' ++ rest).toArray e)) (.own k (g + 1) sz (l ++ l')) (.slice (some ⟨w.heap.size, 0, none⟩) (l.length + l'.length) nc) ∧ ∀ i, G'.ow (i, 0) = G.ow (i, 0) := by
  have hes' := hu.sizes hx
  have h1' := hx.cells hu
  have hkne : ∀ i : Nat, ((i, 0) : Key) ≠ k := by intro i he; rw [← he] at hk0; simp at hk0
  have hk2 : ∀ κ : Key, κ.2 = 0 → κ ≠ k := by intro κ h0 he; rw [he] at h0; omega
  have hl1 := vcells_length es g3
  have hl2 := vcells_length es' hes'
  have hll := g2.length
  have hll' := hx.length
  have hcellsOld : ∀ c ∈ vcells es, c.oneCell' = true := by
    rcases g5 with h | ⟨_, _, _, _, h3⟩
    · rw [h]; simp
    · intro c hc
      obtain ⟨j, hj⟩ := List.mem_iff_getElem?.1 hc
      exact (h3 j c hj).2
  have hsz : ∀ e ∈ es ++ es', e.cells.size = sz := by
    intro e he; rcases List.mem_append.1 he with h | h
    · exact g3 e h
    · exact hes' e h
  obtain ⟨s1, s2, s3⟩ := step_tok hr.wf (.cells (vcells es ++ vcells es' ++ rest).toArray e) hk0 (vcells (es ++ es')).length
  refine ⟨_, s1, hr.nextTok s1.toExt s2 (fun κ h0 => s3 κ (hk2 κ h0)) (next_gen (G := G.setU _ _) hr.gn k _), ?_, fun i => by simp only [Gh.next, Gh.setU]; rw [if_neg (hkne i)]⟩
  refine ⟨hk0, by simp only [Gh.next, Gh.setU, if_true]; omega, some ⟨w.heap.size, 0, none⟩, nc, es ++ es', by simp, ?_, hsz, by simpa using q1, by simp, by simp, ?_, fun _ => .inr ⟨w.heap.size, 0, _, e, rfl, by simp [Gh.next], heap_alloc_new w.drew _, ?_, ?_, rfl, hke⟩⟩
  · exact RepL.mono s1.U s1.imm _ _ (g2.append hx)
  · have := Lies_new (w := w.drew) (cs := vcells (es ++ es')) (rest := rest) (e := e) (n := (vcells (es ++ es')).length) G.U (by rw [vcells_append]; intro c hc; rcases List.mem_append.1 hc with h | h; exact hcellsOld c h; exact h1' c h) rfl
    rw [vcells_append] at this ⊢
    exact this
  · simp only [Nat.zero_add, List.size_toArray, List.length_append, hl1, hl2, hll, hll', q2]
    rw [← Nat.add_mul, ← Nat.add_mul]
    exact Nat.mul_le_mul_right _ (by omega)
  · simp only [Gh.next, Gh.setU, if_true, Nat.zero_add]
    rw [vcells_length _ hsz]; simp [hll, hll']
/-- What is left after elements were laid behind a slice of the call's own. -/
theorem own_room {G : Gh} {w : World} {S : St} {a : Act} {k : Key} {g sz cap b off e' : Nat} {arr : Array Value} {l l' : List AV} {es es' : List Value} (hr : Rel G w S a) (hk0 : 0 < k.2) (hgg : G.gen k = g)
    (g2 : RepL G.U w l es) (g3 : ∀ e ∈ es, e.cells.size = sz) (g5 : Lies G.U w (some ⟨b, off, none⟩) (vcells es)) (o1 : G.ow k = some b) (o2 : w.heap[b]? = some (.cells arr e' (0, 0))) (o3 : off + cap * sz ≤ arr.size) (o4 : G.U b = off + l.length * sz) (o5 : off = 0 ∧ e' + 1 = k.2)
    (hx : RepL G.U w l' es') (hu : Uni sz l') (hle : l.length + l'.length ≤ cap) :
    ∃ G', Step G w G' (w.setRow b (arr.toList.take (off + l.length * sz) ++ vcells es' ++ arr.toList.drop (off + l.length * sz + (vcells es').length)).toArray) ∧
      Rel G' (w.setRow b (arr.toList.take (off + l.length * sz) ++ vcells es' ++ arr.toList.drop (off + l.length * sz + (vcells es').length)).toArray) (S.next k) a ∧
      RepS G' (w.setRow b (arr.toList.take (off + l.length * sz) ++ vcells es' ++ arr.toList.drop (off + l.length * sz + (vcells es').length)).toArray) (.own k (g + 1) sz (l ++ l')) (.slice (some ⟨b, off, none⟩) (l.length + l'.length) cap) ∧ ∀ i, G'.ow (i, 0) = G.ow (i, 0) := by
  have hes' := hu.sizes hx
  have h1' := hx.cells hu
  have hkne : ∀ i : Nat, ((i, 0) : Key) ≠ k := by intro i he; rw [← he] at hk0; simp at hk0
  have hk2 : ∀ κ : Key, κ.2 = 0 → κ ≠ k := by intro κ h0 he; rw [he] at h0; omega
  have hl1 := vcells_length es g3
  have hl2 := vcells_length es' hes'
  have hll := g2.length
  have hll' := hx.length
  have hcellsOld : ∀ c ∈ vcells es, c.oneCell' = true := by
    rcases g5 with h | ⟨_, _, _, _, h3⟩
    · rw [h]; simp
    · intro c hc
      obtain ⟨j, hj⟩ := List.mem_iff_getElem?.1 hc
      exact (h3 j c hj).2
  have hsz : ∀ e ∈ es ++ es', e.cells.size = sz := by
    intro e he; rcases List.mem_append.1 he with h | h
    · exact g3 e h
    · exact hes' e h
  have hmul : (l.length + l'.length) * sz ≤ cap * sz := Nat.mul_le_mul_right _ hle
  rw [Nat.add_mul] at hmul
  obtain ⟨s1, s2, s3⟩ := step_room hr.wf hk0 o1 o2 (off + (l.length + l'.length) * sz) (by rw [o4, Nat.add_mul]; omega) (arr.toList.take (off + l.length * sz) ++ vcells es' ++ arr.toList.drop (off + l.length * sz + (vcells es').length)).toArray
    (fun j hj => by
      rw [o4] at hj
      have : j < (arr.toList.take (off + l.length * sz)).length := by simp; omega
      simp only [List.getElem?_toArray]
      rw [List.append_assoc, List.getElem?_append_left this, List.getElem?_take, if_pos hj]
      simp)
  refine ⟨_, s1, hr.nextTok s1.toExt s2 (fun κ h0 => s3 κ (hk2 κ h0)) (next_gen (G := G.setU _ _) hr.gn k _), ?_, fun i => by simp only [Gh.next, Gh.setU]; rw [if_neg (hkne i)]⟩
  refine ⟨hk0, by simp only [Gh.next, Gh.setU, if_true]; omega, some ⟨b, off, none⟩, cap, es ++ es', by simp, RepL.mono s1.U s1.imm _ _ (g2.append hx), hsz, by simpa using hle, by simp, by simp, ?_, fun _ => .inr ⟨b, off, _, e', rfl, by simp [Gh.next], setRow_heap w b arr _ e' _ o2, ?_, ?_, o5⟩⟩
  · rw [vcells_append]
    by_cases hzz : vcells es ++ vcells es' = []
    · exact .inl hzz
    · refine .inr ⟨b, off, rfl, ?_, fun j v hj => ⟨?_, ?_⟩⟩
      · simp only [Gh.next, Gh.setU, if_true, List.length_append, hl1, hl2, hll, hll', Nat.add_mul]; omega
      · simp only [World.cell?, setRow_heap w b arr _ e' _ o2]
        rcases Nat.lt_or_ge j (vcells es).length with hjl | hjl
        · rw [List.getElem?_append_left hjl] at hj
          have hold : w.cell? ⟨b, off + j, none⟩ = some v := by
            rcases g5 with h | ⟨b', off', q1, q2, q3⟩
            · rw [h] at hjl; simp at hjl
            · simp at q1; obtain ⟨rfl, rfl⟩ := q1; exact (q3 j v hj).1
          simp only [World.cell?, o2] at hold
          simp at hold
          have hlt : off + j < off + l.length * sz := by rw [hl1, hll] at hjl; omega
          have : off + j < (arr.toList.take (off + l.length * sz)).length := by simp; omega
          simp only [List.getElem?_toArray]
          rw [List.append_assoc, List.getElem?_append_left this, List.getElem?_take, if_pos hlt]
          simpa using hold
        · rw [List.getElem?_append_right hjl] at hj
          have htl : (arr.toList.take (off + l.length * sz)).length = off + l.length * sz := by simp; omega
          have hjj : j - (vcells es).length < (vcells es').length := by
            rcases Nat.lt_or_ge (j - (vcells es).length) (vcells es').length with h | h
            · exact h
            · simp [List.getElem?_eq_none h] at hj
          have hq : (vcells es).length = l.length * sz := by rw [hl1, hll]
          have hjj2 : off + j - (off + l.length * sz) < (vcells es').length := by omega
          simp only [List.getElem?_toArray]
          rw [List.append_assoc, List.getElem?_append_right (by rw [htl]; omega), htl, List.getElem?_append_left hjj2]
          rw [show off + j - (off + l.length * sz) = j - (vcells es).length by omega]
          simpa using hj
      · have := List.mem_of_getElem? hj
        rcases List.mem_append.1 this with h | h
        · exact hcellsOld v h
        · exact h1' v h
  · simp only [List.size_toArray, List.length_append, List.length_take, List.length_drop, Array.length_toList, hl2, hll']; omega
  · simp only [Gh.next, Gh.setU, if_true, List.length_append]
theorem splice_splice {α : Type} (A z x : List α) (p : Nat) (hp : p ≤ A.length) (hz : z.length = x.length) :
    (A.take p ++ z ++ A.drop (p + z.length)).take p ++ x ++ (A.take p ++ z ++ A.drop (p + z.length)).drop (p + x.length) = A.take p ++ x ++ A.drop (p + x.length) := by
  have htl : (A.take p).length = p := by simp; omega
  rw [List.append_assoc (A.take p) z, List.take_left' htl]
  congr 1
  have : p + x.length = (A.take p).length + z.length := by rw [htl, hz]
  rw [this, List.drop_append, List.drop_eq_nil_of_le (by omega), List.nil_append, Nat.add_sub_cancel_left, List.drop_left' rfl, htl]
/-- What append of a zero element and a store over it lead to. -/
def PushTo (P : Program) (G : Gh) (w : World) (S : St) (a : Act) (k : Key) (g sz : Nat) (l : List AV) (x : AV) (u v0 vx : Value) (ty t : TypeId) : Prop :=
  ∃ b cap w1 arr1 arr2 e1 G', (Builtin.append_ #[t, t] ty #[u, v0]).run P w = .ok (.slice (some ⟨b, 0, none⟩) (l.length + 1) cap) w1 ∧ w1.heap[b]? = some (.cells arr1 e1 (0, 0)) ∧
    (∀ W : World, W.heap[b]? = some (.cells arr1 e1 (0, 0)) → (storeCells ⟨b, l.length * sz, none⟩ vx.cells.toList).run P W = .ok () (W.setRow b arr2)) ∧ Step G w G' (w1.setRow b arr2) ∧ Rel G' (w1.setRow b arr2) (S.next k) a ∧
    RepS G' (w1.setRow b arr2) (.own k (g + 1) sz (l ++ [x])) (.slice (some ⟨b, 0, none⟩) (l.length + 1) cap) ∧ (∀ i, G'.ow (i, 0) = G.ow (i, 0)) ∧ ∀ κ c, κ ≠ k → G.ow κ = some c → c ≠ b ∧ w1.heap[c]? = w.heap[c]?
/-- A zero element is appended and then written. -/
theorem push_own {t ty e : TypeId} {sz bt : Nat} {z : Value} (ht : tElem P t = some e) (h2 : notInt P t = true) (hi : tInfo P e = some (sz, bt, some z)) (hz : z.cells.size = sz) (hbt : 0 < bt)
    {G : Gh} {w : World} {S : St} {a : Act} {k : Key} {g : Nat} {l : List AV} {x0 x : AV} {u v0 vx : Value} {es0 : List Value} (hr : Rel G w S a) (hown : RepS G w (.own k g sz l) u) (hke : e + 1 = k.2) (hgen : S.gen k = g) (h0 : Src P w G.U sz v0 [x0] es0) (hu0 : Uni sz [x0])
    (hx : Rep G.U w x vx) (hux : Uni sz [x]) (hb : (l.length + 1) * bt ≤ 140737488355328) :
    PushTo P G w S a k g sz l x u v0 vx ty t := by
  obtain ⟨hk0, hgle, ad, cap, es, rfl, g2, g3, g4, gn, gsp, g5, g6⟩ := hown
  have hgg : G.gen k = g := by rw [hr.gn k]; exact hgen
  have g6 := g6 hgg
  have hes0 := hu0.sizes h0.rep
  have hrx : RepL G.U w [x] [vx] := by simp only [RepL]; exact ⟨vx, [], rfl, hx, rfl⟩
  have hvx := hux.sizes hrx
  have hcx := hrx.cells hux
  have hc0 := h0.rep.cells hu0
  have hl1 := vcells_length es g3
  have hl0 := vcells_length es0 hes0
  have hlx := vcells_length [vx] hvx
  have hll := g2.length
  have hll0 := h0.rep.length
  have e0 : es0.length = 1 := by simpa using hll0
  have hvv : vcells [vx] = vx.cells.toList := by simp [vcells]
  rw [e0] at hl0
  simp only [List.length_singleton] at hlx
  have hl0x : (vcells es0).length = (vcells [vx]).length := by omega
  have grow : cap < l.length + 1 → (ad = none → es = []) → PushTo P G w S a k g sz l x (.slice ad l.length cap) v0 vx ty t := by
    intro hlt hn
    obtain ⟨nc, rest, q1, q2, q3⟩ := run_append_grow (ty := ty) ht h2 hi hz hbt (w := w) (a := ad) (n := l.length) (cap := cap) (m := 1) (x := v0) (olds := vcells es) (news := vcells es0) (h0.len w rfl)
      (fun w' hw => first_of_lies g5 g3 hll hn w' hw) (fun w' hw => h0.cells w' hw) hlt hb
    obtain ⟨G', s1, s2, s3, s4⟩ := own_grown (rest := rest) (nc := nc) (cap := cap) hr hk0 hke hgg g2 g3 g5 hrx hux (by simpa using q1) (by simpa using q2)
    have htl : (vcells es).length = l.length * sz := by rw [hl1, hll]
    have hst : ∀ W : World, W.heap[w.heap.size]? = some (.cells (vcells es ++ vcells es0 ++ rest).toArray e (0, 0)) → (storeCells ⟨w.heap.size, l.length * sz, none⟩ vx.cells.toList).run P W = .ok () (W.setRow w.heap.size (vcells es ++ vcells [vx] ++ rest).toArray) := by
      intro W hW
      have hst := run_storeCells_at (P := P) w.heap.size (l.length * sz) e (vcells [vx]) 0 (vcells es ++ vcells es0 ++ rest).toArray W hW (by simp only [List.size_toArray, List.length_append, hl1, hll]; omega) hcx
      simp only [Nat.add_zero] at hst
      rw [hvv] at hst
      rw [hst]
      congr 3
      rw [hvv] at hl0x
      rw [List.append_assoc (vcells es), List.take_left' htl, hvv]
      congr 1
      rw [← htl, List.drop_append, List.drop_eq_nil_of_le (by omega), List.nil_append, Nat.add_sub_cancel_left, List.drop_left' hl0x]
    have hw : (w.drew.alloc (.cells (vcells es ++ vcells es0 ++ rest).toArray e)).setRow w.heap.size (vcells es ++ vcells [vx] ++ rest).toArray = w.drew.alloc (.cells (vcells es ++ vcells [vx] ++ rest).toArray e) := setRow_alloc w.drew _ _ e
    refine ⟨w.heap.size, nc, _, _, (vcells es ++ vcells [vx] ++ rest).toArray, e, G', q3, heap_alloc_new w.drew _, hst, ?_, ?_, ?_, s4, fun κ c _ hκ => ?_⟩
    · rw [hw]; exact s1
    · rw [hw]; exact s2
    · rw [hw]; exact s3
    · have := hr.wf.lt κ c hκ
      exact ⟨by omega, heap_alloc_lt w.drew _ this⟩
  rcases g6 with ⟨rfl, rfl⟩ | ⟨b, off, arr, e', rfl, o1, o2, o3, o4, o5⟩
  · have hl00 : l.length = 0 := by omega
    have hes00 : es = [] := List.length_eq_zero_iff.1 (by omega)
    exact grow (by omega) (fun _ => hes00)
  · by_cases hle : l.length + 1 ≤ cap
    · have hmul : (l.length + 1) * sz ≤ cap * sz := Nat.mul_le_mul_right _ hle
      rw [Nat.add_mul] at hmul
      have o50 := o5.1
      subst o50
      have hst := run_storeCells_at (P := P) b (0 + l.length * sz) e' (vcells es0) 0 arr w o2 (by omega) hc0
      simp only [Nat.add_zero] at hst
      have hst2 : ∀ W : World, W.heap[b]? = some (.cells (arr.toList.take (0 + l.length * sz) ++ vcells es0 ++ arr.toList.drop (0 + l.length * sz + (vcells es0).length)).toArray e' (0, 0)) →
          (storeCells ⟨b, l.length * sz, none⟩ vx.cells.toList).run P W = .ok () (W.setRow b (arr.toList.take (0 + l.length * sz) ++ vcells [vx] ++ arr.toList.drop (0 + l.length * sz + (vcells [vx]).length)).toArray) := by
        intro W hW
        have hst2 := run_storeCells_at (P := P) b (0 + l.length * sz) e' (vcells [vx]) 0 (arr.toList.take (0 + l.length * sz) ++ vcells es0 ++ arr.toList.drop (0 + l.length * sz + (vcells es0).length)).toArray
          W hW (by simp only [List.size_toArray, List.length_append, List.length_take, List.length_drop, Array.length_toList]; omega) hcx
        simp only [Nat.add_zero] at hst2
        rw [Nat.zero_add] at hst2 ⊢
        rw [hvv] at hst2 hl0x ⊢
        rw [hst2]
        congr 3
        have := splice_splice arr.toList (vcells es0) vx.cells.toList (l.length * sz) (by rw [show arr.toList.length = arr.size from Array.length_toList]; omega) hl0x
        simpa using this
      obtain ⟨G', s1, s2, s3, s4⟩ := own_room hr hk0 hgg g2 g3 g5 o1 o2 o3 o4 o5 hrx hux (by simpa using hle)
      refine ⟨b, cap, _, _, _, e', G', run_append_place (ty := ty) ht h2 hi (h0.len w rfl) (h0.cells w rfl) (by simpa using hle) hst, setRow_heap w b arr _ e' _ o2, hst2, ?_, ?_, ?_, s4, fun κ c hne hκ => ?_⟩
      · rw [setRow_setRow]; exact s1
      · rw [setRow_setRow]; exact s2
      · rw [setRow_setRow]; exact s3
      · have hcb : c ≠ b := fun he => hne (hr.wf.inj κ k b (he ▸ hκ) o1)
        exact ⟨hcb, setRow_other w b c _ hcb⟩
    · exact grow (by omega) (by simp)
end Go.Eng
namespace Go.Eng
variable {P : Program}
def WA (P : Program) (ops : Array Oper) (Q : St → Prop) (fuel : Nat) (listed : Array Bool) (S : St) : Prop :=
  ∀ (Q' : Exit → Act → World → Prop) (G : Gh) (w : World) (a : Act), Rel G w S a →
    (∀ S' G' a' w', Q S' → Step G w G' w' → Rel G' w' S' a' → (∀ i, 1000 ≤ i → G'.ow (i, 0) = G.ow (i, 0)) → Q' .normal a' w') → wpAny P .any ops Q' fuel listed a w
def upTo (sz n : Nat) : Array Bool := (Array.range sz).map (fun i => decide (i < n))
def headsA (ops : Array Oper) (n : Nat) : Nat → Array Bool → Bool
  | 0, listed => (List.range n).all (fun i => listed.getD i false)
  | f + 1, listed => !(Region.ready .any ops listed).isEmpty && (Region.ready .any ops listed).all (fun i => decide (i < n) && headsA ops n f (listed.setIfInBounds i true))
theorem upTo_eq {listed : Array Bool} {sz n : Nat} (hsz : listed.size = sz) (h1 : ∀ j, j < n → listed.getD j false = true) (h2 : ∀ j, n ≤ j → listed.getD j false = false) : listed = upTo sz n := by
  apply Array.ext
  · simp [upTo, hsz]
  · intro i hi hi'
    simp only [upTo, Array.getElem_map, Array.getElem_range]
    by_cases h : i < n
    · have := h1 i h
      simp only [Array.getD_eq_getD_getElem?, Array.getElem?_eq_getElem hi, Option.getD_some] at this
      rw [this]; simp [h]
    · have := h2 i (by omega)
      simp only [Array.getD_eq_getD_getElem?, Array.getElem?_eq_getElem hi, Option.getD_some] at this
      rw [this]; simp [h]
theorem W_head {id : Nat} {ops : Array Oper} {Q : Exit → St → Prop} {S Sc : St} (hm : P.follows .mixedOrders = true) (n : Nat) (v : Nat → SV) (d : Nat → Nat) (hB : headsA ops n n (Array.replicate ops.size false) = true)
    (hd : ∀ i, i < n → ∃ o, ops[i]? = some o ∧ o.dst = some (d i) ∧ o.guard = none) (hinj : ∀ i j, i < n → j < n → d i = d j → i = j) (hlt : ∀ i, i < n → d i < S.fr.length)
    (hop : ∀ i, i < n → ∀ o, ops[i]? = some o → ∀ S' : St, S'.bx = S.bx → S'.gn = S.gn → S'.fr.length = S.fr.length → (∀ e ∈ o.after, Region.binds .any e = true → e.on < n → S'.fr[d e.on]? = some (v e.on)) → (∀ t : Nat, (∀ j, j < n → t ≠ d j) → S'.fr[t]? = S.fr[t]?) →
      ∃ p : Prop, p ∧ astep P o S' = some ⟨p, v i, S'⟩)
    (hS1 : Sc.bx = S.bx) (hS2 : Sc.gn = S.gn) (hS3 : ∀ j, j < n → Sc.fr[d j]? = some (v j)) (hS4 : ∀ t : Nat, (∀ j, j < n → t ≠ d j) → Sc.fr[t]? = S.fr[t]?)
    (h : WA P ops (Q .normal) (ops.size - n) (upTo ops.size n) Sc) : W P (.region id ops true) Q S := by
  intro G0 w0 a0 hr0
  obtain ⟨hstep0, hr0'⟩ := hr0.draw
  apply wp_region_any hm
  have main : ∀ (f : Nat) (listed : Array Bool) (G : Gh) (w : World) (a : Act) (S' : St), headsA ops n f listed = true → listed.size = ops.size → (∀ j, n ≤ j → listed.getD j false = false) → S'.bx = S.bx → S'.gn = S.gn → S'.fr.length = S.fr.length →
      (∀ j, j < n → listed.getD j false = true → S'.fr[d j]? = some (v j)) → (∀ t : Nat, (∀ j, j < n → t ≠ d j) → S'.fr[t]? = S.fr[t]?) → Rel G w S' a → Step G0 w0 G w → (∀ i, 1000 ≤ i → G.ow (i, 0) = G0.ow (i, 0)) → wpAny P .any ops (lift Q G0 w0) (f + (ops.size - n)) listed a w := by
    intro f
    induction f with
    | zero =>
      intro listed G w a S' hb hsz hun h1 h2 h3 h4 h5 hr hst how
      simp only [headsA] at hb
      have hall' : ∀ j, j < n → listed.getD j false = true := fun j hj => List.all_eq_true.1 hb j (List.mem_range.2 hj)
      have hfr : S'.fr = Sc.fr := by
        apply List.ext_getElem?
        intro t
        by_cases ht : ∃ j, j < n ∧ t = d j
        · obtain ⟨j, hj, rfl⟩ := ht
          rw [h4 j hj (hall' j hj), hS3 j hj]
        · have ht' : ∀ j, j < n → t ≠ d j := fun j hj e => ht ⟨j, hj, e⟩
          rw [h5 t ht', hS4 t ht']
      have hSS : S' = Sc := by
        obtain ⟨f1, b1, g1⟩ := S'
        obtain ⟨f2, b2, g2⟩ := Sc
        simp only at hfr h1 h2 hS1 hS2
        rw [hfr, h1, h2, hS1, hS2]
      subst hSS
      rw [upTo_eq hsz hall' hun, Nat.zero_add]
      exact h (lift Q G0 w0) G w a hr (fun S2 G2 a2 w2 q1 q2 q3 q4 => ⟨S2, G2, q1, hst.trans q2, q3, fun i hi => (q4 i hi).trans (how i hi)⟩)
    | succ f ih =>
      intro listed G w a S' hb hsz hun0 h1 h2 h3 h4 h5 hr hst how
      simp only [headsA, Bool.and_eq_true, Bool.not_eq_true', List.isEmpty_eq_false_iff] at hb
      obtain ⟨hne, hall⟩ := hb
      rw [show f + 1 + (ops.size - n) = (f + (ops.size - n)) + 1 by omega]
      refine ⟨fun h0 => absurd h0 hne, fun i hi => ?_⟩
      have hi2 := List.all_eq_true.1 hall i hi
      simp only [Bool.and_eq_true, decide_eq_true_eq] at hi2
      obtain ⟨hin, hbi⟩ := hi2
      obtain ⟨hun, o, ho, hdep⟩ := mem_ready.1 hi
      obtain ⟨o', ho', hdst, hg⟩ := hd i hin
      have : o' = o := Option.some.inj (ho'.symm.trans ho)
      subst this
      obtain ⟨p, hp, hast⟩ := hop i hin o' ho S' h1 h2 h3 (fun e he hbe hen => h4 e.on hen (hdep e he hbe)) h5
      obtain ⟨nx, u, w', G', x1, x2, x3, x4, x5, x6⟩ := astep_sound hast hp G w a hr
      unfold wpOp
      simp only [ho]
      rw [if_pos (wanted_none hg a)]
      refine .inl ?_
      have hlisted : i < listed.size := by rw [hsz]; exact (Array.getElem?_eq_some_iff.1 ho).1
      have next : ∀ u, RepS G' w' (v i) u → wpAny P .any ops (lift Q G0 w0) (f + (ops.size - n)) (listed.setIfInBounds i true) (a.put o'.dst u) w' := by
        intro u hu
        refine ih _ G' w' _ (S'.put (some (d i)) (v i)) hbi (by simp [hsz]) (fun j hj => ?_) h1 h2 (by simp [St.put, h3]) (fun j hj hl => ?_) (fun t ht => ?_) (by rw [hdst]; exact x4.put (some (d i)) hu) (hst.trans x3) (fun i hi => (x6 i hi).trans (how i hi))
        · have hq := hun0 j hj
          simp only [Array.getD_eq_getD_getElem?] at hq ⊢
          rw [Array.getElem?_setIfInBounds_ne (by omega)]
          exact hq
        · simp only [St.put, List.getElem?_set]
          by_cases hji : d i = d j
          · have := hinj i j hin hj hji
            subst this
            rw [if_pos rfl, if_pos (by rw [h3]; exact hlt i hin)]
          · rw [if_neg hji]
            refine h4 j hj ?_
            have hij : i ≠ j := fun e => hji (by rw [e])
            rw [← hl]
            simp only [Array.getD_eq_getD_getElem?]
            rw [Array.getElem?_setIfInBounds_ne hij]
        · simp only [St.put, List.getElem?_set]
          rw [if_neg (fun e => ht i hin e.symm)]
          exact h5 t ht
      unfold Oper.wp
      rw [x1]
      rcases x2 with rfl | ⟨rfl, rfl⟩
      · rw [Oper.upon_value]; exact next _ x5
      · rw [Oper.upon_skip]; exact next _ x5
  by_cases hle : n ≤ ops.size
  · have := main n (Array.replicate ops.size false) G0 _ a0 S hB (by simp) (fun j _ => getD_replicate_false _ _) rfl rfl rfl (fun j _ hl => by rw [getD_replicate_false] at hl; cases hl) (fun _ _ => rfl) hr0' hstep0 (fun _ _ => rfl)
    rwa [show n + (ops.size - n) = ops.size by omega] at this
  · obtain ⟨o, ho, _⟩ := hd ops.size (by omega)
    simp at ho
section
variable {ops : Array Oper} {Q : Exit → Act → World → Prop}
theorem op_value {i : Nat} {o : Oper} {K : Act → World → Prop} {a : Act} {w w' : World} {v : Value} (ho : ops[i]? = some o) (hg : o.guard = none) (hx : (execOp a.eval o).run P w = .ok (.value v) w') (h : K (a.put o.dst v) w') : wpOp P ops Q i K a w := by
  unfold wpOp
  simp only [ho]
  rw [if_pos (wanted_none hg a)]
  refine .inl ?_
  unfold Oper.wp
  rw [hx, Oper.upon_value]; exact h
theorem op_skip {i : Nat} {o : Oper} {K : Act → World → Prop} {a : Act} {w w' : World} (ho : ops[i]? = some o) (hg : o.guard = none) (hd : o.dst = none) (hx : (execOp a.eval o).run P w = .ok .skip w') (h : K a w') : wpOp P ops Q i K a w := by
  unfold wpOp
  simp only [ho]
  rw [if_pos (wanted_none hg a)]
  refine .inl ?_
  unfold Oper.wp
  rw [hx, Oper.upon_skip, hd]; exact h
theorem any_one {L : Array Bool} {i f : Nat} {a : Act} {w : World} (hr : Region.ready .any ops L = [i]) (h : wpOp P ops Q i (wpAny P .any ops Q f (L.setIfInBounds i true)) a w) : wpAny P .any ops Q (f + 1) L a w :=
  ⟨fun h0 => (by rw [hr] at h0; cases h0), fun j hj => (by
    rw [hr] at hj
    obtain rfl : j = i := by simpa using hj
    exact h)⟩
theorem any_two {L : Array Bool} {i j f : Nat} {a : Act} {w : World} (hr : Region.ready .any ops L = [i, j]) (h1 : wpOp P ops Q i (wpAny P .any ops Q f (L.setIfInBounds i true)) a w) (h2 : wpOp P ops Q j (wpAny P .any ops Q f (L.setIfInBounds j true)) a w) : wpAny P .any ops Q (f + 1) L a w :=
  ⟨fun h0 => (by rw [hr] at h0; cases h0), fun k hk => by
    rw [hr] at hk
    simp only [List.mem_cons, List.not_mem_nil, or_false] at hk
    rcases hk with rfl | rfl
    · exact h1
    · exact h2⟩
end
theorem setRow_comm (w : World) {b c : Nat} (h : b ≠ c) (x y : Array Value) : (w.setRow b x).setRow c y = (w.setRow c y).setRow b x := by
  have he : ((w.setRow b x).setRow c y).heap = ((w.setRow c y).setRow b x).heap := by
    apply Array.ext_getElem?
    intro i
    simp only [World.setRow, Array.getElem?_modify]
    by_cases h1 : b = i <;> by_cases h2 : c = i
    · exact (h (h1.trans h2.symm)).elim
    · simp [h1, h2]
    · simp [h1, h2]
    · simp [h1, h2]
  exact congrArg (fun h => ({ w with heap := h } : World)) he
/-- The orders in which the idiom comes. -/
def pushB (ops : Array Oper) (n : Nat) (L : Array Bool) : Bool :=
  let s := fun (L : Array Bool) (i : Nat) => L.setIfInBounds i true
  decide (Region.ready .any ops L = [n]) && decide (Region.ready .any ops (s L n) = [n + 1, n + 3]) && decide (Region.ready .any ops (s (s L n) (n + 1)) = [n + 2, n + 3]) && decide (Region.ready .any ops (s (s (s L n) (n + 1)) (n + 2)) = [n + 3]) &&
  decide (Region.ready .any ops (s (s L n) (n + 3)) = [n + 1]) && decide (Region.ready .any ops (s (s (s L n) (n + 3)) (n + 1)) = [n + 2]) && decide (Region.ready .any ops (s (s (s L n) (n + 1)) (n + 3)) = [n + 2]) &&
  decide (Region.ready .any ops (s (s (s (s L n) (n + 1)) (n + 2)) (n + 3)) = []) && decide (Region.ready .any ops (s (s (s (s L n) (n + 3)) (n + 1)) (n + 2)) = []) && decide (Region.ready .any ops (s (s (s (s L n) (n + 1)) (n + 3)) (n + 2)) = [])
theorem WA_push {ops : Array Oper} {o4 o5 o6 o7 : Oper} {Q : St → Prop} {S : St} {n : Nat} {L : Array Bool} {t e T T7 ty : TypeId} {sz bt bt' bt7 : Nat} {z : Value} {z' z7 : Option Value} {k : Key} {g d4 d5 p1 bid : Nat} {l : List AV} {x0 x : AV} {s0 : SV} {A B C X : Operand}
    (hB : pushB ops n L = true) (hi4 : ops[n]? = some o4) (hi5 : ops[n + 1]? = some o5) (hi6 : ops[n + 2]? = some o6) (hi7 : ops[n + 3]? = some o7)
    (ho4 : o4.op = .call { callee := .builtin .append, args := #[A, B], argTypes := #[t, t] }) (hd4 : o4.dst = some d4) (hg4 : o4.guard = none) (ho5 : o5.op = .indexAddr t (.tmp d4) C) (hd5 : o5.dst = some d5) (hg5 : o5.guard = none) (ho6 : o6.op = .store T (.tmp d5) X) (hd6 : o6.dst = none) (hg6 : o6.guard = none)
    (ho7 : o7.op = .store T7 (.tmp p1) (.tmp d4)) (hd7 : o7.dst = none) (hg7 : o7.guard = none)
    (hA : S.ev A = .own k g sz l) (hBv : S.ev B = .av (.sl [x0])) (hC : S.ev C = .av (.val (.int .i64 l.length))) (hX : (S.ev X).toAV = some x) (hP : S.ev (.tmp p1) = .ptr bid 0) (hbx : S.bx.lookup bid = some (.cells ty [s0]))
    (hC4 : C ≠ .tmp d4) (hX4 : X ≠ .tmp d4) (hX5 : X ≠ .tmp d5) (hp4 : p1 ≠ d4) (hp5 : p1 ≠ d5) (hne : d4 ≠ d5) (hl4 : d4 < S.fr.length) (hl5 : d5 < S.fr.length)
    (ht : tElem P t = some e) (h2 : notInt P t = true) (hi : tInfo P e = some (sz, bt, some z)) (hT : tInfo P T = some (sz, bt', z')) (hT7 : tInfo P T7 = some (1, bt7, z7)) (hz : z.cells.size = sz) (hbt : 0 < bt) (hke : e + 1 = k.2) (hgen : S.gen k = g) (hu0 : Uni sz [x0]) (hux : Uni sz [x]) (hb : (l.length + 1) * bt ≤ 140737488355328)
    (h : Q ((((S.next k).put (some d4) (.own k (g + 1) sz (l ++ [x]))).put (some d5) .junk).setBox bid (.cells ty [.own k (g + 1) sz (l ++ [x])]))) : WA P ops Q 4 L S := by
  intro Q' G w a hr hq
  simp only [pushB, Bool.and_eq_true, decide_eq_true_eq] at hB
  obtain ⟨⟨⟨⟨⟨⟨⟨⟨⟨b1, b2⟩, b3⟩, b4⟩, b5⟩, b6⟩, b7⟩, b8⟩, b9⟩, b10⟩ := hB
  have ht' : P.underlying t = some (.slice e) := by
    unfold tElem at ht; split at ht
    · rename_i hh; simp at ht; subst ht; exact hh
    · simp at ht
  have hrA := hr.ev A; rw [hA] at hrA
  have hrB := hr.ev B; rw [hBv] at hrB
  have hrC := hr.ev C; rw [hC] at hrC
  simp only [RepS, Rep] at hrC
  have hrP := hr.ev (.tmp p1); rw [hP] at hrP
  obtain ⟨bx, hbx1, hbx2⟩ := hrP
  obtain ⟨bx', arrb, q1, q2, q3, q4, q5⟩ := hr.bx _ (lookup_mem hbx)
  simp only at q1
  rw [hbx1] at q1; simp only [Option.some.injEq] at q1; subst q1
  have hrX := (hr.ev X).toAV hX
  obtain ⟨es0, hs0⟩ := src_sl (P := P) (x := a.eval B) hrB hu0
  obtain ⟨b, cap, w1, arr1, arr2, e1, G', r1, r0, r2, s1, s2, s3, s4, s5⟩ := push_own (ty := o4.type) ht h2 hi hz hbt hr hrA hke hgen hs0 hu0 hrX hux hb
  obtain ⟨c1, c2⟩ := s5 (bid, 0) bx (by intro e; rw [← e] at hke; simp at hke) hbx1
  have hheapx : w1.heap[bx]? = some (.cells arrb ty (0, 0)) := by rw [c2]; exact q2
  have hsz : a.tmps.size = S.fr.length := hr.size.symm
  have evne : ∀ (a' : Act) (y : Operand) (v : Value) (d : Nat), y ≠ .tmp d → (a'.put (some d) v).eval y = a'.eval y := by
    intro a' y v d hy
    cases y with
    | tmp t' =>
      have : t' ≠ d := fun e => hy (by rw [e])
      simp only [Act.eval, Act.put, Array.getD_eq_getD_getElem?]
      rw [Array.getElem?_setIfInBounds_ne (Ne.symm this)]
    | _ => rfl
  have eveq : ∀ (a' : Act) (v : Value) (d : Nat), d < a'.tmps.size → (a'.put (some d) v).eval (.tmp d) = v := by
    intro a' v d hd
    simp only [Act.eval, Act.put, Array.getD_eq_getD_getElem?]
    rw [Array.getElem?_setIfInBounds_self_of_lt hd]; rfl
  obtain ⟨u1, hu1⟩ : ∃ u1, u1 = Value.slice (some ⟨b, 0, none⟩) (l.length + 1) cap := ⟨_, rfl⟩
  obtain ⟨pt, hpt⟩ : ∃ pt, pt = Value.pointer (some ⟨b, l.length * sz, none⟩) := ⟨_, rfl⟩
  have x4 : (execOp a.eval o4).run P w = .ok (.value u1) w1 := by
    obtain ⟨c, hc⟩ := exec_builtin (P := P) (a := a) ho4 w
    rw [hc, hu1]; simp [builtin, r1]
  have hs4 : d4 < a.tmps.size := by omega
  have hs5 : d5 < (a.put (some d4) u1).tmps.size := by simp only [Act.put, Array.size_setIfInBounds]; omega
  have x5 : ∀ W, (execOp (a.put (some d4) u1).eval o5).run P W = .ok (.value pt) W := by
    intro W
    have hlt' : ((l.length : Nat) : Int) < ((l.length : Nat) : Int) + 1 := by omega
    have ev4 : (a.put (some d4) u1).eval (.tmp d4) = .slice (some ⟨b, 0, none⟩) (l.length + 1) cap := by rw [eveq _ _ _ hs4, hu1]
    rw [hpt]
    simp [execOp, ho5, ev4, evne _ C _ d4 hC4, hrC.1, Instr.indexAt, asIntOf, run_underlying' ht', run_sizeOf' hi, addr_add, hlt']
  have hcs : (a.eval X).cells.size = sz := by
    have := hux.sizes (show RepL G.U w [x] [a.eval X] by simp only [RepL]; exact ⟨_, [], rfl, hrX, rfl⟩)
    exact this _ (by simp)
  have x6 : ∀ W : World, W.heap[b]? = some (.cells arr1 e1 (0, 0)) → (execOp ((a.put (some d4) u1).put (some d5) pt).eval o6).run P W = .ok .skip (W.setRow b arr2) := by
    intro W hW
    have ev5 : ((a.put (some d4) u1).put (some d5) pt).eval (.tmp d5) = .pointer (some ⟨b, l.length * sz, none⟩) := by rw [eveq _ _ _ hs5, hpt]
    simp [execOp, ho6, ev5, evne _ X _ _ hX5, evne _ X _ _ hX4, Instr.storeAt, Instr.sureAddr, storeVar, run_sizeOf' hT, hcs, r2 W hW]
  have hone : u1.oneCell' = true := by rw [hu1]; rfl
  have hcell : u1.cells = #[u1] := by rw [hu1]; rfl
  have hal : arrb.size = 1 := by simpa using q4.length
  have x7' : ∀ W : World, W.heap[bx]? = some (.cells arrb ty (0, 0)) → (storeCells ⟨bx, 0, none⟩ [u1]).run P W = .ok () (W.setRow bx (arrb.toList.take 0 ++ [u1] ++ arrb.toList.drop (0 + 1)).toArray) := by
    intro W hW
    have := run_storeCells_at (P := P) bx 0 ty [u1] 0 arrb W hW (by simp; omega) (by simpa using hone)
    simpa using this
  have x7 : ∀ (a' : Act) (W : World), a'.eval (.tmp p1) = .pointer (some ⟨bx, 0, none⟩) → a'.eval (.tmp d4) = u1 → W.heap[bx]? = some (.cells arrb ty (0, 0)) → (execOp a'.eval o7).run P W = .ok .skip (W.setRow bx (arrb.toList.take 0 ++ [u1] ++ arrb.toList.drop (0 + 1)).toArray) := by
    intro a' W e1 e2 hW
    have hc1 : u1.cells.size = 1 := by rw [hcell]; rfl
    have hc2 : u1.cells.toList = [u1] := by rw [hcell]
    have := x7' W hW
    simp [execOp, ho7, e1, e2, Instr.storeAt, Instr.sureAddr, storeVar, run_sizeOf' hT7, hc1, hc2, this] at this ⊢
  have evp1 : (a.put (some d4) u1).eval (.tmp p1) = .pointer (some ⟨bx, 0, none⟩) := by
    rw [evne _ (.tmp p1) _ _ (by simpa using hp4)]; exact hbx2
  have evp2 : ((a.put (some d4) u1).put (some d5) pt).eval (.tmp p1) = .pointer (some ⟨bx, 0, none⟩) := by
    rw [evne _ (.tmp p1) _ _ (by simpa using hp5)]; exact evp1
  have evd1 : (a.put (some d4) u1).eval (.tmp d4) = u1 := eveq _ _ _ hs4
  have evd2 : ((a.put (some d4) u1).put (some d5) pt).eval (.tmp d4) = u1 := by
    rw [evne _ (.tmp d4) _ _ (by simpa using hne)]; exact evd1
  -- the end
  have s3' : RepS G' (w1.setRow b arr2) (.own k (g + 1) sz (l ++ [x])) u1 := by rw [hu1]; exact s3
  have hfin0 : Rel G' (w1.setRow b arr2) (((S.next k).put (some d4) (.own k (g + 1) sz (l ++ [x]))).put (some d5) .junk) ((a.put (some d4) u1).put (some d5) pt) := (s2.put (some d4) s3').put (some d5) trivial
  have hx2 : (w1.setRow b arr2).heap[bx]? = some (.cells arrb ty (0, 0)) := by rw [setRow_other _ _ _ _ c1]; exact hheapx
  obtain ⟨w3, y1, y2, y3⟩ := hfin0.storeBox (b := bid) (ty := ty) (l := [s0]) (by simpa [St.put, St.next] using hbx) (by rw [s4]; exact hbx1) 0 (xs := [.own k (g + 1) sz (l ++ [x])]) (vs := [u1]) ⟨u1, [], rfl, s3', rfl⟩ (by simpa using hone) (by simp)
  have hw3 : w3 = (w1.setRow b arr2).setRow bx (arrb.toList.take 0 ++ [u1] ++ arrb.toList.drop (0 + 1)).toArray := by
    have := (y1 P).symm.trans (x7' _ hx2)
    simpa using this
  have fin : Q' .normal ((a.put (some d4) u1).put (some d5) pt) w3 := hq _ G' _ w3 (by simpa using h) (s1.trans y2) y3 (fun i _ => s4 i)
  have hcomm : ((w1.setRow bx (arrb.toList.take 0 ++ [u1] ++ arrb.toList.drop (0 + 1)).toArray).setRow b arr2) = w3 := by rw [hw3]; exact setRow_comm w1 c1 _ _
  have hb1 : (w1.setRow bx (arrb.toList.take 0 ++ [u1] ++ arrb.toList.drop (0 + 1)).toArray).heap[b]? = some (.cells arr1 e1 (0, 0)) := by rw [setRow_other _ _ _ _ (Ne.symm c1)]; exact r0
  refine any_one b1 (op_value hi4 hg4 x4 ?_)
  rw [hd4]
  refine any_two b2 (op_value hi5 hg5 (x5 w1) ?_) (op_skip hi7 hg7 hd7 (x7 _ w1 evp1 evd1 hheapx) ?_)
  · rw [hd5]
    refine any_two b3 (op_skip hi6 hg6 hd6 (x6 w1 r0) ?_) (op_skip hi7 hg7 hd7 (x7 _ w1 evp2 evd2 hheapx) ?_)
    · refine any_one b4 (op_skip hi7 hg7 hd7 (x7 _ _ evp2 evd2 hx2) ?_)
      rw [← hw3]
      exact ⟨b8, fin⟩
    · refine any_one b7 (op_skip hi6 hg6 hd6 (x6 _ hb1) ?_)
      rw [hcomm]
      exact ⟨b10, fin⟩
  · refine any_one b5 (op_value hi5 hg5 (x5 _) ?_)
    rw [hd5]
    refine any_one b6 (op_skip hi6 hg6 hd6 (x6 _ hb1) ?_)
    rw [hcomm]
    exact ⟨b9, fin⟩
end Go.Eng
namespace Go.Proofs.YtcdfhagcchmnhaaGreatDoor
open Go Go.Eng
theorem uni_strs (l : List ByteArray) : Uni 1 (l.map strAV) := by
  intro x hx
  obtain ⟨s, _, rfl⟩ := List.mem_map.1 hx
  exact ⟨rfl, rfl⟩
set_option maxRecDepth 100000 in
theorem clnS_to (l : List ByteArray) (h : l.length ≤ 1073741824) : CallTo Tryz.prog 51 [(jL (l.map strAV))] [] [] (jL (l.map strAV)) [] [] :=
  clone_to (t := 34) (e := 9) (sz := 1) (bt := 16) (z := .string ⟨#[]⟩) Tryz.func51 (Eq.refl Tryz.f51.body) (by kernel_rfl) (by kernel_rfl) (by kernel_rfl) ⟨rfl, rfl, rfl⟩ ⟨rfl, rfl, rfl⟩ ⟨rfl, rfl, rfl⟩ ⟨rfl, rfl, rfl⟩ ⟨rfl, rfl, rfl⟩ ⟨rfl, rfl, rfl⟩ ⟨rfl, rfl, rfl⟩ ⟨rfl, rfl, rfl⟩ (by kernel_rfl) (by kernel_rfl) (by kernel_rfl) (by decide) (l.map strAV) (uni_strs l) (by rw [List.length_map]; omega)
set_option maxRecDepth 100000 in
theorem clnC_to (l : List DCited) (h : l.length ≤ 1073741824) : CallTo Tryz.prog 52 [(jL (l.map aCited))] [] [] (jL (l.map aCited)) [] [] :=
  clone_to (t := 46) (e := 98) (sz := 4) (bt := 56) (z := .agg #[.string ⟨#[]⟩, .string ⟨#[]⟩, .string ⟨#[]⟩, .bool false]) Tryz.func52 (Eq.refl Tryz.f52.body) (by kernel_rfl) (by kernel_rfl) (by kernel_rfl) ⟨rfl, rfl, rfl⟩ ⟨rfl, rfl, rfl⟩ ⟨rfl, rfl, rfl⟩ ⟨rfl, rfl, rfl⟩ ⟨rfl, rfl, rfl⟩ ⟨rfl, rfl, rfl⟩ ⟨rfl, rfl, rfl⟩ ⟨rfl, rfl, rfl⟩ (by kernel_rfl) (by kernel_rfl) (by kernel_rfl) (by decide) (l.map aCited) (uni_aCited l) (by rw [List.length_map]; omega)
set_option maxRecDepth 100000 in
theorem clnP_to (l : List DPair) (h : l.length ≤ 1073741824) : CallTo Tryz.prog 74 [(jL (l.map aPair))] [] [] (jL (l.map aPair)) [] [] :=
  clone_to (t := 22) (e := 54) (sz := 2) (bt := 32) (z := .agg #[.string ⟨#[]⟩, .string ⟨#[]⟩]) Tryz.func74 (Eq.refl Tryz.f74.body) (by kernel_rfl) (by kernel_rfl) (by kernel_rfl) ⟨rfl, rfl, rfl⟩ ⟨rfl, rfl, rfl⟩ ⟨rfl, rfl, rfl⟩ ⟨rfl, rfl, rfl⟩ ⟨rfl, rfl, rfl⟩ ⟨rfl, rfl, rfl⟩ ⟨rfl, rfl, rfl⟩ ⟨rfl, rfl, rfl⟩ (by kernel_rfl) (by kernel_rfl) (by kernel_rfl) (by decide) (l.map aPair) (uni_aPair l) (by rw [List.length_map]; omega)
def cpyT (a : DAttr) : DAttr := a
set_option maxRecDepth 100000 in
set_option maxHeartbeats 4000000 in
theorem cpyT_to (a : DAttr) (ha : wAttr a ≤ 1073741824) : CallTo Tryz.prog 50 [(.av (cAttr a))] [] [] (.av (cAttr (cpyT a))) [] [] := by
  have hwa := wAttr_eq a
  simp only [wStr] at hwa
  have hw_0 := wl_len (w := wStr) wStr_pos a.fClasses
  have hw_1 := wl_len (w := wPair) wPair_pos a.fPairs
  refine BEG (fun r : DAttr => (.av (cAttr r))) (cpyT a) Tryz.func50 (by kernel_rfl) ?_
  refine UF (cpyT.eq_1 ..) ?_
  refine GO (tn 4 (kc (clnS_to a.fClasses (by first | assumption | omega | decide | (simp; done) | (simp; omega))) (tn 4 (kc (clnP_to a.fPairs (by first | assumption | omega | decide | (simp; done) | (simp; omega))) (tn 4 z))))) (by kernel_rfl) ?_
  exact EN (by kernel_rfl)
end Go.Proofs.YtcdfhagcchmnhaaGreatDoor
namespace Go.Eng
variable {P : Program}
theorem BEGb {α : Type} (enc : α → SV) (M : α) {f : FuncId} {fn : Func} {args : List SV} {bx bx' : List (Nat × ABox)} {gn gn' : List (Key × Nat)} (hf : P.funcs[f]? = some fn) (hok : (fn.body.isSome && !(fn.name == "runtime.NumGoroutine") && decide (args.length ≤ fn.ntmps)) = true)
    (hids : ∀ p ∈ bx, 1000 ≤ p.1) (hgk : ∀ p ∈ gn, 1000 ≤ p.1.1 ∧ 0 < p.1.2) (hargs : ∀ s ∈ args, OkSV (bx.map (·.1)) gn s) (hbx : ∀ p ∈ bx, ∀ s ∈ p.2.svs, OkSV (bx.map (·.1)) gn s)
    (hres : OkSV (bx.map (·.1)) gn' (enc M)) (hbx' : ∀ p ∈ bx', ∀ s ∈ p.2.svs, OkSV (bx.map (·.1)) gn' s) (hsame : bx'.map (·.1) = bx.map (·.1)) (hgn' : gn'.map (·.1) = gn.map (·.1))
    (h : Nx P (KE P fn enc bx' gn') M (start (bodyOf fn) ⟨args ++ List.replicate (fn.ntmps - args.length) .junk, bx, gn⟩)) : CallTo P f args bx gn (enc M) bx' gn' := by
  simp only [Bool.and_eq_true, decide_eq_true_eq, Bool.not_eq_true'] at hok
  obtain ⟨⟨h1, h2⟩, h3⟩ := hok
  obtain ⟨c, hb⟩ := Option.isSome_iff_exists.1 h1
  have e : bodyOf fn = c := by simp [bodyOf, hb]
  refine CallTo_of_body hf hb h2 rfl h3 hids hgk hargs hbx hres hbx' hsame hgn' ?_
  rw [← e]; exact h.x
theorem ENb {α : Type} {fn : Func} {enc : α → SV} {M : α} {X : Cf} {bx' : List (Nat × ABox)} {gn' : List (Key × Nat)} (h : endOf P fn X = some (enc M)) (h3 : ∀ p ∈ bx', (stOf X).bx.lookup p.1 = some p.2) (h4 : ∀ p ∈ gn', (stOf X).gen p.1 = p.2) : Nx P (KE P fn enc bx' gn') M X := by
  unfold endOf at h
  split at h
  · exact ⟨ends (.inl rfl) h rfl h3 h4⟩
  · exact ⟨ends (.inr rfl) h rfl h3 h4⟩
  · simp at h
def atC (X : Cf) : Code := match X with
  | some (_, _, .at c _ _) => c
  | _ => .skip
def isAt (X : Cf) : Bool := match X with
  | some (_, _, .at _ _ _) => true
  | _ => false
def contX (P : Program) (X : Cf) (S2 : St) (ors : List Oq) : Cf := match X with
  | some (_, _, .at _ ks _) => goK P ks (some ([], ors, .fin .normal S2))
  | _ => none
theorem W_weakQ {c : Code} {S S2 : St} (h : W P c (fun e S1 => e = .normal ∧ Weak S1 S2) S) : W P c (fun e S1 => e = .normal ∧ S1 = S2) S :=
  fun G w a hr => wp_mono (h G w a hr) (fun e a' w' ⟨S1, G', ⟨he, hw⟩, h2, h3, h4⟩ => ⟨S2, G', ⟨he, rfl⟩, h2, hw G' w' a' h3, h4⟩)
theorem W_code {c c' : Code} {Q : Exit → St → Prop} {S : St} (h : c = c') (hw : W P c' Q S) : W P c Q S := by rw [h]; exact hw
/-- A piece of code that is told by hand. -/
theorem NXW {α : Type} {K : α → Exit → St → Prop} {M : α} {X : Cf} (S2 : St) (oc : OC) (hX : isAt X = true) (hW : W P (atC X) (fun e S1 => e = .normal ∧ Weak S1 S2) (stOf X)) (h : csOf (contX P X S2 oc.o) = some oc.c) (hn : Nx P K M (contX P X S2 oc.o)) : Nx P K M X := by
  unfold isAt at hX
  split at hX
  · rename_i c0 o0 c ks S
    obtain ⟨hn⟩ := hn
    simp only [contX] at h hn
    cases hk : goK P ks (some ([], oc.o, .fin .normal S2)) with
    | none => rw [hk] at h; simp [csOf] at h
    | some r =>
      obtain ⟨c2, o2, out2⟩ := r
      rw [hk] at h hn
      unfold csOf at h
      split at h
      · rename_i e
        simp only [Option.some.injEq, Prod.mk.injEq] at e h
        obtain ⟨rfl, rfl, rfl⟩ := e
        subst h
        obtain ⟨q1, q2⟩ := goK_sound (K M) ks _ _ _ _ _ _ hk (oc.h trivial) hn
        refine ⟨?_⟩
        exact W_mono (W_weakQ hW) (fun e S1 ⟨he, hs⟩ => by subst he hs; exact q2)
      · simp at h
  · simp at hX
theorem st_load {o : Oper} {S : St} {t ty : TypeId} {x : Operand} {b k : Nat} {l : List SV} {s : SV} (ho : o.op = .load t x) (hx : S.ev x = .ptr b k) (ht : tAgg P t = some false) (hb : S.bx.lookup b = some (.cells ty l)) (hs : l[k]? = some s) : astep P o S = some ⟨True, s, S⟩ := by
  unfold astep
  rw [ho]
  simp only [aLoad, ht, hx, hb, hs, Option.map_some]
theorem st_load_agg {o : Oper} {S : St} {t ty : TypeId} {sz bt : Nat} {z : Option Value} {x : Operand} {b k : Nat} {l : List SV} {r : List AV} (ho : o.op = .load t x) (hx : S.ev x = .ptr b k) (ht : tAgg P t = some true) (hi : tInfo P t = some (sz, bt, z)) (hb : S.bx.lookup b = some (.cells ty l))
    (h1 : ((l.drop k).take sz).any SV.isTok = false) (h2 : SV.allAV ((l.drop k).take sz) = some r) (h3 : r.length = sz) : astep P o S = some ⟨True, .av (.agg r), S⟩ := by
  unfold astep
  rw [ho]
  simp only [aLoad, ht, hi, hx, hb, h1, h2, h3, if_true]
theorem st_len {o : Oper} {S : St} {t : TypeId} {x : Operand} {k : Key} {g sz : Nat} {l : List AV} (ho : o.op = .call { callee := .builtin .len, args := #[x], argTypes := #[t] }) (hx : S.ev x = .own k g sz l) (ht : tSlice P t = true) : astep P o S = some ⟨True, .av (.val (.int .i64 l.length)), S⟩ := by
  unfold astep
  rw [ho]
  simp only [aBuiltin, aLen, hx, SV.toAV, ht, if_true]
theorem st_build {o : Oper} {S : St} {t e : TypeId} {sz bt : Nat} {z c : Value} {x : AV} (ho : o.op = .buildSlice t 1 #[(0, .const c)]) (ht : tElem P t = some e) (hi : tInfo P e = some (sz, bt, some z)) (hc : (constSV c).toAV = some x) (hsz : sz ≤ 16777216) : astep P o S = some ⟨Uni sz [x], .av (.sl [x]), S⟩ := by
  unfold astep
  rw [ho]
  have h1 : (S.ev (.const c)).toAV = some x := hc
  simp only [aBuildSlice, ht, hi, List.map_cons, List.map_nil, allAVop, h1]
  rw [if_pos ⟨rfl, by omega⟩]
end Go.Eng
namespace Go.Proofs.YtcdfhagcchmnhaaGreatDoor
open Go Go.Eng
theorem dpIN_fuel : ∀ (n m : Nat) (l : List DInline), wl wInline l < n → wl wInline l < m → dpIN n l = dpIN m l
  | 0, m, l, h, _ => by omega
  | n + 1, 0, l, _, h => by omega
  | n + 1, m + 1, l, h1, h2 => by
    rw [dpIN, dpIN, dpIS_eq, dpIS_eq]
    refine flat_eq (fun x hx => ?_)
    have h3 := wl_mem (w := wInline) hx
    have h4 := wInline_eq x
    rw [dpIN_fuel n m x.fKids (by omega) (by omega)]
theorem dpI_eq (l : List DInline) : dpI l = l.flatMap (fun x => x :: dpI x.fKids) := by
  show dpIN (wl wInline l + 1) l = _
  rw [dpIN, dpIS_eq]
  refine flat_eq (fun x hx => ?_)
  have h3 := wl_mem (w := wInline) hx
  have h4 := wInline_eq x
  rw [dpI, dpIN_fuel (wl wInline l) (wl wInline x.fKids + 1) x.fKids (by omega) (by omega)]
theorem take_succ_el {α : Type} [Inhabited α] {l : List α} {i : Nat} (h : i < l.length) : l.take (i + 1) = l.take i ++ [el l i] := by
  rw [List.take_add_one, List.getElem?_eq_getElem h]
  simp [el, h]
theorem dpI_take {l : List DInline} {i : Nat} (h : i < l.length) : dpI (l.take (i + 1)) = dpI (l.take i) ++ (el l i :: dpI (el l i).fKids) := by
  rw [dpI_eq (l.take (i + 1)), take_succ_el h, List.flatMap_append, ← dpI_eq]
  simp
theorem dpI_len (l : List DInline) (h : wl wInline l ≤ 1073741824) : (dpI l).length ≤ wl wInline l := dpI_bd l h
def bxI (g : Nat) (xs : List DInline) : List (Nat × ABox) := [(1000, .cells 42 [.own (1002, 49) g 10 (xs.map aInline)]), (1001, .cells 93 [.fn 49 [] [.ptr 1000 0, .ptr 1001 0]])]
def regAt (id : Nat) : Code → Option (Array Oper)
  | .region i ops _ => if i = id then some ops else none
  | .seq x y => (regAt id x).orElse (fun _ => regAt id y)
  | .cond _ x y => (regAt id x).orElse (fun _ => regAt id y)
  | .block _ c => regAt id c
  | .loop c => regAt id c
  | _ => none
noncomputable def R7 : Array Oper := (regAt 7 (bodyOf Tryz.f49)).getD #[]
noncomputable def o7 (i : Nat) : Oper := R7.getD i (R7.getD 0 default)
def zI : AV := .agg [vI 0, vS ⟨#[]⟩, vS ⟨#[]⟩, vS ⟨#[]⟩, vS ⟨#[]⟩, .sl [], .sl [], .sl [], .sl [], .sl []]
def c7 (x : DInline) : List SV := (cInline x).cells.map SV.av
def S7 (l : List DInline) (v8 : Nat) (q : Nat) (ys : List DInline) : St :=
  sx 41 [(0, (jL (l.map aInline))), (1, (.ptr 1000 0)), (2, (.ptr 1001 0)), (4, (jI (((v8 : Nat) : Int)))), (5, (.ptr 5 0)), (7, (jI (((lenM aInline l : Nat) : Int)))), (8, (jI (((v8 : Nat) : Int))))] ((5, .cells 48 (c7 (el l v8))) :: bxI q ys) [((1002, 49), q)]
def v7 (l : List DInline) (v8 : Nat) (q : Nat) (ys : List DInline) (i : Nat) : SV := match i with
  | 0 => .own (1002, 49) q 10 (ys.map aInline)
  | 1 => .av (cInline (el l v8))
  | 2 => .av (.val (.int .i64 (ys.map aInline).length))
  | _ => .av (.sl [zI])
theorem und41 : tElem Tryz.prog 42 = some 48 := by kernel_rfl
theorem inf50 : tInfo Tryz.prog 48 = some (10, 192, some (.agg #[.int .i64 0, .string ⟨#[]⟩, .string ⟨#[]⟩, .string ⟨#[]⟩, .string ⟨#[]⟩, .slice none 0 0, .slice none 0 0, .slice none 0 0, .slice none 0 0, .slice none 0 0])) := by kernel_rfl
set_option maxRecDepth 100000 in
set_option maxHeartbeats 4000000 in
theorem r7 (l : List DInline) (v8 : Nat) (q : Nat) (ys : List DInline) (hy : ys.length ≤ 4294967296) :
    W Tryz.prog (.region 7 R7 true) (fun e S1 => e = .normal ∧ Weak S1 (sx 41 [(0, (jL (l.map aInline))), (1, (.ptr 1000 0)), (2, (.ptr 1001 0)), (4, (jI (((v8 : Nat) : Int)))), (7, (jI (((lenM aInline l : Nat) : Int)))), (8, (jI (((v8 : Nat) : Int))))] (bxI (q + 1) (ys ++ [el l v8])) [((1002, 49), q + 1)])) (S7 l v8 q ys) := by
  have hl4 : (S7 l v8 q ys).fr.length = 41 := by kernel_rfl
  refine W_head (Sc := ((((S7 l v8 q ys).put (some 27) (v7 l v8 q ys 0)).put (some 28) (v7 l v8 q ys 1)).put (some 29) (v7 l v8 q ys 2)).put (some 30) (v7 l v8 q ys 3)) (by kernel_rfl) 4 (v7 l v8 q ys) (fun i => 27 + i) (by kernel_rfl) ?_ (fun i j _ _ h => by omega) (fun i hi => by rw [hl4]; omega) ?_ rfl rfl ?_ ?_ ?_
  · intro i hi
    match i, hi with
    | 0, _ => exact ⟨o7 0, by kernel_rfl, by kernel_rfl, by kernel_rfl⟩
    | 1, _ => exact ⟨o7 1, by kernel_rfl, by kernel_rfl, by kernel_rfl⟩
    | 2, _ => exact ⟨o7 2, by kernel_rfl, by kernel_rfl, by kernel_rfl⟩
    | 3, _ => exact ⟨o7 3, by kernel_rfl, by kernel_rfl, by kernel_rfl⟩
    | i + 4, h => exact absurd h (by omega)
  · intro i hi o ho S' hb hg hlen hdep hoth
    have hget : ∀ (t : Nat) (s : SV), (∀ j, j < 4 → t ≠ 27 + j) → (S7 l v8 q ys).fr[t]? = some s → S'.ev (.tmp t) = s := by
      intro t s h1 h2
      have := hoth t h1
      simp only [St.ev, List.getD_eq_getElem?_getD, this, h2, Option.getD_some]
    have e1 : S'.ev (.tmp 1) = .ptr 1000 0 := hget 1 _ (fun j _ => by omega) (by kernel_rfl)
    have e5 : S'.ev (.tmp 5) = .ptr 5 0 := hget 5 _ (fun j _ => by omega) (by kernel_rfl)
    have b1 : S'.bx.lookup 1000 = some (.cells 42 [.own (1002, 49) q 10 (ys.map aInline)]) := by rw [hb]; kernel_rfl
    have b5 : S'.bx.lookup 5 = some (.cells 48 (c7 (el l v8))) := by rw [hb]; kernel_rfl
    match i, hi with
    | 0, _ =>
      obtain rfl : o7 0 = o := Option.some.inj ((show R7[0]? = some (o7 0) by kernel_rfl).symm.trans ho)
      exact ⟨True, trivial, st_load (t := 42) (x := .tmp 1) (by kernel_rfl) e1 (by kernel_rfl) b1 rfl⟩
    | 1, _ =>
      obtain rfl : o7 1 = o := Option.some.inj ((show R7[1]? = some (o7 1) by kernel_rfl).symm.trans ho)
      exact ⟨True, trivial, st_load_agg (t := 48) (x := .tmp 5) (by kernel_rfl) e5 (by kernel_rfl) inf50 b5 (by kernel_rfl) (by kernel_rfl) (by kernel_rfl)⟩
    | 2, _ =>
      obtain rfl : o7 2 = o := Option.some.inj ((show R7[2]? = some (o7 2) by kernel_rfl).symm.trans ho)
      have e27 : S'.ev (.tmp 27) = .own (1002, 49) q 10 (ys.map aInline) := by
        have this : S'.fr[27]? = some (.own (1002, 49) q 10 (ys.map aInline)) := hdep ⟨0, .data⟩ (by show _ ∈ (o7 2).after; rw [show (o7 2).after = #[⟨0, .data⟩] by kernel_rfl]; simp) rfl (by decide)
        simp only [St.ev, List.getD_eq_getElem?_getD, this, Option.getD_some]
      exact ⟨True, trivial, st_len (t := 42) (x := .tmp 27) (by kernel_rfl) e27 (by kernel_rfl)⟩
    | 3, _ =>
      obtain rfl : o7 3 = o := Option.some.inj ((show R7[3]? = some (o7 3) by kernel_rfl).symm.trans ho)
      exact ⟨Uni 10 [zI], uni_one rfl rfl, st_build (t := 42) (c := .agg #[.int .i64 0, .string ⟨#[]⟩, .string ⟨#[]⟩, .string ⟨#[]⟩, .string ⟨#[]⟩, .slice none 0 0, .slice none 0 0, .slice none 0 0, .slice none 0 0, .slice none 0 0]) (by kernel_rfl) und41 inf50 (by kernel_rfl) (by decide)⟩
    | i + 4, h => exact absurd h (by omega)
  · intro j hj
    match j, hj with
    | 0, _ => rfl
    | 1, _ => rfl
    | 2, _ => rfl
    | 3, _ => rfl
    | j + 4, h => exact absurd h (by omega)
  · intro t ht
    simp only [St.put, List.getElem?_set]
    rw [if_neg (fun e => ht 3 (by omega) e.symm), if_neg (fun e => ht 2 (by omega) e.symm), if_neg (fun e => ht 1 (by omega) e.symm), if_neg (fun e => ht 0 (by omega) e.symm)]
  · refine WA_push (n := 4) (o4 := o7 4) (o5 := o7 5) (o6 := o7 6) (o7 := o7 7) (t := 42) (e := 48) (T := 48) (T7 := 42) (ty := 42) (sz := 10) (k := (1002, 49)) (g := q) (d4 := 31) (d5 := 32) (p1 := 1) (bid := 1000) (s0 := .own (1002, 49) q 10 (ys.map aInline)) (bt7 := 24) (z7 := some (.slice none 0 0)) (l := ys.map aInline) (x0 := zI) (x := cInline (el l v8)) (A := .tmp 27) (B := .tmp 30) (C := .tmp 29) (X := .tmp 28)
      (by kernel_rfl) (by kernel_rfl) (by kernel_rfl) (by kernel_rfl) (by kernel_rfl) (by kernel_rfl) (by kernel_rfl) (by kernel_rfl) (by kernel_rfl) (by kernel_rfl) (by kernel_rfl) (by kernel_rfl) (by kernel_rfl) (by kernel_rfl) (by kernel_rfl) (by kernel_rfl) (by kernel_rfl)
      (by kernel_rfl) (by kernel_rfl) (by kernel_rfl) (by kernel_rfl) (by kernel_rfl) (by kernel_rfl) (by intro h; cases h) (by intro h; cases h) (by intro h; cases h) (by decide) (by decide) (by decide) (of_decide_eq_true (by kernel_rfl)) (of_decide_eq_true (by kernel_rfl))
      und41 (by kernel_rfl) inf50 inf50 (by kernel_rfl) (by kernel_rfl) (by decide) rfl (by kernel_rfl) (uni_one rfl rfl) (uni_one rfl rfl) (by rw [List.length_map]; omega) ?_
    refine ⟨rfl, ?_⟩
    have e := ap1_aInline ys (el l v8)
    rw [e]
    exact WK (by kernel_rfl)
set_option maxRecDepth 100000 in
set_option maxHeartbeats 4000000 in
theorem inl_st (l : List DInline) (hl : wl wInline l ≤ 1073741824) (g : Nat) (xs : List DInline) (hx : xs.length + wl wInline l ≤ 4294967296)
    (hrec : ∀ l' : List DInline, wl wInline l' < wl wInline l → wl wInline l' ≤ 1073741824 → ∀ (g : Nat) (xs : List DInline), xs.length + wl wInline l' ≤ 4294967296 →
      CallTo Tryz.prog 49 [jL (l'.map aInline), .ptr 1000 0, .ptr 1001 0] (bxI g xs) [((1002, 49), g)] undefS (bxI (g + (dpI l').length) (xs ++ dpI l')) [((1002, 49), g + (dpI l').length)]) :
    CallTo Tryz.prog 49 [jL (l.map aInline), .ptr 1000 0, .ptr 1001 0] (bxI g xs) [((1002, 49), g)] undefS (bxI (g + (dpI l).length) (xs ++ dpI l)) [((1002, 49), g + (dpI l).length)] := by
  have hwl := wl_len (w := wInline) wInline_pos l
  refine BEGb (fun _ : Unit => undefS) () Tryz.func49 (by kernel_rfl) (by simp [bxI]) (by simp) (by simp [OkSV, SV.keys, bxI]) (by simp [OkSV, SV.keys, PV.keys, bxI, ABox.svs, List.lookup]; omega) (by simp [OkSV, SV.keys, undefS]) (by simp [OkSV, SV.keys, PV.keys, bxI, ABox.svs, List.lookup]; omega) rfl rfl ?_
  refine GO (tn 3 z) (by kernel_rfl) ?_
  refine LP (fun N M S => ∃ v8 : Nat, ∃ q : Nat, ∃ ys : List DInline, (v8 ≤ l.length) ∧ (q = g + (dpI (l.take v8)).length) ∧ (ys = xs ++ dpI (l.take v8)) ∧ (List.length l - v8 < N) ∧ M = () ∧ S = (sx 41 [(0, (jL (l.map aInline))), (1, (.ptr 1000 0)), (2, (.ptr 1001 0)), (7, (jI (((lenM aInline l : Nat) : Int)))), (8, (jI (((v8 : Nat) : Int))))] (bxI q ys) [((1002, 49), q)])) (n := l.length + 1) (by kernel_rfl) ⟨0, g, xs, by omega, by simp [dpI_eq []], by simp [dpI_eq []], by omega, rfl, rfl⟩ (WK (by kernel_rfl)) ?_
  rintro n0 M S ⟨v8, q, ys, hi, hq, hys, hF0, rfl, rfl⟩
  obtain ⟨n0, rfl⟩ : ∃ k, n0 = k + 1 := ⟨n0 - 1, by omega⟩
  have hlm := lenM_eq aInline l
  refine GO (tn 1 z) (by kernel_rfl) ?_
  by_cases h1 : v8 < l.length
  · have hd : decide ((((v8 : Nat) : Int) : Int) < ((lenM aInline l : Nat) : Int)) = true := decide_eq_true (by omega)
    have hce := wl_el (w := wInline) (l := l) (i := v8) (by omega)
    have hcw := wInline_eq (el l v8)
    simp only [wStr, w1] at hcw
    have ha1 := wl_len (w := wStr) wStr_pos (el l v8).fArgs
    have htk := wl_take (w := wInline) (l := l) (i := v8) (by omega)
    have hdl := dpI_len (l.take v8) (by have := wl_take_le (w := wInline) l v8; omega)
    have hyl : ys.length = xs.length + (dpI (l.take v8)).length := by rw [hys, List.length_append]
    have ha2 := wl_len (w := wCited) wCited_pos (el l v8).fCites
    refine GO (kb hd (tn 4 (ke (el_aInline l v8 (by omega)) (tn 5 (kc (cpyT_to ((el l v8).fAttr) (by omega)) (tn 4 (kc (clnS_to ((el l v8).fArgs) (by omega)) (tn 4 (kc (clnC_to ((el l v8).fCites) (by omega)) (tn 2 z)))))))))) (by kernel_rfl) ?_
    obtain ⟨S2, hS2⟩ : ∃ S2 : St, S2 = (sx 41 [(0, (jL (l.map aInline))), (1, (.ptr 1000 0)), (2, (.ptr 1001 0)), (4, (jI (((v8 : Nat) : Int)))), (7, (jI (((lenM aInline l : Nat) : Int)))), (8, (jI (((v8 : Nat) : Int))))] (bxI (q + 1) (ys ++ [el l v8])) [((1002, 49), q + 1)]) := ⟨_, rfl⟩
    refine NXW S2 z (by kernel_rfl) ?_ (by rw [hS2]; kernel_rfl) ?_
    · rw [hS2]
      refine W_weak (S' := S7 l v8 q ys) (WK (by kernel_rfl)) ?_
      exact W_code (c' := .region 7 R7 true) (by kernel_rfl) (r7 l v8 q ys (by omega))
    · rw [hS2]
      have hc := hrec (el l v8).fKids (by omega) (by omega) (q + 1) (ys ++ [el l v8]) (by rw [List.length_append, List.length_singleton]; omega)
      have hwr := wrE ((((v8 : Nat) : Int)) + 1) (((v8 + 1 : Nat) : Int)) (by omega)
      refine DR3 (tn 3 (ko (eO (el_aInline l v8 (by omega))) (kp (el_aInline l v8 (by omega)) (tn 2 (ko (cO hc) (kp hc (kp (show q + 1 = q + 1 ∧ True from ⟨rfl, trivial⟩) (ko (nO hwr) (kp hwr (tn 1 z)))))))))) (by kernel_rfl) (by kernel_rfl) (by kernel_rfl) ?_
      have hq2 : q + 1 + (dpI (el l v8).fKids).length = g + (dpI (l.take (v8 + 1))).length := by rw [dpI_take h1, List.length_append, List.length_cons, hq]; omega
      have hy2 : ys ++ [el l v8] ++ dpI (el l v8).fKids = xs ++ dpI (l.take (v8 + 1)) := by rw [dpI_take h1, hys]; simp
      exact AG (m := n0) ⟨v8 + 1, q + 1 + (dpI (el l v8).fKids).length, ys ++ [el l v8] ++ dpI (el l v8).fKids, by omega, hq2, hy2, by omega, rfl, rfl⟩ (WK (by kernel_rfl)) (by kernel_rfl) (Nat.lt_succ_self _)
  · have hd : decide ((((v8 : Nat) : Int) : Int) < ((lenM aInline l : Nat) : Int)) = false := decide_eq_false (by omega)
    have hv : v8 = l.length := by omega
    subst hv
    rw [List.take_length] at hq hys
    subst hq hys
    refine GO (kb hd z) (by kernel_rfl) ?_
    refine OUT z (by kernel_rfl) ?_
    exact ENb (by kernel_rfl) (by intro p hp; simp only [bxI, List.mem_cons, List.not_mem_nil, or_false] at hp; rcases hp with rfl | rfl <;> rfl) (by intro p hp; simp only [List.mem_cons, List.not_mem_nil, or_false] at hp; subst hp; rfl)
end Go.Proofs.YtcdfhagcchmnhaaGreatDoor
namespace Go.Eng
def reSt (X : Cf) (S' : St) : Cf := match X with
  | some (c, o, .at d ks _) => some (c, o, .at d ks S')
  | _ => none
theorem GHOST {P : Program} {α : Type} {K : α → Exit → St → Prop} {M : α} {X : Cf} {S' : St} (hg : Ghost (stOf X) S') (hn : Nx P K M (reSt X S')) : Nx P K M X := by
  obtain ⟨hn⟩ := hn
  unfold reSt at hn
  split at hn
  · rename_i c o d ks S
    exact ⟨W_ghost hg hn⟩
  · exact hn.elim
end Go.Eng
namespace Go.Proofs.YtcdfhagcchmnhaaGreatDoor
open Go Go.Eng
theorem inl_n : ∀ (n : Nat) (l : List DInline), wl wInline l < n → wl wInline l ≤ 1073741824 → ∀ (g : Nat) (xs : List DInline), xs.length + wl wInline l ≤ 4294967296 →
    CallTo Tryz.prog 49 [jL (l.map aInline), .ptr 1000 0, .ptr 1001 0] (bxI g xs) [((1002, 49), g)] undefS (bxI (g + (dpI l).length) (xs ++ dpI l)) [((1002, 49), g + (dpI l).length)]
  | 0, l, h, _, _, _, _ => by omega
  | n + 1, l, h, hl, g, xs, hx => inl_st l hl g xs hx (fun l' h1 h2 g' xs' h3 => inl_n n l' (by omega) h2 g' xs' h3)
theorem inl_to (l : List DInline) (hl : wl wInline l ≤ 1073741824) (g : Nat) (xs : List DInline) (hx : xs.length + wl wInline l ≤ 4294967296) :
    CallTo Tryz.prog 49 [jL (l.map aInline), .ptr 1000 0, .ptr 1001 0] (bxI g xs) [((1002, 49), g)] undefS (bxI (g + (dpI l).length) (xs ++ dpI l)) [((1002, 49), g + (dpI l).length)] := inl_n _ l (Nat.lt_succ_self _) hl g xs hx
theorem lsBN_fuel : ∀ (n m : Nat) (l : List DBlock), wl wBlock l < n → wl wBlock l < m → lsBN n l = lsBN m l
  | 0, m, l, h, _ => by omega
  | n + 1, 0, l, _, h => by omega
  | n + 1, m + 1, l, h1, h2 => by
    rw [lsBN, lsBN, lsBS_eq, lsBS_eq]
    refine flat_eq (fun x hx => ?_)
    have h3 := wl_mem (w := wBlock) hx
    have h4 := wBlock_eq x
    rw [lsBN_fuel n m x.fKids (by omega) (by omega)]
theorem lsB_eq (l : List DBlock) : lsB l = l.flatMap (fun x => x :: lsB x.fKids) := by
  show lsBN (wl wBlock l + 1) l = _
  rw [lsBN, lsBS_eq]
  refine flat_eq (fun x hx => ?_)
  have h3 := wl_mem (w := wBlock) hx
  have h4 := wBlock_eq x
  rw [lsB, lsBN_fuel (wl wBlock l) (wl wBlock x.fKids + 1) x.fKids (by omega) (by omega)]
theorem ilsB_flat (l : List DBlock) : ilsB l = l.flatMap (fun x => dpI x.fLine ++ ilsB x.fKids) := by
  rw [ilsB_eq, lsB_eq, List.flatMap_assoc]
  refine flat_eq (fun x _ => ?_)
  rw [List.flatMap_cons, ilsB_eq]
theorem ilsB_take {l : List DBlock} {i : Nat} (h : i < l.length) : ilsB (l.take (i + 1)) = ilsB (l.take i) ++ (dpI (el l i).fLine ++ ilsB (el l i).fKids) := by
  rw [ilsB_flat (l.take (i + 1)), take_succ_el h, List.flatMap_append, ← ilsB_flat]
  simp
def bxB (g : Nat) (xs : List DInline) : List (Nat × ABox) := [(1000, .cells 42 [.own (1002, 49) g 10 (xs.map aInline)]), (1001, .cells 93 [.fn 49 [] [.ptr 1000 0, .ptr 1001 0]]), (1003, .cells 99 [.fn 53 [] [.ptr 1001 0, .ptr 1003 0]])]
set_option maxRecDepth 100000 in
set_option maxHeartbeats 4000000 in
theorem inb_st (l : List DBlock) (hl : wl wBlock l ≤ 1073741824) (g : Nat) (xs : List DInline) (hx : xs.length + wl wBlock l ≤ 4294967296)
    (hrec : ∀ l' : List DBlock, wl wBlock l' < wl wBlock l → wl wBlock l' ≤ 1073741824 → ∀ (g : Nat) (xs : List DInline), xs.length + wl wBlock l' ≤ 4294967296 →
      CallTo Tryz.prog 53 [jL (l'.map aBlock), .ptr 1001 0, .ptr 1003 0] (bxB g xs) [((1002, 49), g)] undefS (bxB (g + (ilsB l').length) (xs ++ ilsB l')) [((1002, 49), g + (ilsB l').length)]) :
    CallTo Tryz.prog 53 [jL (l.map aBlock), .ptr 1001 0, .ptr 1003 0] (bxB g xs) [((1002, 49), g)] undefS (bxB (g + (ilsB l).length) (xs ++ ilsB l)) [((1002, 49), g + (ilsB l).length)] := by
  have hwl := wl_len (w := wBlock) wBlock_pos l
  refine BEGb (fun _ : Unit => undefS) () Tryz.func53 (by kernel_rfl) (by simp [bxB]) (by simp) (by simp [OkSV, SV.keys, bxB]) (by simp [OkSV, SV.keys, PV.keys, bxB, ABox.svs, List.lookup]; first | omega | (constructor <;> intros <;> omega)) (by simp [OkSV, SV.keys, undefS]) (by simp [OkSV, SV.keys, PV.keys, bxB, ABox.svs, List.lookup]; first | omega | (constructor <;> intros <;> omega)) rfl rfl ?_
  refine GO (tn 3 z) (by kernel_rfl) ?_
  refine LP (fun N M S => ∃ v7 : Nat, ∃ q : Nat, ∃ ys : List DInline, (v7 ≤ l.length) ∧ (q = g + (ilsB (l.take v7)).length) ∧ (ys = xs ++ ilsB (l.take v7)) ∧ (List.length l - v7 < N) ∧ M = () ∧ S = (sx 25 [(0, (jL (l.map aBlock))), (1, (.ptr 1001 0)), (2, (.ptr 1003 0)), (6, (jI (((lenM aBlock l : Nat) : Int)))), (7, (jI (((v7 : Nat) : Int))))] (bxB q ys) [((1002, 49), q)])) (n := l.length + 1) (by kernel_rfl) ⟨0, g, xs, by omega, by simp [ilsB_flat []], by simp [ilsB_flat []], by omega, rfl, rfl⟩ (WK (by kernel_rfl)) ?_
  rintro n0 M S ⟨v7, q, ys, hi, hq, hys, hF0, rfl, rfl⟩
  obtain ⟨n0, rfl⟩ : ∃ k, n0 = k + 1 := ⟨n0 - 1, by omega⟩
  have hlm := lenM_eq aBlock l
  refine GO (tn 1 z) (by kernel_rfl) ?_
  by_cases h1 : v7 < l.length
  · have hd : decide ((((v7 : Nat) : Int) : Int) < ((lenM aBlock l : Nat) : Int)) = true := decide_eq_true (by omega)
    have hce := wl_el (w := wBlock) (l := l) (i := v7) (by omega)
    have hcw := wBlock_eq (el l v7)
    simp only [wStr, w1] at hcw
    have htk := wl_take (w := wBlock) (l := l) (i := v7) (by omega)
    have hdl := ilsB_len (l.take v7) (by have := wl_take_le (w := wBlock) l v7; omega)
    have hyl : ys.length = xs.length + (ilsB (l.take v7)).length := by rw [hys, List.length_append]
    have hdp := dpI_len (el l v7).fLine (by omega)
    have hc1 := inl_to (el l v7).fLine (by omega) q ys (by omega)
    have hc2 := hrec (el l v7).fKids (by omega) (by omega) (q + (dpI (el l v7).fLine).length) (ys ++ dpI (el l v7).fLine) (by rw [List.length_append]; omega)
    refine GO (kb hd (tn 2 z)) (by kernel_rfl) ?_
    refine DR3 (tn 3 (ko (eO (el_aBlock l v7 (by omega))) (kp (el_aBlock l v7 (by omega)) (tn 2 (ko (cO hc1) (kp hc1 (kp (show q = q ∧ True from ⟨rfl, trivial⟩) z))))))) (by kernel_rfl) (by kernel_rfl) (by kernel_rfl) ?_
    have hwr := wrE ((((v7 : Nat) : Int)) + 1) (((v7 + 1 : Nat) : Int)) (by omega)
    refine DR3 (tn 3 (ko (eO (el_aBlock l v7 (by omega))) (kp (el_aBlock l v7 (by omega)) (tn 2 (ko (cO hc2) (kp hc2 (kp (show q + (dpI (el l v7).fLine).length = q + (dpI (el l v7).fLine).length ∧ True from ⟨rfl, trivial⟩) (ko (nO hwr) (kp hwr (tn 1 z)))))))))) (by kernel_rfl) (by kernel_rfl) (by kernel_rfl) ?_
    have hq2 : q + (dpI (el l v7).fLine).length + (ilsB (el l v7).fKids).length = g + (ilsB (l.take (v7 + 1))).length := by rw [ilsB_take h1, List.length_append, List.length_append, hq]; omega
    have hy2 : ys ++ dpI (el l v7).fLine ++ ilsB (el l v7).fKids = xs ++ ilsB (l.take (v7 + 1)) := by rw [ilsB_take h1, hys]; simp
    exact AG (m := n0) ⟨v7 + 1, q + (dpI (el l v7).fLine).length + (ilsB (el l v7).fKids).length, ys ++ dpI (el l v7).fLine ++ ilsB (el l v7).fKids, by omega, hq2, hy2, by omega, rfl, rfl⟩ (WK (by kernel_rfl)) (by kernel_rfl) (Nat.lt_succ_self _)
  · have hd : decide ((((v7 : Nat) : Int) : Int) < ((lenM aBlock l : Nat) : Int)) = false := decide_eq_false (by omega)
    have hv : v7 = l.length := by omega
    subst hv
    rw [List.take_length] at hq hys
    subst hq hys
    refine GO (kb hd z) (by kernel_rfl) ?_
    refine OUT z (by kernel_rfl) ?_
    exact ENb (by kernel_rfl) (by intro p hp; simp only [bxB, List.mem_cons, List.not_mem_nil, or_false] at hp; rcases hp with rfl | rfl | rfl <;> rfl) (by intro p hp; simp only [List.mem_cons, List.not_mem_nil, or_false] at hp; subst hp; rfl)
theorem inb_n : ∀ (n : Nat) (l : List DBlock), wl wBlock l < n → wl wBlock l ≤ 1073741824 → ∀ (g : Nat) (xs : List DInline), xs.length + wl wBlock l ≤ 4294967296 →
    CallTo Tryz.prog 53 [jL (l.map aBlock), .ptr 1001 0, .ptr 1003 0] (bxB g xs) [((1002, 49), g)] undefS (bxB (g + (ilsB l).length) (xs ++ ilsB l)) [((1002, 49), g + (ilsB l).length)]
  | 0, l, h, _, _, _, _ => by omega
  | n + 1, l, h, hl, g, xs, hx => inb_st l hl g xs hx (fun l' h1 h2 g' xs' h3 => inb_n n l' (by omega) h2 g' xs' h3)
theorem ghost_weak {S S' : St} (h : Weak S S') : Ghost S S' := fun G w a hr => ⟨G, Step.refl G w, h G w a hr, fun _ _ => rfl⟩
theorem castp {p q : Prop} (h : p = q) (x : p) : q := h ▸ x
def sI (κ : Key) : Key := if κ = (1000, 0) then (3, 0) else if κ = (3, 0) then (1000, 0) else if κ = (1001, 0) then (4, 0) else if κ = (4, 0) then (1001, 0) else if κ = (1003, 0) then (5, 0) else if κ = (5, 0) then (1003, 0) else if κ = (1002, 49) then (3, 49) else if κ = (3, 49) then (1002, 49) else κ
theorem sI_inv : Inv sI := by
  refine ⟨fun κ => ?_, fun κ => ?_⟩
  · unfold sI
    by_cases h1 : κ = (1000, 0)
    · subst h1; decide
    by_cases h2 : κ = (3, 0)
    · subst h2; decide
    by_cases h3 : κ = (1001, 0)
    · subst h3; decide
    by_cases h4 : κ = (4, 0)
    · subst h4; decide
    by_cases h5 : κ = (1003, 0)
    · subst h5; decide
    by_cases h6 : κ = (5, 0)
    · subst h6; decide
    by_cases h7 : κ = (1002, 49)
    · subst h7; decide
    by_cases h8 : κ = (3, 49)
    · subst h8; decide
    simp only [h1, h2, h3, h4, h5, h6, h7, h8, if_false]
  · unfold sI
    repeat' split
    all_goals first | rfl | (rename_i h; rw [h]) | (subst_vars; rfl)
def bx3 (g : Nat) (xs : List DInline) : List (Nat × ABox) := [(3, .cells 42 [.own (3, 49) g 10 (xs.map aInline)]), (4, .cells 93 [.fn 49 [] [.ptr 3 0, .ptr 4 0]]), (5, .cells 99 [.fn 53 [] [.ptr 4 0, .ptr 5 0]])]
def bxN : List (Nat × ABox) := [(3, .cells 42 [.nil]), (4, .cells 93 [.fn 49 [] [.ptr 3 0, .ptr 4 0]]), (5, .cells 99 [.fn 53 [] [.ptr 4 0, .ptr 5 0]])]
theorem WkS_refl (S : St) (s : SV) : WkS S s s := by
  cases s with
  | ag l => exact WkCs_refl S l
  | _ => simp [WkS]
theorem WkL_refl (S : St) : ∀ l : List SV, WkL S l l
  | [] => trivial
  | s :: l => ⟨WkS_refl S s, WkL_refl S l⟩
theorem weak_N (n : Nat) (sl : List (Nat × SV)) : Weak (sx n sl bxN []) (sx n sl (bx3 0 []) [((3, 49), 0)]) :=
  weak_of (WkL_refl _ _) ⟨⟨rfl, ⟨rfl, Nat.succ_pos _, rfl⟩, trivial⟩, ⟨rfl, WkL_refl _ _⟩, ⟨rfl, WkL_refl _ _⟩, trivial⟩ ⟨rfl, trivial⟩
set_option maxRecDepth 100000 in
set_option maxHeartbeats 4000000 in
theorem ilsT_to (l : List DBlock) (hl : wl wBlock l ≤ 1073741824) : CallTo Tryz.prog 24 [(jL (l.map aBlock))] [] [] (jL ((ilsB l).map aInline)) [] [] := by
  have hc0 := CallTo_ren sI_inv (inb_n _ l (Nat.lt_succ_self _) hl 0 [] (by simp; omega))
  have hc : CallTo Tryz.prog 53 [jL (l.map aBlock), .ptr 4 0, .ptr 5 0] (bx3 0 []) [((3, 49), 0)] undefS (bx3 (0 + (ilsB l).length) ([] ++ ilsB l)) [((3, 49), 0 + (ilsB l).length)] := castp (by kernel_rfl) hc0
  refine BEG (fun r : List DInline => (jL (r.map aInline))) (ilsB l) Tryz.func24 (by kernel_rfl) ?_
  refine GO (tn 8 (kq 6 z)) (by kernel_rfl) ?_
  refine GHOST (S' := sx 12 [(0, (jL (l.map aBlock))), (3, .ptr 3 0), (4, .ptr 4 0), (5, .ptr 5 0)] (bx3 0 []) [((3, 49), 0)]) (ghost_weak (wtr (WK (bx := bxN) (gn := []) (by kernel_rfl)) (weak_N _ _))) ?_
  refine GO (tn 2 (kg hc (show (0 : Nat) = 0 ∧ True from ⟨rfl, trivial⟩) (tn 2 z))) (by kernel_rfl) ?_
  refine ENw (r := jL (([] ++ ilsB l).map aInline)) rfl (by kernel_rfl)
end Go.Proofs.YtcdfhagcchmnhaaGreatDoor
namespace Go.Proofs.YtcdfhagcchmnhaaGreatDoor
open Go Go.Eng
abbrev tv : AV := .val (.bool true)
def tvs (ks : List ByteArray) : List AV := ks.map (fun _ => AV.val (.bool true))
theorem eqs_beq (s k : ByteArray) : (s == k) = eqs k s := by
  rw [Bool.eq_iff_iff, bytes_eq]
  unfold eqs
  rw [beq_iff_eq]
  constructor
  · intro h; rw [h]
  · intro h
    obtain ⟨⟨s⟩⟩ := s
    obtain ⟨⟨k⟩⟩ := k
    simp only at h; rw [h]
theorem kpos_has (s : ByteArray) : ∀ ks : List ByteArray, (kpos ks s).isSome = hasR ks s
  | [] => rfl
  | k :: ks => by
    have h := kpos_has s ks
    rw [hasR_any] at h ⊢
    rw [kpos, List.any_cons, ← h, eqs_beq]
    cases eqs k s with
    | true => rfl
    | false => simp
theorem look_has (ks : List ByteArray) (s : ByteArray) : mgetT false (.val (.bool false)) ks (tvs ks) s = .val (.bool (hasR ks s)) := by
  simp only [mgetT, Bool.false_eq_true, if_false, mget]
  rw [← kpos_has]
  cases h : kpos ks s with
  | none => rfl
  | some j =>
    have h1 := kpos_get h
    have h2 : j < ks.length := by
      rcases Nat.lt_or_ge j ks.length with h3 | h3
      · exact h3
      · rw [List.getElem?_eq_none h3] at h1; cases h1
    simp [tvs, h2]
theorem put_new {ks : List ByteArray} {s : ByteArray} (h : hasR ks s = false) : mputK ks s = ks ++ [s] ∧ mputV ks (tvs ks) s tv = tvs (ks ++ [s]) := by
  rw [← kpos_has] at h
  unfold mputK mputV
  cases h1 : kpos ks s with
  | none => simp [tvs]
  | some j => rw [h1] at h; cases h
theorem weak_map {n : Nat} {sl : List (Nat × SV)} {gn : List (Key × Nat)} {b : Nat} {k k' : List ByteArray} {v v' : List AV} {r : List (Nat × ABox)} (h1 : k = k') (h2 : v = v') : Weak (sx n sl ((b, .map k v) :: r) gn) (sx n sl ((b, .map k' v') :: r) gn) := by subst h1 h2; exact fun _ _ _ h => h
set_option maxRecDepth 100000 in
set_option maxHeartbeats 4000000 in
theorem uses_to (l : List DBlock) (hw : wl wBlock l ≤ 1073741824) : CallTo Tryz.prog 11 [(jL (l.map aBlock))] [] [] (jL ((useR l).map strAV)) [] [] := by
  have hil := ilsB_len l (by omega)
  refine BEG (fun r : List ByteArray => (jL (r.map strAV))) (useR l) Tryz.func11 (by kernel_rfl) ?_
  refine UF (useR.eq_1 ..) ?_
  refine GO (tn 5 (kc (ilsT_to l (by omega)) (tn 2 z))) (by kernel_rfl) ?_
  refine LP (fun N M S => ∃ gv3 : Nat, ∃ v3 : List ByteArray, ∃ v9 : Nat, (v3.length ≤ v9) ∧ (List.length (ilsB l) - v9 < N) ∧ M = useR_L0 l N v3 v9 ∧ S = (sx 35 [(3, (.own (203, 10) (gv3) 1 (v3.map strAV))), (4, .mp 7), (9, (jL ((ilsB l).map aInline))), (10, (jI (((lenM aInline (ilsB l) : Nat) : Int)))), (11, (jI (((v9 : Nat) : Int))))] [(7, .map v3 (tvs v3))] [((203, 10), gv3)])) (by kernel_rfl) ⟨0, _, _, by simp, by omega, rfl, rfl⟩ (WKf [(3, (.own (203, 10) ((0)) 1 (([]).map strAV)))] (ac (show ((([]).map strAV) : List AV) = [] ∧ 0 < 10 ∧ ((0) : Nat) = (0) from ⟨rfl, by decide, rfl⟩) an) (by kernel_rfl)) ?_
  rintro n0 M S ⟨gv3, v3, v9, hv, hF0, rfl, rfl⟩
  obtain ⟨n0, rfl⟩ : ∃ k, n0 = k + 1 := ⟨n0 - 1, by omega⟩
  refine UF (useR_L0.eq_2 ..) ?_
  refine GO (tn 1 z) (by kernel_rfl) ?_
  refine CSd (fun h1p h1 => ?_) (fun h1p h1 => ?_)
  · have := lenM_eq aInline (ilsB l)
    have hm := ilsB_mem l _ (el_mem (l := ilsB l) (i := v9) (by omega))
    have hmw := wInline_eq (el (ilsB l) v9)
    refine GO (kb h1 (ke (el_aInline (ilsB l) v9 (by omega)) (tn 7 (kj ((((el (ilsB l) v9).fKind : Int) == 15)) (tn 3 (hl (fun _ => look_has v3 ((el (ilsB l) v9).fText)) (tn 1 z))) z z)))) (by kernel_rfl) ?_
    refine CS (fun h2 => ?_) (fun h2 => ?_)
    · obtain ⟨h2a, h2o⟩ := cond_ff h2
      have h2on := nott h2o
      obtain ⟨p1, p2⟩ := put_new h2on
      refine GO (kb h2 (tn 7 (kp (show Uni 1 [(vS ((el (ilsB l) v9).fText))] from (uni_one rfl rfl)) (kp (show (gv3 : Nat) = gv3 ∧ Uni 1 [(vS ((el (ilsB l) v9).fText))] ∧ (((v3.map strAV) : List AV).length + ([(vS ((el (ilsB l) v9).fText))] : List AV).length) * 16 ≤ 140737488355328 from ⟨rfl, uni_one rfl rfl, by simp; omega⟩) (kw (ap1 strAV v3 ((el (ilsB l) v9).fText)) (tn 1 (kn (wrE ((((v9 : Nat) : Int)) + 1) (((v9 + 1 : Nat) : Int)) (by omega)) (tn 1 z)))))))) (by kernel_rfl) ?_
      exact AG ⟨gv3 + 1, _, _, by simp; omega, by omega, rfl, rfl⟩ (wtr (WK (bx := [(7, .map (mputK v3 (el (ilsB l) v9).fText) (mputV v3 (tvs v3) (el (ilsB l) v9).fText tv))]) (by kernel_rfl)) (weak_map p1 p2)) (by kernel_rfl) (Nat.lt_succ_self _)
    · refine GO (kb h2 (kn (wrE ((((v9 : Nat) : Int)) + 1) (((v9 + 1 : Nat) : Int)) (by omega)) (tn 1 z))) (by kernel_rfl) ?_
      exact AG ⟨gv3, _, _, by omega, by omega, rfl, rfl⟩ (WK (by kernel_rfl)) (by kernel_rfl) (Nat.lt_succ_self _)
  · have := lenM_eq aInline (ilsB l)
    refine GO (kb h1 z) (by kernel_rfl) ?_
    refine OUT (tn 2 z) (by kernel_rfl) ?_
    exact EN (by kernel_rfl)
end Go.Proofs.YtcdfhagcchmnhaaGreatDoor
namespace Go.Proofs.YtcdfhagcchmnhaaGreatDoor
open Go Go.Eng
def KM {α : Type} (P : Program) (fn : Func) (enc : α → SV) (bxf : α → List (Nat × ABox)) (gnf : α → List (Key × Nat)) (M : α) : Exit → St → Prop := Go.Eng.Ends P fn (enc M) (bxf M) (gnf M)
/-- A body whose boxes afterwards depend on what the model says. -/
theorem BEGm {P : Program} {α : Type} (enc : α → SV) (bxf : α → List (Nat × ABox)) (gnf : α → List (Key × Nat)) (M : α) {f : FuncId} {fn : Func} {args : List SV} {bx : List (Nat × ABox)} {gn : List (Key × Nat)} (hf : P.funcs[f]? = some fn) (hok : (fn.body.isSome && !(fn.name == "runtime.NumGoroutine") && decide (args.length ≤ fn.ntmps)) = true)
    (hids : ∀ p ∈ bx, 1000 ≤ p.1) (hgk : ∀ p ∈ gn, 1000 ≤ p.1.1 ∧ 0 < p.1.2) (hargs : ∀ s ∈ args, OkSV (bx.map (·.1)) gn s) (hbx : ∀ p ∈ bx, ∀ s ∈ p.2.svs, OkSV (bx.map (·.1)) gn s)
    (hres : OkSV (bx.map (·.1)) (gnf M) (enc M)) (hbx' : ∀ p ∈ bxf M, ∀ s ∈ p.2.svs, OkSV (bx.map (·.1)) (gnf M) s) (hsame : (bxf M).map (·.1) = bx.map (·.1)) (hgn' : (gnf M).map (·.1) = gn.map (·.1))
    (h : Nx P (KM P fn enc bxf gnf) M (Go.Eng.start (bodyOf fn) ⟨args ++ List.replicate (fn.ntmps - args.length) .junk, bx, gn⟩)) : CallTo P f args bx gn (enc M) (bxf M) (gnf M) := by
  simp only [Bool.and_eq_true, decide_eq_true_eq, Bool.not_eq_true'] at hok
  obtain ⟨⟨h1, h2⟩, h3⟩ := hok
  obtain ⟨c, hb⟩ := Option.isSome_iff_exists.1 h1
  have e : bodyOf fn = c := by simp [bodyOf, hb]
  refine CallTo_of_body hf hb h2 rfl h3 hids hgk hargs hbx hres hbx' hsame hgn' ?_
  rw [← e]; exact h.x
theorem ENm {P : Program} {α : Type} {fn : Func} {enc : α → SV} {bxf : α → List (Nat × ABox)} {gnf : α → List (Key × Nat)} {M : α} {X : Cf} (h : endOf P fn X = some (enc M)) (h3 : ∀ p ∈ bxf M, (stOf X).bx.lookup p.1 = some p.2) (h4 : ∀ p ∈ gnf M, (stOf X).gen p.1 = p.2) : Nx P (KM P fn enc bxf gnf) M X := by
  unfold endOf at h
  split at h
  · exact ⟨ends (.inl rfl) h rfl h3 h4⟩
  · exact ⟨ends (.inr rfl) h rfl h3 h4⟩
  · simp at h
theorem ENc {P : Program} {α : Type} {fn : Func} {enc : α → SV} {bxf : α → List (Nat × ABox)} {gnf : α → List (Key × Nat)} {M : α} {X : Cf} (x1 x2 : ABox) (g : Nat) (h : endOf P fn X = some (enc M))
    (hb : ((stOf X).bx.lookup 1000, (stOf X).bx.lookup 1001, (stOf X).gen (1002, 39)) = (some x1, some x2, g)) (hx : bxf M = [(1000, x1), (1001, x2)]) (hg : gnf M = [((1002, 39), g)]) : Nx P (KM P fn enc bxf gnf) M X := by
  simp only [Prod.mk.injEq] at hb
  obtain ⟨b1, b2, b3⟩ := hb
  refine ENm h ?_ ?_
  · intro p hp
    rw [hx] at hp
    simp only [List.mem_cons, List.not_mem_nil, or_false] at hp
    rcases hp with rfl | rfl
    · exact b1
    · exact b2
  · intro p hp
    rw [hg] at hp
    simp only [List.mem_cons, List.not_mem_nil, or_false] at hp
    subst hp; exact b3
def nmB (b : DBlock) : ByteArray := (getR b.fAttr (⟨#[110, 97, 109, 101]⟩)).1
def agB (b : DBlock) : List ByteArray := wrdR (getR b.fAttr (⟨#[97, 114, 103, 115]⟩)).1
def mkM (b : DBlock) : DMacro := DMacro.mk (nmB b) (agB b) b.fKids
def names (ms : List DMacro) : List ByteArray := ms.map (·.fName)
def allN (k : List DMacro × Int) (ms : List DMacro) : List ByteArray → List DMacro × Int
  | [] => k
  | x :: l => cond (!namC x) (ms, 6) (allN k ms l)
def dupN (k : List DMacro × Int) (ms : List DMacro) : List ByteArray → List ByteArray → List DMacro × Int
  | _, [] => k
  | p, x :: l => cond (hasR p x) (ms, 7) (dupN k ms (p ++ [x]) l)
def finN (b : DBlock) (ms : List DMacro) : List DMacro × Int := cond (hasR (names ms) (nmB b)) (ms, 7) (cond (cond (decide ((((lenM strAV (agB b) : Nat) : Int) : Int) > 8)) (true) (decide ((((lenM aMacro ms : Nat) : Int) : Int) ≥ 64))) (ms, 3) (ms ++ [mkM b], 0))
def addN (b : DBlock) (ms : List DMacro) : List DMacro × Int := cond (!(getR b.fAttr (⟨#[110, 97, 109, 101]⟩)).2) (ms, 8) (cond (!namC (nmB b)) (ms, 6) (allN (dupN (finN b ms) ms [] (agB b)) ms (agB b)))
def cM (ms : List DMacro) : ABox := .cells 62 [.own (1002, 39) ms.length 3 (ms.map aMacro), .mp 1001]
def nM (ms : List DMacro) : ABox := .map (names ms) (tvs (names ms))
def bxC (ms : List DMacro) : List (Nat × ABox) := [(1000, cM ms), (1001, nM ms)]
def gC (ms : List DMacro) : List (Key × Nat) := [((1002, 39), ms.length)]
theorem okC (ms : List DMacro) : ∀ p ∈ bxC ms, ∀ s ∈ p.2.svs, OkSV ([1000, 1001]) (gC ms) s := by
  intro p hp s hs
  simp only [bxC, List.mem_cons, List.not_mem_nil, or_false] at hp
  rcases hp with rfl | rfl
  · simp only [cM, ABox.svs, List.mem_cons, List.not_mem_nil, or_false] at hs
    rcases hs with rfl | rfl
    · simp [OkSV, gC, List.lookup]
    · simp [OkSV, SV.keys]
  · simp [nM, ABox.svs] at hs
theorem getP_to' (a : DAttr) (key : ByteArray) (ha : a.fPairs.length ≤ 1073741824) : CallTo Tryz.prog 68 [(.av (cAttr a)), (jS (key))] [] [] (.av (.tup [(vS ((getR a key).1)), (vB ((getR a key).2))])) [] [] := by rw [← getP_eq]; exact getP_to a key ha
theorem namA_to' (s : ByteArray) (hs : s.size ≤ 1073741824) : CallTo Tryz.prog 56 [(jS (s))] [] [] (jB (namC s)) [] [] := by rw [namC_eq]; exact namA_to s hs
theorem wrdP_to' (s : ByteArray) (hs : s.size ≤ 1073741824) : CallTo Tryz.prog 69 [(jS (s))] [] [] (jL ((wrdR s).map strAV)) [] [] := by rw [← wrdP_eq]; exact wrdP_to s hs
theorem cpB_to' (l : List DBlock) (hl : wl wBlock l ≤ 1073741824) : CallTo Tryz.prog 70 [(jL (l.map aBlock))] [] [] (jL (l.map aBlock)) [] [] := by have h := cpB_to l hl; rw [cpB_same] at h; exact h
theorem drop_cons {l : List ByteArray} {v : Nat} (h : v < l.length) : l.drop v = el l v :: l.drop (v + 1) := drop_el h
theorem take_snoc {l : List ByteArray} {v : Nat} (h : v < l.length) : l.take (v + 1) = l.take v ++ [el l v] := take_succ_el h
set_option maxRecDepth 100000 in
set_option maxHeartbeats 4000000 in
theorem add_to (b : DBlock) (ms : List DMacro) (hb : wBlock b ≤ 1073741824) (hm : ms.length ≤ 1073741824) :
    CallTo Tryz.prog 42 [.ptr 1000 0, .av (cBlock b)] (bxC ms) (gC ms) (jI (addN b ms).2) (bxC (addN b ms).1) (gC (addN b ms).1) := by
  have hw := wBlock_eq b
  have hwa := wAttr_eq b.fAttr
  have hpl := wl_len (w := wPair) wPair_pos b.fAttr.fPairs
  have hs1 : (nmB b).size ≤ _ := getR_sz b.fAttr (⟨#[110, 97, 109, 101]⟩)
  have hs2 := getR_sz b.fAttr (⟨#[97, 114, 103, 115]⟩)
  have hwl : (agB b).length ≤ _ := wrdR_len (getR b.fAttr (⟨#[97, 114, 103, 115]⟩)).1
  have hlq := lenM_eq strAV (agB b)
  have hlm := lenM_eq aMacro ms
  refine BEGm (fun r : List DMacro × Int => jI r.2) (fun r => bxC r.1) (fun r => gC r.1) (addN b ms) Tryz.func42 (by kernel_rfl) (by simp [bxC]) (by simp [gC]) (by simp [OkSV, SV.keys, bxC]) (okC ms) (by simp [OkSV, SV.keys]) (okC _) rfl rfl ?_
  refine UF (addN.eq_1 ..) ?_
  refine GO (tn 4 (kc (getP_to' b.fAttr (⟨#[110, 97, 109, 101]⟩) (by omega)) (tn 7 z))) (by kernel_rfl) ?_
  refine CS (fun h1 => ?_) (fun h1 => ?_)
  · refine GO (kb h1 (tn 1 z)) (by kernel_rfl) ?_
    exact ENc (cM ms) (nM ms) ms.length (by kernel_rfl) (by kernel_rfl) rfl rfl
  · refine GO (kb h1 (tn 2 (kc (getP_to' b.fAttr (⟨#[97, 114, 103, 115]⟩) (by omega)) (tn 6 (kc (wrdP_to' (getR b.fAttr (⟨#[97, 114, 103, 115]⟩)).1 (by omega)) (tn 2 (kc (namA_to' (nmB b) (by omega)) (tn 1 z)))))))) (by kernel_rfl) ?_
    refine CS (fun h2 => ?_) (fun h2 => ?_)
    · refine GO (kb h2 (tn 1 z)) (by kernel_rfl) ?_
      exact ENc (cM ms) (nM ms) ms.length (by kernel_rfl) (by kernel_rfl) rfl rfl
    · refine GO (kb h2 (tn 3 z)) (by kernel_rfl) ?_
      refine LP (n := (agB b).length + 1) (fun N M S => ∃ v : Nat, (v ≤ (agB b).length) ∧ ((agB b).length - v < N) ∧ M = allN (dupN (finN b ms) ms [] (agB b)) ms ((agB b).drop v) ∧ S = (sx 94 [(0, .ptr 1000 0), (3, .ptr 3 0), (5, jS (nmB b)), (9, jL ((agB b).map strAV)), (34, jL ((agB b).map strAV)), (35, (jI (((lenM strAV (agB b) : Nat) : Int)))), (36, (jI (((v : Nat) : Int))))] ((3, .cells 44 (sBlock b)) :: bxC ms) (gC ms))) (by kernel_rfl) ⟨0, by omega, by omega, rfl, rfl⟩ (WK (by kernel_rfl)) ?_
      rintro n0 M S ⟨v, hv, hF0, rfl, rfl⟩
      obtain ⟨n0, rfl⟩ : ∃ k, n0 = k + 1 := ⟨n0 - 1, by omega⟩
      refine GO (tn 1 z) (by kernel_rfl) ?_
      by_cases h3 : v < (agB b).length
      · have hd : decide ((((v : Nat) : Int) : Int) < ((lenM strAV (agB b) : Nat) : Int)) = true := dT (by omega)
        have hz := wrdR_sz (getR b.fAttr (⟨#[97, 114, 103, 115]⟩)).1 _ (el_mem (l := agB b) (i := v) h3)
        rw [drop_cons h3]
        refine GO (kb hd (ke (el_strAV (agB b) v h3) (tn 3 (kc (namA_to' (el (agB b) v) (by omega)) (tn 1 z))))) (by kernel_rfl) ?_
        refine CS (fun h5 => ?_) (fun h5 => ?_)
        · refine GO (kb h5 (tn 1 z)) (by kernel_rfl) ?_
          refine OUT z (by kernel_rfl) ?_
          exact ENc (cM ms) (nM ms) ms.length (by kernel_rfl) (by kernel_rfl) rfl rfl
        · refine GO (kb h5 (kn (wrE ((((v : Nat) : Int)) + 1) (((v + 1 : Nat) : Int)) (by omega)) (tn 1 z))) (by kernel_rfl) ?_
          exact AG ⟨v + 1, by omega, by omega, rfl, rfl⟩ (WK (by kernel_rfl)) (by kernel_rfl) (Nat.lt_succ_self _)
      · have hd : decide ((((v : Nat) : Int) : Int) < ((lenM strAV (agB b) : Nat) : Int)) = false := dF (by omega)
        rw [List.drop_eq_nil_of_le (by omega)]
        refine GO (kb hd z) (by kernel_rfl) ?_
        refine OUT (tn 5 z) (by kernel_rfl) ?_
        refine UF (M' := dupN (finN b ms) ms [] (agB b)) rfl ?_
        refine LP (n := (agB b).length + 1) (fun N M S => ∃ v : Nat, (v ≤ (agB b).length) ∧ ((agB b).length - v < N) ∧ M = dupN (finN b ms) ms ((agB b).take v) ((agB b).drop v) ∧ S = (sx 94 [(0, .ptr 1000 0), (3, .ptr 3 0), (5, jS (nmB b)), (9, jL ((agB b).map strAV)), (12, .mp 44), (45, jL ((agB b).map strAV)), (46, (jI (((lenM strAV (agB b) : Nat) : Int)))), (47, (jI (((v : Nat) : Int))))] ((44, .map ((agB b).take v) (tvs ((agB b).take v))) :: (3, .cells 44 (sBlock b)) :: bxC ms) (gC ms))) (by kernel_rfl) ⟨0, by omega, by omega, rfl, rfl⟩ (WK (by kernel_rfl)) ?_
        rintro n1 M S ⟨u, hu, hF1, rfl, rfl⟩
        obtain ⟨n1, rfl⟩ : ∃ k, n1 = k + 1 := ⟨n1 - 1, by omega⟩
        refine GO (tn 1 z) (by kernel_rfl) ?_
        by_cases h6 : u < (agB b).length
        · have hd : decide ((((u : Nat) : Int) : Int) < ((lenM strAV (agB b) : Nat) : Int)) = true := dT (by omega)
          rw [drop_cons h6]
          refine GO (kb hd (ke (el_strAV (agB b) u h6) (tn 4 (kl (look_has ((agB b).take u) (el (agB b) u)) z)))) (by kernel_rfl) ?_
          refine CS (fun h7 => ?_) (fun h7 => ?_)
          · refine GO (kb h7 (tn 1 z)) (by kernel_rfl) ?_
            refine OUT z (by kernel_rfl) ?_
            exact ENc (cM ms) (nM ms) ms.length (by kernel_rfl) (by kernel_rfl) rfl rfl
          · obtain ⟨p1, p2⟩ := put_new h7
            rw [← take_snoc h6] at p1 p2
            refine GO (kb h7 (tn 3 (kn (wrE ((((u : Nat) : Int)) + 1) (((u + 1 : Nat) : Int)) (by omega)) (tn 1 z)))) (by kernel_rfl) ?_
            exact AG ⟨u + 1, by omega, by omega, by rw [take_snoc h6], rfl⟩ (wtr (WK (bx := (44, .map (mputK ((agB b).take u) (el (agB b) u)) (mputV ((agB b).take u) (tvs ((agB b).take u)) (el (agB b) u) tv)) :: (3, .cells 44 (sBlock b)) :: bxC ms) (by kernel_rfl)) (weak_map p1 p2)) (by kernel_rfl) (Nat.lt_succ_self _)
        · have hd : decide ((((u : Nat) : Int) : Int) < ((lenM strAV (agB b) : Nat) : Int)) = false := dF (by omega)
          rw [List.drop_eq_nil_of_le (by omega)]
          refine UF (M' := finN b ms) rfl ?_
          refine UF (finN.eq_1 ..) ?_
          refine GO (kb hd z) (by kernel_rfl) ?_
          refine OUT (tn 5 (kl (look_has (names ms) (nmB b)) z)) (by kernel_rfl) ?_
          refine CS (fun h8 => ?_) (fun h8 => ?_)
          · refine GO (kb h8 (tn 1 z)) (by kernel_rfl) ?_
            exact ENc (cM ms) (nM ms) ms.length (by kernel_rfl) (by kernel_rfl) rfl rfl
          · refine GO (kb h8 (tn 4 (kj (decide ((((lenM strAV (agB b) : Nat) : Int) : Int) > 8)) z (tn 6 z) z))) (by kernel_rfl) ?_
            refine CS (fun h9 => ?_) (fun h9 => ?_)
            · refine GO (kb h9 (tn 1 z)) (by kernel_rfl) ?_
              exact ENc (cM ms) (nM ms) ms.length (by kernel_rfl) (by kernel_rfl) rfl rfl
            · obtain ⟨p1, p2⟩ := put_new h8
              have en : names ms ++ [nmB b] = names (ms ++ [mkM b]) := by simp [names, mkM]
              rw [en] at p1 p2
              have hc := cpB_to' b.fKids (by omega)
              have hu1 : Uni 3 [aMacro (mkM b)] := uni_one rfl rfl
              refine GO (kb h9 (tn 6 z)) (by kernel_rfl) ?_
              refine DR3 (tn 10 (ko (cO hc) (kp hc (tn 2 (kp hu1 (kp (show (ms.length : Nat) = ms.length ∧ Uni 3 [aMacro (mkM b)] ∧ (((ms.map aMacro) : List AV).length + ([aMacro (mkM b)] : List AV).length) * 64 ≤ 140737488355328 from ⟨rfl, hu1, by simp; omega⟩) (tn 4 z))))))) (by kernel_rfl) (by kernel_rfl) (by kernel_rfl) ?_
              refine ENc (.cells 62 [.own (1002, 39) (ms.length + 1) 3 (ms.map aMacro ++ [aMacro (mkM b)]), .mp 1001]) (.map (mputK (names ms) (nmB b)) (mputV (names ms) (tvs (names ms)) (nmB b) tv)) (ms.length + 1) (by kernel_rfl) (by kernel_rfl) ?_ ?_
              · rw [p1, p2]
                show bxC (ms ++ [mkM b]) = _
                simp only [bxC, cM, nM, List.map_append, List.map_cons, List.map_nil, List.length_append, List.length_cons, List.length_nil, Nat.zero_add]
              · show gC (ms ++ [mkM b]) = _
                simp only [gC, List.length_append, List.length_cons, List.length_nil, Nat.zero_add]
end Go.Proofs.YtcdfhagcchmnhaaGreatDoor
namespace Go.Proofs.YtcdfhagcchmnhaaGreatDoor
open Go Go.Eng
def andT (r : List DMacro × Int) (k : List DMacro → List DMacro × Int) : List DMacro × Int := cond (r.2 != 0) r (k r.1)
def tbF (rec : List DBlock → Bool → List DMacro → List DMacro × Int) (ins : Bool) : List DBlock → List DMacro → List DMacro × Int
  | [], ms => (ms, 0)
  | b :: l, ms => cond (defR b) (cond ins (ms, 5) (andT (addN b ms) (fun ms => andT (rec b.fKids true ms) (tbF rec ins l)))) (andT (rec b.fKids ins ms) (tbF rec ins l))
def tbN : Nat → List DBlock → Bool → List DMacro → List DMacro × Int
  | 0, _, _, ms => (ms, 0)
  | n + 1, l, ins, ms => tbF (tbN n) ins l ms
/-- What adding a definition leads to. -/
def AddOk (b : DBlock) (ms : List DMacro) (r : List DMacro × Int) : Prop := (r.2 = 0 → r.1 = ms ++ [mkM b] ∧ ms.length < 64) ∧ (r.2 ≠ 0 → r.1 = ms)
theorem AddOk.bad {b : DBlock} {ms : List DMacro} {e : Int} (h : e ≠ 0) : AddOk b ms (ms, e) := ⟨fun h2 => absurd h2 h, fun _ => rfl⟩
theorem AddOk.cond {b : DBlock} {ms : List DMacro} {c : Bool} {x y : List DMacro × Int} (h1 : c = true → AddOk b ms x) (h2 : c = false → AddOk b ms y) : AddOk b ms (cond c x y) := by
  cases c
  · exact h2 rfl
  · exact h1 rfl
theorem allN_ok {b : DBlock} {ms : List DMacro} {k : List DMacro × Int} (h : AddOk b ms k) : ∀ l, AddOk b ms (allN k ms l)
  | [] => h
  | x :: l => AddOk.cond (fun _ => AddOk.bad (by decide)) (fun _ => allN_ok h l)
theorem dupN_ok {b : DBlock} {ms : List DMacro} {k : List DMacro × Int} (h : AddOk b ms k) : ∀ l p, AddOk b ms (dupN k ms p l)
  | [], p => h
  | x :: l, p => AddOk.cond (fun _ => AddOk.bad (by decide)) (fun _ => dupN_ok h l _)
theorem finN_ok (b : DBlock) (ms : List DMacro) : AddOk b ms (finN b ms) := by
  refine AddOk.cond (fun _ => AddOk.bad (by decide)) (fun _ => AddOk.cond (fun _ => AddOk.bad (by decide)) (fun h => ⟨fun _ => ⟨rfl, ?_⟩, fun h2 => absurd rfl h2⟩))
  have hl := lenM_eq aMacro ms
  rcases Nat.lt_or_ge ms.length 64 with h3 | h3
  · exact h3
  · rw [dT (p := ((lenM aMacro ms : Nat) : Int) ≥ 64) (by omega)] at h
    generalize decide ((((lenM strAV (agB b) : Nat) : Int) : Int) > 8) = c at h
    cases c <;> simp at h
theorem addN_ok (b : DBlock) (ms : List DMacro) : AddOk b ms (addN b ms) :=
  AddOk.cond (fun _ => AddOk.bad (by decide)) (fun _ => AddOk.cond (fun _ => AddOk.bad (by decide)) (fun _ => allN_ok (dupN_ok (finN_ok b ms) _ _) _))
theorem addN_len {b : DBlock} {ms : List DMacro} (h : ms.length ≤ 64) : (addN b ms).1.length ≤ 64 := by
  obtain ⟨h1, h2⟩ := addN_ok b ms
  by_cases h3 : (addN b ms).2 = 0
  · obtain ⟨e, hl⟩ := h1 h3
    rw [e]; simp; omega
  · rw [h2 h3]; exact h
theorem andT_len {r : List DMacro × Int} {k : List DMacro → List DMacro × Int} (h : r.1.length ≤ 64) (hk : ∀ ms : List DMacro, ms.length ≤ 64 → (k ms).1.length ≤ 64) : (andT r k).1.length ≤ 64 := by
  unfold andT
  cases (r.2 != 0)
  · exact hk _ h
  · exact h
theorem tbF_len {rec : List DBlock → Bool → List DMacro → List DMacro × Int} (hr : ∀ l ins ms, ms.length ≤ 64 → (rec l ins ms).1.length ≤ 64) (ins : Bool) : ∀ (l : List DBlock) (ms : List DMacro), ms.length ≤ 64 → (tbF rec ins l ms).1.length ≤ 64
  | [], ms, h => h
  | b :: l, ms, h => by
    rw [tbF]
    cases defR b with
    | false => exact andT_len (hr _ _ _ h) (fun ms h => tbF_len hr ins l ms h)
    | true =>
      cases ins with
      | true => exact h
      | false => exact andT_len (addN_len h) (fun ms h => andT_len (hr _ _ _ h) (fun ms h => tbF_len hr false l ms h))
theorem tbN_len : ∀ (n : Nat) (l : List DBlock) (ins : Bool) (ms : List DMacro), ms.length ≤ 64 → (tbN n l ins ms).1.length ≤ 64
  | 0, _, _, _, h => h
  | n + 1, l, ins, ms, h => tbF_len (tbN_len n) ins l ms h
theorem defP_to' (b : DBlock) : CallTo Tryz.prog 41 [(.av (cBlock b))] [] [] (jB (defR b)) [] [] := defP_to b
theorem drop_consB {l : List DBlock} {v : Nat} (h : v < l.length) : l.drop v = el l v :: l.drop (v + 1) := drop_el h
set_option maxRecDepth 100000 in
set_option maxHeartbeats 4000000 in
theorem blk_st (rec : List DBlock → Bool → List DMacro → List DMacro × Int) (hlen : ∀ l ins ms, ms.length ≤ 64 → (rec l ins ms).1.length ≤ 64) (l : List DBlock) (hl : wl wBlock l ≤ 1073741824) (ins : Bool) (m0 : List DMacro) (hm0 : m0.length ≤ 64)
    (hrec : ∀ l' : List DBlock, wl wBlock l' < wl wBlock l → wl wBlock l' ≤ 1073741824 → ∀ (ins : Bool) (ms : List DMacro), ms.length ≤ 64 →
      CallTo Tryz.prog 21 [.ptr 1000 0, jL (l'.map aBlock), jB ins] (bxC ms) (gC ms) (jI (rec l' ins ms).2) (bxC (rec l' ins ms).1) (gC (rec l' ins ms).1)) :
    CallTo Tryz.prog 21 [.ptr 1000 0, jL (l.map aBlock), jB ins] (bxC m0) (gC m0) (jI (tbF rec ins l m0).2) (bxC (tbF rec ins l m0).1) (gC (tbF rec ins l m0).1) := by
  have hwl := wl_len (w := wBlock) wBlock_pos l
  have hlq := lenM_eq aBlock l
  refine BEGm (fun r : List DMacro × Int => jI r.2) (fun r => bxC r.1) (fun r => gC r.1) (tbF rec ins l m0) Tryz.func21 (by kernel_rfl) (by simp [bxC]) (by simp [gC]) (by simp [OkSV, SV.keys, bxC]) (okC m0) (by simp [OkSV, SV.keys]) (okC _) rfl rfl ?_
  refine GO (tn 4 z) (by kernel_rfl) ?_
  refine LP (n := l.length + 1) (fun N M S => ∃ v : Nat, ∃ ms : List DMacro, (v ≤ l.length) ∧ (ms.length ≤ 64) ∧ (l.length - v < N) ∧ M = tbF rec ins (l.drop v) ms ∧ S = (sx 37 [(0, .ptr 1000 0), (2, jB ins), (12, jL (l.map aBlock)), (13, (jI (((lenM aBlock l : Nat) : Int)))), (14, (jI (((v : Nat) : Int))))] (bxC ms) (gC ms))) (by kernel_rfl) ⟨0, m0, by omega, hm0, by omega, rfl, rfl⟩ (WK (by kernel_rfl)) ?_
  rintro n0 M S ⟨v, ms, hv, hm, hF0, rfl, rfl⟩
  obtain ⟨n0, rfl⟩ : ∃ k, n0 = k + 1 := ⟨n0 - 1, by omega⟩
  refine GO (tn 1 z) (by kernel_rfl) ?_
  by_cases h1 : v < l.length
  · have hd : decide ((((v : Nat) : Int) : Int) < ((lenM aBlock l : Nat) : Int)) = true := dT (by omega)
    have hce := wl_el (w := wBlock) (l := l) (i := v) h1
    have hcw := wBlock_eq (el l v)
    simp only [wStr, w1] at hcw
    have hwr := wrE ((((v : Nat) : Int)) + 1) (((v + 1 : Nat) : Int)) (by omega)
    rw [drop_consB h1]
    refine UF (tbF.eq_2 ..) ?_
    refine GO (kb hd (ke (el_aBlock l v h1) (tn 6 (kc (defP_to' (el l v)) z)))) (by kernel_rfl) ?_
    refine CS (fun h2 => ?_) (fun h2 => ?_)
    · refine GO (kb h2 (tn 1 z)) (by kernel_rfl) ?_
      refine CS (fun h3 => ?_) (fun h3 => ?_)
      · refine GO (kb h3 (tn 1 z)) (by kernel_rfl) ?_
        refine OUT z (by kernel_rfl) ?_
        exact ENc (cM ms) (nM ms) ms.length (by kernel_rfl) (by kernel_rfl) rfl rfl
      · have ha := add_to (el l v) ms (by omega) (by omega)
        have hml := addN_len (b := el l v) hm
        obtain ⟨r, hr⟩ : ∃ r, addN (el l v) ms = r := ⟨_, rfl⟩
        rw [hr] at ha hml ⊢
        refine UF (andT.eq_1 ..) ?_
        refine GO (kb h3 (tn 2 (kg ha (show (ms.length : Nat) = ms.length ∧ True from ⟨rfl, trivial⟩) (tn 3 z)))) (by kernel_rfl) ?_
        refine CSn (fun h4p h4 => ?_) (fun h4p h4 => ?_)
        · refine GO (kb h4 (tn 2 z)) (by kernel_rfl) ?_
          refine OUT z (by kernel_rfl) ?_
          exact ENc (cM r.1) (nM r.1) r.1.length (by kernel_rfl) (by kernel_rfl) rfl rfl
        · have hc := hrec (el l v).fKids (by omega) (by omega) true r.1 hml
          have hml2 := hlen (el l v).fKids true r.1 hml
          obtain ⟨q, hq⟩ : ∃ q, rec (el l v).fKids true r.1 = q := ⟨_, rfl⟩
          rw [hq] at hc hml2 ⊢
          refine UF (andT.eq_1 ..) ?_
          refine GO (kb h4 (tn 5 (kg hc (show (r.1.length : Nat) = r.1.length ∧ True from ⟨rfl, trivial⟩) (tn 3 z)))) (by kernel_rfl) ?_
          refine CSn (fun h5p h5 => ?_) (fun h5p h5 => ?_)
          · refine GO (kb h5 (tn 2 z)) (by kernel_rfl) ?_
            refine OUT z (by kernel_rfl) ?_
            exact ENc (cM q.1) (nM q.1) q.1.length (by kernel_rfl) (by kernel_rfl) rfl rfl
          · refine GO (kb h5 (kn hwr (tn 1 z))) (by kernel_rfl) ?_
            exact AG ⟨v + 1, q.1, by omega, hml2, by omega, rfl, rfl⟩ (WK (by kernel_rfl)) (by kernel_rfl) (Nat.lt_succ_self _)
    · have hc := hrec (el l v).fKids (by omega) (by omega) ins ms hm
      have hml2 := hlen (el l v).fKids ins ms hm
      obtain ⟨q, hq⟩ : ∃ q, rec (el l v).fKids ins ms = q := ⟨_, rfl⟩
      rw [hq] at hc hml2 ⊢
      refine UF (andT.eq_1 ..) ?_
      refine GO (kb h2 (tn 4 (kg hc (show (ms.length : Nat) = ms.length ∧ True from ⟨rfl, trivial⟩) (tn 3 z)))) (by kernel_rfl) ?_
      refine CSn (fun h5p h5 => ?_) (fun h5p h5 => ?_)
      · refine GO (kb h5 (tn 2 z)) (by kernel_rfl) ?_
        refine OUT z (by kernel_rfl) ?_
        exact ENc (cM q.1) (nM q.1) q.1.length (by kernel_rfl) (by kernel_rfl) rfl rfl
      · refine GO (kb h5 (kn hwr (tn 1 z))) (by kernel_rfl) ?_
        exact AG ⟨v + 1, q.1, by omega, hml2, by omega, rfl, rfl⟩ (WK (by kernel_rfl)) (by kernel_rfl) (Nat.lt_succ_self _)
  · have hd : decide ((((v : Nat) : Int) : Int) < ((lenM aBlock l : Nat) : Int)) = false := dF (by omega)
    rw [List.drop_eq_nil_of_le (by omega)]
    refine UF (tbF.eq_1 ..) ?_
    refine GO (kb hd z) (by kernel_rfl) ?_
    refine OUT (tn 1 z) (by kernel_rfl) ?_
    exact ENc (cM ms) (nM ms) ms.length (by kernel_rfl) (by kernel_rfl) rfl rfl
theorem blk_n : ∀ (n : Nat) (l : List DBlock), wl wBlock l < n → wl wBlock l ≤ 1073741824 → ∀ (ins : Bool) (ms : List DMacro), ms.length ≤ 64 →
    CallTo Tryz.prog 21 [.ptr 1000 0, jL (l.map aBlock), jB ins] (bxC ms) (gC ms) (jI (tbN n l ins ms).2) (bxC (tbN n l ins ms).1) (gC (tbN n l ins ms).1)
  | 0, l, h, _, _, _, _ => by omega
  | n + 1, l, h, hl, ins, ms, hm => blk_st (tbN n) (tbN_len n) l hl ins ms hm (fun l' h1 h2 ins ms h3 => blk_n n l' (by omega) h2 ins ms h3)
end Go.Proofs.YtcdfhagcchmnhaaGreatDoor
namespace Go.Proofs.YtcdfhagcchmnhaaGreatDoor
open Go Go.Eng
theorem cond_snd {c : Bool} {x y : List DMacro × Int} : (cond c x y).2 = cond c x.2 y.2 := by cases c <;> rfl
theorem hasN_eq (b : DBlock) (ins : Bool) (ms : List DMacro) (v w : Nat) (k0 k1 : Nat → Int) : ∀ (n x : Nat), ms.length - x < n → chkR_L2 b ins ms v w k0 k1 n x = cond ((ms.drop x).any (fun m => eqs m.fName (nmB b))) 7 (cond (cond (decide ((((lenM strAV (agB b) : Nat) : Int) : Int) > 8)) (true) (decide ((((lenM aMacro ms : Nat) : Int) : Int) ≥ 64))) 3 0)
  | 0, x, h => by omega
  | n + 1, x, h => by
    have hl := lenM_eq aMacro ms
    rw [chkR_L2]
    by_cases hx : x < ms.length
    · rw [dT (p := ((x : Nat) : Int) < _) (by omega), cond_true, drop_el hx, List.any_cons, hasN_eq b ins ms v w k0 k1 n _ (by omega)]
      show cond (eqs (el ms x).fName (nmB b)) 7 _ = _
      cases eqs (el ms x).fName (nmB b) <;> rfl
    · rw [dF (p := ((x : Nat) : Int) < _) (by omega), cond_false, List.drop_eq_nil_of_le (by omega)]
      rfl
theorem names_any (ms : List DMacro) (s : ByteArray) : hasR (names ms) s = ms.any (fun m => eqs m.fName s) := by
  rw [hasR_any, names, List.any_map]; rfl
theorem dupR_eq (b : DBlock) (ins : Bool) (ms : List DMacro) (v : Nat) (k0 : Nat → Int) : ∀ (n w : Nat), w ≤ (agB b).length → (agB b).length - w < n → chkR_L1 b ins ms v k0 n w = (dupN (finN b ms) ms ((agB b).take w) ((agB b).drop w)).2
  | 0, w, _, h => by omega
  | n + 1, w, hw, h => by
    have hl := lenM_eq strAV (agB b)
    rw [chkR_L1]
    by_cases hx : w < (agB b).length
    · rw [show decide ((((w : Nat) : Int) : Int) < ((lenM strAV (wrdR ((getR b.fAttr (⟨#[97, 114, 103, 115]⟩)).1)) : Nat) : Int)) = true from dT (p := ((w : Nat) : Int) < ((lenM strAV (agB b) : Nat) : Int)) (by omega), cond_true, drop_cons hx, dupN, cond_snd, dupR_eq b ins ms v k0 n (w + 1) (by omega) (by omega), take_snoc hx]
      rfl
    · rw [show decide ((((w : Nat) : Int) : Int) < ((lenM strAV (wrdR ((getR b.fAttr (⟨#[97, 114, 103, 115]⟩)).1)) : Nat) : Int)) = false from dF (p := ((w : Nat) : Int) < ((lenM strAV (agB b) : Nat) : Int)) (by omega), cond_false, List.drop_eq_nil_of_le (by omega), dupN, hasN_eq b ins ms v w _ _ _ _ (by omega), finN, names_any, cond_snd, cond_snd]
      rfl
theorem allR_eq (b : DBlock) (ins : Bool) (ms : List DMacro) : ∀ (n v : Nat), v ≤ (agB b).length → (agB b).length - v < n → chkR_L0 b ins ms n v = (allN (dupN (finN b ms) ms [] (agB b)) ms ((agB b).drop v)).2
  | 0, v, _, h => by omega
  | n + 1, v, hv, h => by
    have hl := lenM_eq strAV (agB b)
    rw [chkR_L0]
    by_cases hx : v < (agB b).length
    · rw [show decide ((((v : Nat) : Int) : Int) < ((lenM strAV (wrdR ((getR b.fAttr (⟨#[97, 114, 103, 115]⟩)).1)) : Nat) : Int)) = true from dT (p := ((v : Nat) : Int) < ((lenM strAV (agB b) : Nat) : Int)) (by omega), cond_true, drop_cons hx, allN, cond_snd, allR_eq b ins ms n (v + 1) (by omega) (by omega)]
      rfl
    · rw [show decide ((((v : Nat) : Int) : Int) < ((lenM strAV (wrdR ((getR b.fAttr (⟨#[97, 114, 103, 115]⟩)).1)) : Nat) : Int)) = false from dF (p := ((v : Nat) : Int) < ((lenM strAV (agB b) : Nat) : Int)) (by omega), cond_false, List.drop_eq_nil_of_le (by omega), allN]
      exact dupR_eq b ins ms v _ _ 0 (by omega) (by show (agB b).length - 0 < (agB b).length - 0 + 1; omega)
theorem chkR_eq (b : DBlock) (ins : Bool) (ms : List DMacro) : chkR b ins ms = cond ins 5 (addN b ms).2 := by
  rw [chkR, addN, cond_snd, cond_snd]
  congr 3
  exact allR_eq b ins ms _ 0 (by omega) (by show (agB b).length - 0 < (agB b).length - 0 + 1; omega)
def endOfK (P : Program) (fn : Func) (X : Cf) : Option SV := match X with
  | some (_, _, .fin .ret S) => aRes P fn S true
  | some (_, _, .fin .normal S) => aRes P fn S true
  | _ => none
theorem ENt {P : Program} {α : Type} {fn : Func} {enc : α → SV} {bxf : α → List (Nat × ABox)} {gnf : α → List (Key × Nat)} {M : α} {X : Cf} (r : SV) (g : Nat) (h : endOfK P fn X = some r) (hr : r = enc M)
    (hb : (stOf X).gen (1002, 39) = g) (hx : bxf M = []) (hg : gnf M = [((1002, 39), g)]) : Nx P (KM P fn enc bxf gnf) M X := by
  subst hr
  have h3 : ∀ p ∈ bxf M, (stOf X).bx.lookup p.1 = some p.2 := by rw [hx]; intro p hp; cases hp
  have h4 : ∀ p ∈ gnf M, (stOf X).gen p.1 = p.2 := by
    rw [hg]; intro p hp
    simp only [List.mem_cons, List.not_mem_nil, or_false] at hp
    subst hp; exact hb
  unfold endOfK at h
  split at h
  · exact ⟨endsK (.inl rfl) h rfl h3 h4⟩
  · exact ⟨endsK (.inr rfl) h rfl h3 h4⟩
  · simp at h
def okT (r : List DMacro × Int) : SV := .tp [.c (.own (1002, 39) r.1.length 3 (r.1.map aMacro)), .c (.av (vI r.2))]
def badT (r : List DMacro × Int) : SV := .tp [.c .nil, .c (.av (vI r.2))]
def tupS (r : List DMacro × Int) : SV := cond (r.2 == 0) (okT r) (badT r)
theorem tupS_ok {r : List DMacro × Int} (h : r.2 = 0) : tupS r = okT r := by rw [tupS, show (r.2 == 0) = true by rw [beq_iff_eq]; exact h]; rfl
theorem tupS_bad {r : List DMacro × Int} (h : r.2 ≠ 0) : tupS r = badT r := by rw [tupS, show (r.2 == 0) = false by rw [beq_eq_false_iff_ne]; exact h]; rfl
theorem okS (r : List DMacro × Int) : OkSV [] (gC r.1) (tupS r) := by
  unfold tupS
  cases (r.2 == 0)
  · simp [badT, OkSV, OkXV, OkCV]
  · simp [okT, OkSV, OkXV, OkCV, gC, List.lookup]
def ownS (ms : List DMacro) : SV := .own (1002, 39) ms.length 3 (ms.map aMacro)
set_option maxRecDepth 100000 in
set_option maxHeartbeats 4000000 in
theorem tbl_st (rec : List DBlock → Bool → List DMacro → List DMacro × Int) (hlen : ∀ l ins ms, ms.length ≤ 64 → (rec l ins ms).1.length ≤ 64) (l : List DBlock) (hl : wl wBlock l ≤ 1073741824) (ins : Bool) (m0 : List DMacro) (hm0 : m0.length ≤ 64)
    (hrec : ∀ l' : List DBlock, wl wBlock l' < wl wBlock l → wl wBlock l' ≤ 1073741824 → ∀ (ins : Bool) (ms : List DMacro), ms.length ≤ 64 →
      CallTo Tryz.prog 22 [jL (l'.map aBlock), jB ins, ownS ms] [] (gC ms) (tupS (rec l' ins ms)) [] (gC (rec l' ins ms).1)) :
    CallTo Tryz.prog 22 [jL (l.map aBlock), jB ins, ownS m0] [] (gC m0) (tupS (tbF rec ins l m0)) [] (gC (tbF rec ins l m0).1) := by
  have hwl := wl_len (w := wBlock) wBlock_pos l
  have hlq := lenM_eq aBlock l
  refine BEGm tupS (fun _ => []) (fun r => gC r.1) (tbF rec ins l m0) Tryz.func22 (by kernel_rfl) (by simp) (by simp [gC]) (by simp [OkSV, SV.keys, ownS, gC, List.lookup]) (by simp) (okS _) (by simp) rfl rfl ?_
  refine GO (tn 5 z) (by kernel_rfl) ?_
  refine LP (n := l.length + 1) (fun N M S => ∃ v : Nat, ∃ ms : List DMacro, (v ≤ l.length) ∧ (ms.length ≤ 64) ∧ (l.length - v < N) ∧ M = tbF rec ins (l.drop v) ms ∧ S = (sx 71 [(1, jB ins), (2, ownS ms), (17, jL (l.map aBlock)), (18, (jI (((lenM aBlock l : Nat) : Int)))), (19, (jI (((v : Nat) : Int))))] [] (gC ms))) (by kernel_rfl) ⟨0, m0, by omega, hm0, by omega, rfl, rfl⟩ (WK (by kernel_rfl)) ?_
  rintro n0 M S ⟨v, ms, hv, hm, hF0, rfl, rfl⟩
  obtain ⟨n0, rfl⟩ : ∃ k, n0 = k + 1 := ⟨n0 - 1, by omega⟩
  refine GO (tn 1 z) (by kernel_rfl) ?_
  by_cases h1 : v < l.length
  · have hd : decide ((((v : Nat) : Int) : Int) < ((lenM aBlock l : Nat) : Int)) = true := dT (by omega)
    have hce := wl_el (w := wBlock) (l := l) (i := v) h1
    have hcw := wBlock_eq (el l v)
    have hca := wAttr_eq (el l v).fAttr
    have hpl := wl_len (w := wPair) wPair_pos (el l v).fAttr.fPairs
    have hs1 : (nmB (el l v)).size ≤ _ := getR_sz (el l v).fAttr (⟨#[110, 97, 109, 101]⟩)
    have hs2 := getR_sz (el l v).fAttr (⟨#[97, 114, 103, 115]⟩)
    simp only [wStr, w1] at hcw
    have hwr := wrE ((((v : Nat) : Int)) + 1) (((v + 1 : Nat) : Int)) (by omega)
    rw [drop_consB h1]
    refine UF (tbF.eq_2 ..) ?_
    refine GO (kb hd (ke (el_aBlock l v h1) (tn 4 (kc (defR_to (el l v)) z)))) (by kernel_rfl) ?_
    have hch := chkR_to (el l v) ins ms (by omega) (by omega)
    rw [chkR_eq] at hch
    refine CS (fun h2 => ?_) (fun h2 => ?_)
    · cases ins with
      | true =>
        refine GO (kb h2 (tn 3 (kc hch (tn 3 (kb (show ((5 : Int) != 0) = true from rfl) (tn 3 z)))))) (by kernel_rfl) ?_
        refine OUT z (by kernel_rfl) ?_
        exact ENt (badT (ms, 5)) ms.length (by kernel_rfl) rfl (by kernel_rfl) rfl rfl
      | false =>
        have ha := addN_ok (el l v) ms
        have hml := addN_len (b := el l v) hm
        obtain ⟨r, hr⟩ : ∃ r, addN (el l v) ms = r := ⟨_, rfl⟩
        rw [hr] at ha hml hch ⊢
        refine UF (M' := andT r (fun ms => andT (rec (el l v).fKids true ms) (tbF rec false (l.drop (v + 1))))) rfl ?_
        refine UF (andT.eq_1 ..) ?_
        refine GO (kb h2 (tn 3 (kc hch (tn 3 z)))) (by kernel_rfl) ?_
        refine CSn (fun h4p h4 => ?_) (fun h4p h4 => ?_)
        · refine GO (kb h4 (tn 3 z)) (by kernel_rfl) ?_
          refine OUT z (by kernel_rfl) ?_
          exact ENt (badT r) ms.length (by kernel_rfl) (tupS_bad h4p).symm (by kernel_rfl) rfl (by rw [ha.2 h4p]; rfl)
        · obtain ⟨hr1, hm6⟩ := ha.1 h4p
          rw [hr1] at hml ⊢
          have hc := hrec (el l v).fKids (by omega) (by omega) true (ms ++ [mkM (el l v)]) hml
          have hml2 := hlen (el l v).fKids true (ms ++ [mkM (el l v)]) hml
          obtain ⟨q, hq⟩ : ∃ q, rec (el l v).fKids true (ms ++ [mkM (el l v)]) = q := ⟨_, rfl⟩
          rw [hq] at hc hml2 ⊢
          have e1 : ownS (ms ++ [mkM (el l v)]) = .own (1002, 39) (ms.length + 1) 3 (ms.map aMacro ++ [aMacro (mkM (el l v))]) := by simp [ownS]
          have e2 : gC (ms ++ [mkM (el l v)]) = [((1002, 39), ms.length + 1)] := by simp [gC]
          rw [e1, e2] at hc
          have hu1 : Uni 3 [aMacro (mkM (el l v))] := uni_one rfl rfl
          have hw := wrdR_to (getR (el l v).fAttr (⟨#[97, 114, 103, 115]⟩)).1 (by omega)
          have hdf := defR_to (el l v)
          rw [h2] at hdf
          refine UF (andT.eq_1 ..) ?_
          refine GO (kb h4 (tn 2 (kc (getR_to (el l v).fAttr (⟨#[110, 97, 109, 101]⟩) (by omega)) (tn 7 (kc (getR_to (el l v).fAttr (⟨#[97, 114, 103, 115]⟩) (by omega)) (tn 5 z)))))) (by kernel_rfl) ?_
          refine DR3 (ko (cO hw) (tn 3 (kp hw (tn 4 (kp hu1 (kp (show (ms.length : Nat) = ms.length ∧ Uni 3 [aMacro (mkM (el l v))] ∧ (((ms.map aMacro) : List AV).length + ([aMacro (mkM (el l v))] : List AV).length) * 64 ≤ 140737488355328 from ⟨rfl, hu1, by simp; omega⟩) (tn 1 z))))))) (by kernel_rfl) (by kernel_rfl) (by kernel_rfl) ?_
          have hk : ∀ c : Bool, (q.2 != 0) = c → cond (q.2 != 0) q (tbF rec false (l.drop (v + 1)) q.1) = cond c q (tbF rec false (l.drop (v + 1)) q.1) := fun c h => by rw [h]
          by_cases h5 : q.2 = 0
          · have h6 : (q.2 != 0) = false := by rw [h5]; rfl
            rw [tupS_ok h5] at hc
            refine DR3 (tn 4 (ko (.b false) (kp ff (tn 1 (ko (.b false) (kp ff (ko (cO hdf) (kp hdf (tn 1 (ko (.b false) (kp ff (tn 1 (ko (cO hc) (kp hc (kp (show (ms.length + 1 : Nat) = ms.length + 1 ∧ True from ⟨rfl, trivial⟩) (tn 7 z)))))))))))))))) (by kernel_rfl) (by kernel_rfl) (by kernel_rfl) ?_
            refine UF (hk _ h6) ?_
            refine GO (kb h6 (tn 2 (kn hwr (tn 1 z)))) (by kernel_rfl) ?_
            exact AG ⟨v + 1, q.1, by omega, hml2, by omega, rfl, rfl⟩ (WK (by kernel_rfl)) (by kernel_rfl) (Nat.lt_succ_self _)
          · have h6 : (q.2 != 0) = true := by rw [bne_iff_ne]; exact h5
            rw [tupS_bad h5] at hc
            refine DR3 (tn 4 (ko (.b false) (kp ff (tn 1 (ko (.b false) (kp ff (ko (cO hdf) (kp hdf (tn 1 (ko (.b false) (kp ff (tn 1 (ko (cO hc) (kp hc (kp (show (ms.length + 1 : Nat) = ms.length + 1 ∧ True from ⟨rfl, trivial⟩) (tn 7 z)))))))))))))))) (by kernel_rfl) (by kernel_rfl) (by kernel_rfl) ?_
            refine UF (hk _ h6) ?_
            refine GO (kb h6 (tn 3 z)) (by kernel_rfl) ?_
            refine OUT z (by kernel_rfl) ?_
            exact ENt (badT q) q.1.length (by kernel_rfl) (tupS_bad h5).symm (by kernel_rfl) rfl rfl
    · cases ins with
      | true =>
        have hc := hrec (el l v).fKids (by omega) (by omega) true ms hm
        have hml2 := hlen (el l v).fKids true ms hm
        obtain ⟨q, hq⟩ : ∃ q, rec (el l v).fKids true ms = q := ⟨_, rfl⟩
        rw [hq] at hc hml2 ⊢
        refine UF (andT.eq_1 ..) ?_
        refine GO (kb h2 z) (by kernel_rfl) ?_
        have hk : ∀ c : Bool, (q.2 != 0) = c → cond (q.2 != 0) q (tbF rec true (l.drop (v + 1)) q.1) = cond c q (tbF rec true (l.drop (v + 1)) q.1) := fun c h => by rw [h]
        by_cases h5 : q.2 = 0
        · have h6 : (q.2 != 0) = false := by rw [h5]; rfl
          rw [tupS_ok h5] at hc
          refine DR3 (tn 4 (ko (.b true) (kp tt (ko (.b true) (kp tt (ko (.b true) (kp tt (tn 1 (ko (cO hc) (kp hc (kp (show (ms.length : Nat) = ms.length ∧ True from ⟨rfl, trivial⟩) (tn 7 z)))))))))))) (by kernel_rfl) (by kernel_rfl) (by kernel_rfl) ?_
          refine UF (hk _ h6) ?_
          refine GO (kb h6 (tn 2 (kn hwr (tn 1 z)))) (by kernel_rfl) ?_
          exact AG ⟨v + 1, q.1, by omega, hml2, by omega, rfl, rfl⟩ (WK (by kernel_rfl)) (by kernel_rfl) (Nat.lt_succ_self _)
        · have h6 : (q.2 != 0) = true := by rw [bne_iff_ne]; exact h5
          rw [tupS_bad h5] at hc
          refine DR3 (tn 4 (ko (.b true) (kp tt (ko (.b true) (kp tt (ko (.b true) (kp tt (tn 1 (ko (cO hc) (kp hc (kp (show (ms.length : Nat) = ms.length ∧ True from ⟨rfl, trivial⟩) (tn 7 z)))))))))))) (by kernel_rfl) (by kernel_rfl) (by kernel_rfl) ?_
          refine UF (hk _ h6) ?_
          refine GO (kb h6 (tn 3 z)) (by kernel_rfl) ?_
          refine OUT z (by kernel_rfl) ?_
          exact ENt (badT q) q.1.length (by kernel_rfl) (tupS_bad h5).symm (by kernel_rfl) rfl rfl
      | false =>
        have hc := hrec (el l v).fKids (by omega) (by omega) false ms hm
        have hml2 := hlen (el l v).fKids false ms hm
        obtain ⟨q, hq⟩ : ∃ q, rec (el l v).fKids false ms = q := ⟨_, rfl⟩
        rw [hq] at hc hml2 ⊢
        have hdf := defR_to (el l v)
        rw [h2] at hdf
        refine UF (andT.eq_1 ..) ?_
        refine GO (kb h2 z) (by kernel_rfl) ?_
        have hk : ∀ c : Bool, (q.2 != 0) = c → cond (q.2 != 0) q (tbF rec false (l.drop (v + 1)) q.1) = cond c q (tbF rec false (l.drop (v + 1)) q.1) := fun c h => by rw [h]
        by_cases h5 : q.2 = 0
        · have h6 : (q.2 != 0) = false := by rw [h5]; rfl
          rw [tupS_ok h5] at hc
          refine DR3 (tn 4 (ko (.b false) (kp ff (tn 1 (ko (.b false) (kp ff (ko (cO hdf) (kp hdf (tn 1 (ko (.b false) (kp ff (tn 1 (ko (cO hc) (kp hc (kp (show (ms.length : Nat) = ms.length ∧ True from ⟨rfl, trivial⟩) (tn 7 z)))))))))))))))) (by kernel_rfl) (by kernel_rfl) (by kernel_rfl) ?_
          refine UF (hk _ h6) ?_
          refine GO (kb h6 (tn 2 (kn hwr (tn 1 z)))) (by kernel_rfl) ?_
          exact AG ⟨v + 1, q.1, by omega, hml2, by omega, rfl, rfl⟩ (WK (by kernel_rfl)) (by kernel_rfl) (Nat.lt_succ_self _)
        · have h6 : (q.2 != 0) = true := by rw [bne_iff_ne]; exact h5
          rw [tupS_bad h5] at hc
          refine DR3 (tn 4 (ko (.b false) (kp ff (tn 1 (ko (.b false) (kp ff (ko (cO hdf) (kp hdf (tn 1 (ko (.b false) (kp ff (tn 1 (ko (cO hc) (kp hc (kp (show (ms.length : Nat) = ms.length ∧ True from ⟨rfl, trivial⟩) (tn 7 z)))))))))))))))) (by kernel_rfl) (by kernel_rfl) (by kernel_rfl) ?_
          refine UF (hk _ h6) ?_
          refine GO (kb h6 (tn 3 z)) (by kernel_rfl) ?_
          refine OUT z (by kernel_rfl) ?_
          exact ENt (badT q) q.1.length (by kernel_rfl) (tupS_bad h5).symm (by kernel_rfl) rfl rfl
  · have hd : decide ((((v : Nat) : Int) : Int) < ((lenM aBlock l : Nat) : Int)) = false := dF (by omega)
    rw [List.drop_eq_nil_of_le (by omega)]
    refine UF (tbF.eq_1 ..) ?_
    refine GO (kb hd z) (by kernel_rfl) ?_
    refine OUT (tn 3 z) (by kernel_rfl) ?_
    exact ENt (okT (ms, 0)) ms.length (by kernel_rfl) rfl (by kernel_rfl) rfl rfl
end Go.Proofs.YtcdfhagcchmnhaaGreatDoor
namespace Go.Eng
variable {P : Program}
theorem ev_same {a : Act} {d : Nat} {v : Value} (h : d < a.tmps.size) : (a.put (some d) v).eval (.tmp d) = v := by
  simp only [Act.eval, Act.put, Array.getD_eq_getD_getElem?]
  rw [Array.getElem?_setIfInBounds_self_of_lt h]; rfl
theorem ev_other {a : Act} {d t : Nat} {v : Value} (h : t ≠ d) : (a.put (some d) v).eval (.tmp t) = a.eval (.tmp t) := by
  simp only [Act.eval, Act.put, Array.getD_eq_getD_getElem?]
  rw [Array.getElem?_setIfInBounds_ne (Ne.symm h)]
def colZ : Value := .agg #[.slice none 0 0, .map none]
theorem WO_col {ops : Array Oper} {o1 o2 o3 : Oper} {rest : List Oper} {Q : St → Prop} {S : St} {t m d1 d2 b bt : Nat}
    (ho1 : o1.op = .build t #[(1, .tmp m)]) (hd1 : o1.dst = some d1) (hg1 : o1.guard = none) (ho2 : o2.op = .alloc t) (hd2 : o2.dst = some d2) (hg2 : o2.guard = none) (ho3 : o3.op = .store t (.tmp d2) (.tmp d1)) (hd3 : o3.dst = none) (hg3 : o3.guard = none)
    (hi : tInfo P t = some (2, bt, some colZ)) (hpl : tPlaces P t = some [(0, 1), (1, 1)]) (hm : S.fr[m]? = some (.mp b)) (hm1 : m ≠ d1) (hm2 : m ≠ d2) (h12 : d1 ≠ d2) (hl1 : d1 < S.fr.length) (hl2 : d2 < S.fr.length) (hid : d2 < 1000) (hn : (S.put (some d1) .junk).names d2 = false)
    (h : WO P ops rest Q ((((S.put (some d1) .junk).addBox d2 (.cells t (zeroCells colZ))).put (some d2) (.ptr d2 0)).setBox d2 (.cells t [.nil, .mp b]))) : WO P ops (o1 :: o2 :: o3 :: rest) Q S := by
  intro more Q' G w a hr hq
  have hsz : a.tmps.size = S.fr.length := hr.size.symm
  obtain ⟨blk, hb1, hb2⟩ := hr.fr m _ hm
  have em : a.eval (.tmp m) = .map (some blk) := hb2
  have x1 : (execOp a.eval o1).run P w = .ok (.value (.agg #[.slice none 0 0, .map (some blk)])) w := by
    unfold tPlaces at hpl
    split at hpl
    · rename_i fs hu
      have hmm := run_places w fs.toList _ hpl
      have hm2 : (fs.mapM (fun f => do pure (f.offset, ← sizeOf f.type)) : Sem (Array (Nat × Nat))).run P w = .ok #[(0, 1), (1, 1)] w := by
        rw [Array.mapM_eq_mapM_toList]
        simp only [Sem.run_map, hmm, Result.andThen_ok]
      simp only [bind_pure_comp] at hm2
      have hf : Instr.fill (fun i : Nat => (#[(0, 1), (1, 1)] : Array (Nat × Nat))[i]?) #[.slice none 0 0, .map none] [(1, .map (some blk))] = some #[.slice none 0 0, .map (some blk)] := rfl
      simp [execOp, ho1, Instr.build, run_zeroValue' hi, run_underlying' hu, hm2, em, colZ]
      rfl
    · simp at hpl
  simp only [List.cons_append, wpList]
  rw [if_pos (wanted_none hg1 a)]
  refine .inl ?_
  unfold Oper.wp
  rw [x1, Oper.upon_value, hd1]
  have hr1 : Rel G w (S.put (some d1) .junk) (a.put (some d1) (.agg #[.slice none 0 0, .map (some blk)])) := hr.put (some d1) trivial
  have em1 : (a.put (some d1) (.agg #[.slice none 0 0, .map (some blk)])).eval (.tmp m) = .map (some blk) := by rw [ev_other hm1, em]
  have ed1 : (a.put (some d1) (.agg #[.slice none 0 0, .map (some blk)])).eval (.tmp d1) = .agg #[.slice none 0 0, .map (some blk)] := ev_same (by omega)
  have hs1 : (a.put (some d1) (.agg #[.slice none 0 0, .map (some blk)])).tmps.size = S.fr.length := by simp [Act.put, hsz]
  generalize a.put (some d1) (.agg #[.slice none 0 0, .map (some blk)]) = a1 at hr1 em1 ed1 hs1 ⊢
  rw [if_pos (wanted_none hg2 _)]
  refine .inl ?_
  try unfold Oper.wp
  obtain ⟨e1, e2, e3⟩ := hr1.newBox hn t (RepSs_const colZ.cells.toList) (fun s hs => by simp only [List.mem_map] at hs; obtain ⟨v, _, rfl⟩ := hs; exact const_names d2 v) (by intro x hx; simp [colZ, Value.cells] at hx; rcases hx with rfl | rfl <;> rfl)
  have x2 : (execOp a1.eval o2).run P w = .ok (.value (.pointer (some ⟨w.heap.size, 0, none⟩))) (w.alloc (.cells colZ.cells.toList.toArray t)) := by
    simp [execOp, ho2, Instr.alloc, run_zeroValue' hi, newVar, newRow]
  rw [x2, Oper.upon_value, hd2]
  have hr2 := e2.put (some d2) e3
  have em2 : (a1.put (some d2) (.pointer (some ⟨w.heap.size, 0, none⟩))).eval (.tmp m) = .map (some blk) := by rw [ev_other hm2, em1]
  have ed2 : (a1.put (some d2) (.pointer (some ⟨w.heap.size, 0, none⟩))).eval (.tmp d1) = .agg #[.slice none 0 0, .map (some blk)] := by rw [ev_other h12, ed1]
  have ep2 : (a1.put (some d2) (.pointer (some ⟨w.heap.size, 0, none⟩))).eval (.tmp d2) = .pointer (some ⟨w.heap.size, 0, none⟩) := ev_same (by omega)
  generalize a1.put (some d2) (.pointer (some ⟨w.heap.size, 0, none⟩)) = a2 at hr2 em2 ed2 ep2 ⊢
  have hmf : (((S.put (some d1) .junk).addBox d2 (.cells t (zeroCells colZ))).put (some d2) (.ptr d2 0)).fr[m]? = some (.mp b) := by
    simp only [St.put, St.addBox]
    rw [List.getElem?_set_ne (Ne.symm hm2), List.getElem?_set_ne (Ne.symm hm1)]; exact hm
  obtain ⟨blk2, hc1, hc2⟩ := hr2.fr m _ hmf
  have hc3 : blk2 = blk := by
    have : a2.eval (.tmp m) = .map (some blk2) := hc2
    rw [em2] at this
    cases this; rfl
  subst hc3
  have hlk : (((S.put (some d1) .junk).addBox d2 (.cells t (zeroCells colZ))).put (some d2) (.ptr d2 0)).bx.lookup d2 = some (.cells t (zeroCells colZ)) := by
    simp [St.put, St.addBox, List.lookup]
  obtain ⟨w3, q1, q2, q3⟩ := hr2.storeBox hlk (blk := w.heap.size) (by simp [Gh.bind]) 0 (xs := [.nil, .mp b]) (vs := [.slice none 0 0, .map (some blk2)]) ⟨_, _, rfl, rfl, ⟨_, _, rfl, ⟨blk2, hc1, rfl⟩, rfl⟩⟩ (by intro x hx; simp at hx; rcases hx with rfl | rfl <;> rfl) (by simp [zeroCells, colZ, Value.cells])
  rw [if_pos (wanted_none hg3 _)]
  refine .inl ?_
  try unfold Oper.wp
  have x3 : (execOp a2.eval o3).run P (w.alloc (.cells colZ.cells.toList.toArray t)) = .ok .skip w3 := by
    have hW : ∀ W : World, (storeCells ⟨w.heap.size, 0, none⟩ [.slice none 0 0, .map (some blk2)]).run P W = .ok () w3 → (execOp a2.eval o3).run P W = .ok .skip w3 := fun W hW => by
      simp [execOp, ho3, ep2, ed2, Instr.storeAt, Instr.sureAddr, storeVar, run_sizeOf' hi, Value.cells, hW]
    exact hW _ (q1 P)
  rw [x3, Oper.upon_skip, hd3]
  exact h more Q' _ w3 _ q3 (fun S' G2 a2 w4 p1 p2 p3 p4 => hq S' G2 a2 w4 p1 ((e1.trans q2).trans p2) p3 (fun i hi' => (p4 i hi').trans (by simp only [Gh.bind]; rw [if_neg (by intro h; simp only [Prod.mk.injEq] at h; omega)])))
end Go.Eng
namespace Go.Proofs.YtcdfhagcchmnhaaGreatDoor
open Go Go.Eng
def tbD (d : DDoc) : List DMacro × Int := tbN (wl wBlock d.fBlocks + 1) d.fBlocks false []
def tabD (d : DDoc) : List DMacro × Int := cond ((tbD d).2 == 0) ((tbD d).1, 0) ([], (tbD d).2)
theorem tbl_n : ∀ (n : Nat) (l : List DBlock), wl wBlock l < n → wl wBlock l ≤ 1073741824 → ∀ (ins : Bool) (ms : List DMacro), ms.length ≤ 64 →
    CallTo Tryz.prog 22 [jL (l.map aBlock), jB ins, ownS ms] [] (gC ms) (tupS (tbN n l ins ms)) [] (gC (tbN n l ins ms).1)
  | 0, l, h, _, _, _, _ => by omega
  | n + 1, l, h, hl, ins, ms, hm => tbl_st (tbN n) (tbN_len n) l hl ins ms hm (fun l' h1 h2 ins ms h3 => tbl_n n l' (by omega) h2 ins ms h3)
theorem own_nil {G : Gh} {w : World} {u : Value} (hg : G.gen (1002, 39) = 0) (h : RepS G w .nil u) : RepS G w (ownS []) u := by
  simp only [RepS] at h
  subst h
  exact ⟨by decide, by rw [hg]; exact Nat.le_refl _, none, 0, [], rfl, by simp [RepL], by simp, by simp, by simp, by simp, .inl (by simp [vcells]), fun _ => .inl ⟨rfl, rfl⟩⟩
theorem tbl_nil (l : List DBlock) (hl : wl wBlock l ≤ 1073741824) : CallTo Tryz.prog 22 [jL (l.map aBlock), jB false, .nil] [] (gC []) (tupS (tbN (wl wBlock l + 1) l false [])) [] (gC (tbN (wl wBlock l + 1) l false []).1) := by
  have h := tbl_n (wl wBlock l + 1) l (Nat.lt_succ_self _) hl false [] (by simp)
  refine ⟨h.1, fun G w vs hw hr hbr hgr => h.2 G w vs hw ?_ hbr hgr⟩
  obtain ⟨u1, l1, rfl, k1, hr⟩ := hr
  obtain ⟨u2, l2, rfl, k2, hr⟩ := hr
  obtain ⟨u3, l3, rfl, k3, hr⟩ := hr
  exact ⟨u1, _, rfl, k1, u2, _, rfl, k2, u3, _, rfl, own_nil (hgr ((1002, 39), 0) (by simp [gC])) k3, hr⟩
def encD (r : List DMacro × Int) : SV := .av (.tup [.sl (r.1.map aMacro), vI r.2])
set_option maxRecDepth 100000 in
set_option maxHeartbeats 4000000 in
theorem tabR_to (d : DDoc) (hd : wDoc d ≤ 1073741824) : CallTo Tryz.prog 8 [.av (cDoc d)] [] [] (encD (tabD d)) [] [] := by
  have hw := wDoc_eq d
  have hc := tbl_nil d.fBlocks (by omega)
  obtain ⟨q, hq⟩ : ∃ q, tbN (wl wBlock d.fBlocks + 1) d.fBlocks false [] = q := ⟨_, rfl⟩
  have ht : tabD d = cond (q.2 == 0) (q.1, 0) ([], q.2) := by rw [tabD, tbD, hq]
  rw [hq] at hc
  refine BEG encD (tabD d) Tryz.func8 (by kernel_rfl) ?_
  by_cases h5 : q.2 = 0
  · have e : okT q = okT (q.1, 0) := by rw [okT, okT, h5]
    rw [tupS_ok h5, e] at hc
    refine UF (M' := (q.1, 0)) (by rw [ht, show (q.2 == 0) = true by rw [beq_iff_eq]; exact h5]; rfl) ?_
    refine GO (tn 5 (kg hc (show (0 : Nat) = 0 ∧ True from ⟨rfl, trivial⟩) (tn 4 z))) (by kernel_rfl) ?_
    exact EN (by kernel_rfl)
  · rw [tupS_bad h5] at hc
    refine UF (M' := ([], q.2)) (by rw [ht, show (q.2 == 0) = false by rw [beq_eq_false_iff_ne]; exact h5]; rfl) ?_
    refine GO (tn 5 (kg hc (show (0 : Nat) = 0 ∧ True from ⟨rfl, trivial⟩) (tn 4 z))) (by kernel_rfl) ?_
    exact EN (by kernel_rfl)
def sK (κ : Key) : Key := if κ = (1000, 0) then (4, 0) else if κ = (4, 0) then (1000, 0) else if κ = (1001, 0) then (6, 0) else if κ = (6, 0) then (1001, 0) else if κ = (1002, 39) then (4, 39) else if κ = (4, 39) then (1002, 39) else κ
theorem sK_inv : Inv sK := by
  refine ⟨fun κ => ?_, fun κ => ?_⟩
  · unfold sK
    by_cases h1 : κ = (1000, 0)
    · subst h1; decide
    by_cases h2 : κ = (4, 0)
    · subst h2; decide
    by_cases h3 : κ = (1001, 0)
    · subst h3; decide
    by_cases h4 : κ = (6, 0)
    · subst h4; decide
    by_cases h7 : κ = (1002, 39)
    · subst h7; decide
    by_cases h8 : κ = (4, 39)
    · subst h8; decide
    simp only [h1, h2, h3, h4, h7, h8, if_false]
  · unfold sK
    repeat' split
    all_goals first | rfl | (rename_i h; rw [h]) | (subst_vars; rfl)
def bxL (ms : List DMacro) : List (Nat × ABox) := [(4, .cells 62 [.own (4, 39) ms.length 3 (ms.map aMacro), .mp 6]), (6, nM ms)]
def gL (ms : List DMacro) : List (Key × Nat) := [((4, 39), ms.length)]
noncomputable def R1 : Array Oper := (regAt 1 (bodyOf Tryz.f7)).getD #[]
noncomputable def o1 (i : Nat) : Oper := R1.getD i (R1.getD 0 default)
def Sa (d : DDoc) : St := sx 16 [(1, .ptr 1 0)] [(1, .cells 25 (sDoc d))] []
def Sb (d : DDoc) : St := sx 16 [(1, .ptr 1 0), (4, .ptr 4 0)] [(4, .cells 62 [.nil, .mp 6]), (6, .map [] []), (1, .cells 25 (sDoc d))] []
set_option maxRecDepth 100000 in
set_option maxHeartbeats 4000000 in
theorem r1 (d : DDoc) : W Tryz.prog (.region 1 R1 false) (fun e S1 => e = .normal ∧ Weak S1 (Sb d)) (Sa d) := by
  refine W_regionO ?_
  rw [show R1.toList = [o1 0, o1 1, o1 2, o1 3] by kernel_rfl]
  refine WO_sound (by kernel_rfl) (sound_makeMap (id := 6) (t := 60) (k := 9) (e := 4) (r := none) (by kernel_rfl) (by kernel_rfl) (by simp) (by decide) (by kernel_rfl)) trivial ?_
  refine WO_col (t := 62) (m := 6) (d1 := 7) (d2 := 4) (b := 6) (bt := 32) (by kernel_rfl) (by kernel_rfl) (by kernel_rfl) (by kernel_rfl) (by kernel_rfl) (by kernel_rfl) (by kernel_rfl) (by kernel_rfl) (by kernel_rfl) (by kernel_rfl) (by kernel_rfl) (by kernel_rfl) (by decide) (by decide) (by decide) (of_decide_eq_true (by kernel_rfl)) (of_decide_eq_true (by kernel_rfl)) (by decide) (by kernel_rfl) ?_
  refine WO_nil rfl ⟨rfl, WK (by kernel_rfl)⟩
set_option maxRecDepth 100000 in
set_option maxHeartbeats 4000000 in
theorem tabP_to (d : DDoc) (hd : wDoc d ≤ 1073741824) : CallTo Tryz.prog 7 [.av (cDoc d)] [] [] (encD (tabD d)) [] [] := by
  have hw := wDoc_eq d
  have hc0 := blk_n (wl wBlock d.fBlocks + 1) d.fBlocks (Nat.lt_succ_self _) (by omega) false [] (by simp)
  obtain ⟨q, hq⟩ : ∃ q, tbN (wl wBlock d.fBlocks + 1) d.fBlocks false [] = q := ⟨_, rfl⟩
  have ht : tabD d = cond (q.2 == 0) (q.1, 0) ([], q.2) := by rw [tabD, tbD, hq]
  rw [hq] at hc0
  have hc1 := CallTo_ren sK_inv hc0
  have hc : CallTo Tryz.prog 21 [.ptr 4 0, jL (d.fBlocks.map aBlock), jB false] (bxL []) (gL []) (jI q.2) (bxL q.1) (gL q.1) := castp (by kernel_rfl) hc1
  refine BEG encD (tabD d) Tryz.func7 (by kernel_rfl) ?_
  refine GO (tn 3 (kq 1 z)) (by kernel_rfl) ?_
  refine NXW (Sb d) (kq 2 z) (by kernel_rfl) ?_ (by kernel_rfl) ?_
  · refine W_weak (S' := Sa d) (WK (by kernel_rfl)) ?_
    exact W_code (c' := .region 1 R1 false) (by kernel_rfl) (r1 d)
  · refine RT [(4, 0, .own (4, 39) 0 3 [])] (ac (show (([] : List AV) = [] ∧ 0 < 39 ∧ (0 : Nat) = 0) from ⟨rfl, by decide, rfl⟩) an) (by kernel_rfl) ?_
    by_cases h5 : q.2 = 0
    · have h6 : (q.2 != 0) = false := by rw [h5]; rfl
      refine UF (M' := (q.1, 0)) (by rw [ht, show (q.2 == 0) = true by rw [beq_iff_eq]; exact h5]; rfl) ?_
      refine GO (tn 2 (kg hc (show (0 : Nat) = 0 ∧ True from ⟨rfl, trivial⟩) (tn 3 (kb h6 (tn 4 z))))) (by kernel_rfl) ?_
      exact EN (by kernel_rfl)
    · have h6 : (q.2 != 0) = true := by rw [bne_iff_ne]; exact h5
      refine UF (M' := ([], q.2)) (by rw [ht, show (q.2 == 0) = false by rw [beq_eq_false_iff_ne]; exact h5]; rfl) ?_
      refine GO (tn 2 (kg hc (show (0 : Nat) = 0 ∧ True from ⟨rfl, trivial⟩) (tn 3 (kb h6 (tn 3 z))))) (by kernel_rfl) ?_
      exact EN (by kernel_rfl)
end Go.Proofs.YtcdfhagcchmnhaaGreatDoor
namespace Go.Proofs.YtcdfhagcchmnhaaGreatDoor
open Go Go.Eng
def OkM (x : DMacro) : Prop := x.fArgs.length ≤ 1073741824 ∧ wl wBlock x.fBody ≤ 1073741824
def OkL (ms : List DMacro) : Prop := ∀ x ∈ ms, OkM x
theorem mkM_ok (b : DBlock) (hb : wBlock b ≤ 1073741824) : OkM (mkM b) := by
  have hw := wBlock_eq b
  have hwa := wAttr_eq b.fAttr
  have hs2 := getR_sz b.fAttr (⟨#[97, 114, 103, 115]⟩)
  have hwl := wrdR_len (getR b.fAttr (⟨#[97, 114, 103, 115]⟩)).1
  refine ⟨?_, ?_⟩
  · show (agB b).length ≤ _
    show (wrdR (getR b.fAttr (⟨#[97, 114, 103, 115]⟩)).1).length ≤ _
    simp only [w1] at hw
    omega
  · show wl wBlock b.fKids ≤ _
    omega
theorem addN_okL {b : DBlock} {ms : List DMacro} (hb : wBlock b ≤ 1073741824) (h : OkL ms) : OkL (addN b ms).1 := by
  obtain ⟨h1, h2⟩ := addN_ok b ms
  by_cases h3 : (addN b ms).2 = 0
  · rw [(h1 h3).1]
    intro x hx
    rcases List.mem_append.1 hx with hx | hx
    · exact h x hx
    · rw [List.mem_singleton] at hx; subst hx; exact mkM_ok b hb
  · rw [h2 h3]; exact h
theorem andT_okL {r : List DMacro × Int} {k : List DMacro → List DMacro × Int} (h : OkL r.1) (hk : ∀ ms, OkL ms → OkL (k ms).1) : OkL (andT r k).1 := by
  unfold andT
  cases (r.2 != 0)
  · exact hk _ h
  · exact h
theorem tbF_okL {rec : List DBlock → Bool → List DMacro → List DMacro × Int} (hr : ∀ l ins ms, wl wBlock l ≤ 1073741824 → OkL ms → OkL (rec l ins ms).1) (ins : Bool) : ∀ (l : List DBlock) (ms : List DMacro), wl wBlock l ≤ 1073741824 → OkL ms → OkL (tbF rec ins l ms).1
  | [], ms, _, h => h
  | b :: l, ms, hw, h => by
    have hb := wBlock_eq b
    simp only [wl] at hw
    rw [tbF]
    cases defR b with
    | false => exact andT_okL (hr _ _ _ (by omega) h) (fun ms h => tbF_okL hr ins l ms (by omega) h)
    | true =>
      cases ins with
      | true => exact h
      | false => exact andT_okL (addN_okL (by omega) h) (fun ms h => andT_okL (hr _ _ _ (by omega) h) (fun ms h => tbF_okL hr false l ms (by omega) h))
theorem tbN_okL : ∀ (n : Nat) (l : List DBlock) (ins : Bool) (ms : List DMacro), wl wBlock l ≤ 1073741824 → OkL ms → OkL (tbN n l ins ms).1
  | 0, _, _, _, _, h => h
  | n + 1, l, ins, ms, hw, h => tbF_okL (tbN_okL n) ins l ms hw h
theorem tabD_okL (d : DDoc) (hd : wDoc d ≤ 1073741824) : OkL (tabD d).1 := by
  have hw := wDoc_eq d
  unfold tabD
  cases ((tbD d).2 == 0)
  · intro x hx; cases hx
  · exact tbN_okL _ _ _ _ (by omega) (by intro x hx; cases hx)
theorem tabD_len (d : DDoc) : (tabD d).1.length ≤ 64 := by
  unfold tabD
  cases ((tbD d).2 == 0)
  · exact Nat.zero_le _
  · exact tbN_len _ _ _ _ (by simp)
theorem tabD_ok (d : DDoc) (hd : wDoc d ≤ 1073741824) : ∀ i, i < (tabD d).1.length → (el (tabD d).1 i).fArgs.length ≤ 1073741824 ∧ wl wBlock (el (tabD d).1 i).fBody ≤ 1073741824 :=
  fun i hi => tabD_okL d hd _ (el_mem hi)
theorem useR_L0_len (l : List DBlock) : ∀ (n : Nat) (acc : List ByteArray) (i : Nat), (useR_L0 l n acc i).length ≤ acc.length + n
  | 0, acc, i => Nat.zero_le _
  | n + 1, acc, i => by
    rw [useR_L0]
    have h1 := useR_L0_len l n (acc ++ ([(el (ilsB l) i).fText])) (i + 1)
    have h2 := useR_L0_len l n acc (i + 1)
    simp only [List.length_append, List.length_cons, List.length_nil] at h1
    refine condP (fun r : List ByteArray => r.length ≤ acc.length + (n + 1)) (fun _ => condP (fun r : List ByteArray => r.length ≤ acc.length + (n + 1)) (fun _ => by omega) (fun _ => by omega)) (fun _ => by omega)
theorem useR_len (l : List DBlock) : (useR l).length ≤ (ilsB l).length + 1 := by
  have := useR_L0_len l ((List.length (ilsB l) - (0)) + 1) [] 0
  simpa [useR] using this
end Go.Proofs.YtcdfhagcchmnhaaGreatDoor
namespace Go.Proofs.YtcdfhagcchmnhaaGreatDoor
open Go Go.Eng
def mtbM (d : DDoc) : Bool := cond ((!smlD d)) (true) (cond (macS ((tabD d).1) ((tabD d).1)) (cond (samS (useR d.fBlocks) (useR d.fBlocks)) (true) (false)) (false))
set_option maxRecDepth 100000 in
set_option maxHeartbeats 4000000 in
theorem mtbM_to (d : DDoc) (hd : wDoc d ≤ 1073741824) : CallTo Tryz.prog 3 [(.av (cDoc d))] [] [] (jB (mtbM d)) [] [] := by
  have hwd := wDoc_eq d
  have hil := ilsB_len d.fBlocks (by omega)
  have hul := useR_len d.fBlocks
  have htl := tabD_len d
  have htk := tabD_ok d hd
  refine BEG (fun r : Bool => (jB (r))) (mtbM d) Tryz.func3 (by kernel_rfl) ?_
  refine UF (mtbM.eq_1 ..) ?_
  refine GO (tn 3 (kc (smlD_to d (by first | assumption | omega | decide | (simp; done) | (simp; omega))) (tn 1 z))) (by kernel_rfl) ?_
  refine CS (fun h1 => ?_) (fun h1 => ?_)
  · have h1n := nott h1
    refine GO (kb h1 (kc awake_to (tn 1 z))) (by kernel_rfl) ?_
    exact EN (by kernel_rfl)
  · have h1n := notf h1
    refine GO (kb h1 (tn 1 (kc (tabP_to d (by first | assumption | omega | decide | (simp; done) | (simp; omega))) (tn 6 (kc (tabR_to d (by first | assumption | omega | decide | (simp; done) | (simp; omega))) (tn 5 z)))))) (by kernel_rfl) ?_
    refine CS (fun h2 => ?_) (fun h2 => ?_)
    · refine CS (fun h3 => ?_) (fun h3 => ?_)
      · have d4 := (macS_to ((tabD d).1) ((tabD d).1) (by first | assumption | omega | decide | (simp; done) | (simp; omega)) (by first | assumption | omega | decide | (simp; done) | (simp; omega)) (by first | assumption | omega | decide | (simp; done) | (simp; omega)) (by first | assumption | omega | decide | (simp; done) | (simp; omega)))
        have d5 := (uses_to d.fBlocks (by first | assumption | omega | decide | (simp; done) | (simp; omega)))
        have d6 := (useR_to d.fBlocks (by first | assumption | omega | decide | (simp; done) | (simp; omega)))
        have d7 := (samS_to (useR d.fBlocks) (useR d.fBlocks) (by first | assumption | omega | decide | (simp; done) | (simp; omega)) (by first | assumption | omega | decide | (simp; done) | (simp; omega)))
        have d8 := awake_to
        refine DR3 (tn 4 (ko (.b true) (kp (show (((tabD d).2 : Int) == (tabD d).2) = true from (beq_self_eq_true _)) (tn 1 (ko (.b true) (kp (show (((tabD d).2 : Int) == (tabD d).2) = true from (beq_self_eq_true _)) (tn 1 (ko (.b true) (kp (show (((tabD d).2 : Int) == (tabD d).2) = true from (beq_self_eq_true _)) (ko (cO d4) (kp d4 (tn 1 (ko (.b true) (kp (show (((tabD d).2 : Int) == (tabD d).2) = true from (beq_self_eq_true _)) (tn 1 (ko (.b true) (kp (show macS ((tabD d).1) ((tabD d).1) = true from h2) (tn 1 (ko (.b true) (kp (show macS ((tabD d).1) ((tabD d).1) = true from h2) (tn 1 (ko (.b true) (kp (show macS ((tabD d).1) ((tabD d).1) = true from h2) (ko (cO d5) (kp d5 (tn 1 (ko (.b true) (kp (show macS ((tabD d).1) ((tabD d).1) = true from h2) (tn 1 (ko (.b true) (kp (show macS ((tabD d).1) ((tabD d).1) = true from h2) (tn 1 (ko (.b true) (kp (show macS ((tabD d).1) ((tabD d).1) = true from h2) (ko (cO d6) (kp d6 (tn 1 (ko (.b true) (kp (show macS ((tabD d).1) ((tabD d).1) = true from h2) (ko (cO d7) (kp d7 (tn 1 (ko (.b true) (kp h2 (tn 1 (ko (.b true) (kp (show samS (useR d.fBlocks) (useR d.fBlocks) = true from h3) (ko (cO d8) (kp d8 (tn 1 (ko (.b true) (kp h3 (tn 1 z))))))))))))))))))))))))))))))))))))))))))))))))))))) (by kernel_rfl) (by kernel_rfl) (by kernel_rfl) ?_
        exact EN (by kernel_rfl)
      · have d9 := (macS_to ((tabD d).1) ((tabD d).1) (by first | assumption | omega | decide | (simp; done) | (simp; omega)) (by first | assumption | omega | decide | (simp; done) | (simp; omega)) (by first | assumption | omega | decide | (simp; done) | (simp; omega)) (by first | assumption | omega | decide | (simp; done) | (simp; omega)))
        have d10 := (uses_to d.fBlocks (by first | assumption | omega | decide | (simp; done) | (simp; omega)))
        have d11 := (useR_to d.fBlocks (by first | assumption | omega | decide | (simp; done) | (simp; omega)))
        have d12 := (samS_to (useR d.fBlocks) (useR d.fBlocks) (by first | assumption | omega | decide | (simp; done) | (simp; omega)) (by first | assumption | omega | decide | (simp; done) | (simp; omega)))
        refine DR3 (tn 4 (ko (.b true) (kp (show (((tabD d).2 : Int) == (tabD d).2) = true from (beq_self_eq_true _)) (tn 1 (ko (.b true) (kp (show (((tabD d).2 : Int) == (tabD d).2) = true from (beq_self_eq_true _)) (tn 1 (ko (.b true) (kp (show (((tabD d).2 : Int) == (tabD d).2) = true from (beq_self_eq_true _)) (ko (cO d9) (kp d9 (tn 1 (ko (.b true) (kp (show (((tabD d).2 : Int) == (tabD d).2) = true from (beq_self_eq_true _)) (tn 1 (ko (.b true) (kp (show macS ((tabD d).1) ((tabD d).1) = true from h2) (tn 1 (ko (.b true) (kp (show macS ((tabD d).1) ((tabD d).1) = true from h2) (tn 1 (ko (.b true) (kp (show macS ((tabD d).1) ((tabD d).1) = true from h2) (ko (cO d10) (kp d10 (tn 1 (ko (.b true) (kp (show macS ((tabD d).1) ((tabD d).1) = true from h2) (tn 1 (ko (.b true) (kp (show macS ((tabD d).1) ((tabD d).1) = true from h2) (tn 1 (ko (.b true) (kp (show macS ((tabD d).1) ((tabD d).1) = true from h2) (ko (cO d11) (kp d11 (tn 1 (ko (.b true) (kp (show macS ((tabD d).1) ((tabD d).1) = true from h2) (ko (cO d12) (kp d12 (tn 1 (ko (.b true) (kp h2 (tn 1 (ko (.b false) (kp (show samS (useR d.fBlocks) (useR d.fBlocks) = false from h3) (ko (.b false) (kp h3 (tn 1 z)))))))))))))))))))))))))))))))))))))))))))))))))) (by kernel_rfl) (by kernel_rfl) (by kernel_rfl) ?_
        exact EN (by kernel_rfl)
    · have d13 := (macS_to ((tabD d).1) ((tabD d).1) (by first | assumption | omega | decide | (simp; done) | (simp; omega)) (by first | assumption | omega | decide | (simp; done) | (simp; omega)) (by first | assumption | omega | decide | (simp; done) | (simp; omega)) (by first | assumption | omega | decide | (simp; done) | (simp; omega)))
      refine DR3 (tn 4 (ko (.b true) (kp (show (((tabD d).2 : Int) == (tabD d).2) = true from (beq_self_eq_true _)) (tn 1 (ko (.b true) (kp (show (((tabD d).2 : Int) == (tabD d).2) = true from (beq_self_eq_true _)) (tn 1 (ko (.b true) (kp (show (((tabD d).2 : Int) == (tabD d).2) = true from (beq_self_eq_true _)) (ko (cO d13) (kp d13 (tn 1 (ko (.b true) (kp (show (((tabD d).2 : Int) == (tabD d).2) = true from (beq_self_eq_true _)) (tn 1 (ko (.b false) (kp (show macS ((tabD d).1) ((tabD d).1) = false from h2) (ko (.b false) (kp (show macS ((tabD d).1) ((tabD d).1) = false from h2) (ko (.b false) (kp (show macS ((tabD d).1) ((tabD d).1) = false from h2) (ko (.b false) (kp (show macS ((tabD d).1) ((tabD d).1) = false from h2) (ko (.b false) (kp (show macS ((tabD d).1) ((tabD d).1) = false from h2) (ko (.b false) (kp (show macS ((tabD d).1) ((tabD d).1) = false from h2) (ko (.b false) (kp (show macS ((tabD d).1) ((tabD d).1) = false from h2) (ko (.b false) (kp h2 (tn 1 (ko (.b false) (kp (show false = false from rfl) (ko (.b false) (kp ff (tn 1 z))))))))))))))))))))))))))))))))))))) (by kernel_rfl) (by kernel_rfl) (by kernel_rfl) ?_
      exact EN (by kernel_rfl)
end Go.Proofs.YtcdfhagcchmnhaaGreatDoor
namespace Go.Proofs.YtcdfhagcchmnhaaGreatDoor
open Go Go.Eng
theorem eqs_self (s : ByteArray) : eqs s s = true := by simp [eqs]
/-- A loop that never leaves. -/
theorem loop_true {α : Type} [Inhabited α] (f : α → AV) (l : List α) (F : Nat → Nat → Bool) (hF : ∀ n i, i < l.length → F (n + 1) i = cond (decide ((((i : Nat) : Int) : Int) < ((lenM f l : Nat) : Int))) (F n (i + 1)) true)
    (hz : ∀ n i, ¬ i < l.length → F (n + 1) i = true) : ∀ (n i : Nat), l.length - i < n → F n i = true
  | 0, i, h => by omega
  | n + 1, i, h => by
    have hl := lenM_eq f l
    by_cases hi : i < l.length
    · rw [hF n i hi, dT (by omega), cond_true, loop_true f l F hF hz n _ (by omega)]
    · exact hz n i hi
theorem bne_self (a : Int) : (a != a) = false := by simp
theorem textsB_self (a : List ByteArray) : textsB a a = true := by
  unfold textsB
  rw [bne_self, cond_false]
  refine loop_true strAV a (textsB_L0 a a) (fun n i hi => ?_) (fun n i hi => ?_) _ _ (by omega)
  · rw [textsB_L0, eqs_self]; rfl
  · have hl := lenM_eq strAV a
    rw [textsB_L0, dF (by omega)]; rfl
theorem pairsB_self (a : List DPair) : pairsB a a = true := by
  unfold pairsB
  rw [bne_self, cond_false]
  refine loop_true aPair a (pairsB_L0 a a) (fun n i hi => ?_) (fun n i hi => ?_) _ _ (by omega)
  · rw [pairsB_L0, eqs_self, eqs_self]; rfl
  · have hl := lenM_eq aPair a
    rw [pairsB_L0, dF (by omega)]; rfl
theorem atsB_self (a : DAttr) : atsB a a = true := by unfold atsB; rw [eqs_self, textsB_self, pairsB_self]; rfl
theorem samLS_self (rec : List DInline → List DInline → Bool) (a : List DInline) (hr : ∀ x ∈ a, rec x.fKids x.fKids = true) : samLS rec a a = true := by
  unfold samLS
  rw [bne_self, cond_false]
  have hin : ∀ (v5 : Nat) (k0 : Nat → Bool) (n w : Nat), (el a v5).fCites.length - w < n → samLS_L1 rec a a v5 k0 n w = k0 (v5 + 1) := by
    intro v5 k0 n
    induction n with
    | zero => intro w h; omega
    | succ n ih =>
      intro w h
      have hl := lenM_eq aCited (el a v5).fCites
      rw [samLS_L1]
      by_cases hi : w < (el a v5).fCites.length
      · rw [dT (by omega), cond_true, eqs_self, eqs_self, eqs_self, beq_self_eq_true, ih _ (by omega)]; rfl
      · rw [dF (by omega)]; rfl
  refine loop_true aInline a (samLS_L0 rec a a) (fun n i hi => ?_) (fun n i hi => ?_) _ _ (by omega)
  · rw [samLS_L0, bne_self, eqs_self, eqs_self, eqs_self, atsB_self, textsB_self, bne_self, hr _ (el_mem hi), hin _ _ _ _ (by omega)]; rfl
  · have hl := lenM_eq aInline a
    rw [samLS_L0, dF (by omega)]; rfl
theorem samLN_self : ∀ (n : Nat) (a : List DInline), wl wInline a < n → samLN n a a = true
  | 0, a, h => by omega
  | n + 1, a, h => by
    rw [samLN]
    refine samLS_self _ a (fun x hx => ?_)
    have h1 := wl_mem (w := wInline) hx
    have h2 := wInline_eq x
    exact samLN_self n x.fKids (by omega)
theorem samL_self (a : List DInline) : samL a a = true := samLN_self _ a (by omega)
theorem samBS_self (rec : List DBlock → List DBlock → Bool) (a : List DBlock) (hr : ∀ x ∈ a, rec x.fKids x.fKids = true) : samBS rec a a = true := by
  unfold samBS
  rw [bne_self, cond_false]
  refine loop_true aBlock a (samBS_L0 rec a a) (fun n i hi => ?_) (fun n i hi => ?_) _ _ (by omega)
  · rw [samBS_L0, bne_self, bne_self, eqs_self, eqs_self, eqs_self, eqs_self, atsB_self, samL_self, hr _ (el_mem hi)]; rfl
  · have hl := lenM_eq aBlock a
    rw [samBS_L0, dF (by omega)]; rfl
theorem samBN_self : ∀ (n : Nat) (a : List DBlock), wl wBlock a < n → samBN n a a = true
  | 0, a, h => by omega
  | n + 1, a, h => by
    rw [samBN]
    refine samBS_self _ a (fun x hx => ?_)
    have h1 := wl_mem (w := wBlock) hx
    have h2 := wBlock_eq x
    exact samBN_self n x.fKids (by omega)
theorem samB_self (a : List DBlock) : samB a a = true := samBN_self _ a (by omega)
theorem samS_self (a : List ByteArray) : samS a a = true := by
  unfold samS
  rw [bne_self, cond_false]
  refine loop_true strAV a (samS_L0 a a) (fun n i hi => ?_) (fun n i hi => ?_) _ _ (by omega)
  · rw [samS_L0, eqs_self]; rfl
  · have hl := lenM_eq strAV a
    rw [samS_L0, dF (by omega)]; rfl
theorem macS_self (a : List DMacro) : macS a a = true := by
  unfold macS
  rw [bne_self, cond_false]
  refine loop_true aMacro a (macS_L0 a a) (fun n i hi => ?_) (fun n i hi => ?_) _ _ (by omega)
  · rw [macS_L0, eqs_self, samS_self, samB_self]; rfl
  · have hl := lenM_eq aMacro a
    rw [macS_L0, dF (by omega)]; rfl
theorem mtbM_true (d : DDoc) : mtbM d = true := by
  unfold mtbM
  rw [macS_self, samS_self]
  cases (!smlD d) <;> rfl
end Go.Proofs.YtcdfhagcchmnhaaGreatDoor
namespace Go.Eng
open Go.ChangeShapes Go.WideShapes Go.ChangeAt Go.RowKit
/-- All that lies in memory stays. -/
def U0 (w : World) (b : Nat) : Nat := match w.heap[b]? with
  | some (.cells arr _ _) => arr.size
  | _ => 0
theorem wf0 (w : World) : Wf ⟨U0 w, fun _ => 0, fun _ => none, fun _ => 0, []⟩ w :=
  ⟨fun κ κ' b h => by simp at h, fun κ b h => by simp at h, fun b hb => by simp only [U0]; rw [Array.getElem?_eq_none hb]⟩
theorem law_calls {P : Program} {f : FuncId} {xs : List AV} (h : CallTo P f (xs.map .av) [] [] (jB true) [] []) {W : World} {vs : List Value} (hr : RepL (U0 W) W xs vs) :
    Calls P f vs.toArray W (fun e W' => e = .returned (.bool true) ∧ Below W.heap.size W W') := by
  refine (h.2 ⟨U0 W, fun _ => 0, fun _ => none, fun _ => 0, []⟩ W vs (wf0 W) (RepSs_av hr) (by simp) (by simp)).mono ?_
  rintro e w' ⟨v, G', rfl, s1, _, s3, _⟩
  simp only [jB, RepS, Rep] at s3
  rw [s3.1]
  exact ⟨rfl, s1.os, s1.toExt.tp, s1.output, s1.size, fun k hk => (s1.stay k hk (by simp)).1⟩
theorem cell_U0 {w : World} {b o : Nat} {v : Value} (h : w.cell? ⟨b, o, none⟩ = some v) : o < U0 w b := by
  unfold U0
  simp only [World.cell?] at h
  split at h
  · rename_i arr e fz hb
    rw [hb]
    simp only [Option.isSome_none, Bool.false_eq_true, if_false] at h
    rcases Nat.lt_or_ge o arr.size with h1 | h1
    · exact h1
    · simp [Array.getElem?_eq_none h1] at h
  · simp at h
theorem RepL_strs {U : Nat → Nat} {w : World} : ∀ l : List ByteArray, RepL U w (l.map strAV) (l.map Value.string)
  | [] => by simp [RepL]
  | s :: l => by
    simp only [List.map_cons, RepL]
    exact ⟨_, _, rfl, by simp only [strAV, Rep]; exact ⟨trivial, rfl⟩, RepL_strs l⟩
end Go.Eng
namespace Go.Proofs.YtcdfhagcchmnhaaGreatDoor
open Go Go.Eng Go.ChangeShapes Go.WideShapes Go.ChangeAt Go.RowKit
section
variable {H : Type} (enc : TypeId × Value → H) (P : Program) (w : World) (sp : Nat → Bool) (held : Bool)
/-- What is read of type t with so much fuel has such cells. -/
def Rd (n : Nat) (t : TypeId) {α : Type} (f : α → List AV) (wt : α → Nat) : Prop :=
  ∀ cs x, DataW.trod enc P w 0 sp held n t cs = some x → ∃ a : α, RepL (U0 w) w (f a) cs ∧ wt a ≤ Rows.uptoBulk x.1 ∧ ∀ v ∈ cs, v.oneCell' = true
variable {enc P w sp held}
theorem Rd_map {n : Nat} {t : TypeId} {α β : Type} {f : α → List AV} {wt : α → Nat} {f' : β → List AV} {wt' : β → Nat} (c : α → β) (h : Rd enc P w sp held n t f wt) (hf : ∀ a, f' (c a) = f a) (hw : ∀ a, wt' (c a) ≤ wt a) : Rd enc P w sp held n t f' wt' :=
  fun cs x hx => by
    obtain ⟨a, h1, h2, h3⟩ := h cs x hx
    exact ⟨c a, by rw [hf]; exact h1, Nat.le_trans (hw a) h2, h3⟩
theorem Rd_int {t : TypeId} (ht : P.underlying t = some (.int .i64)) (n : Nat) : Rd enc P w sp held n t (fun i : Int => [vI i]) w1 := fun cs x h => by
  obtain ⟨m, rfl, rfl, _⟩ := DataW.trod_int ht h
  exact ⟨m, by simp only [RepL, Rep]; exact ⟨_, _, rfl, ⟨rfl, rfl⟩, rfl⟩, by simp [w1, Rows.uptoBulk], by intro v hv; simp at hv; subst hv; rfl⟩
theorem Rd_bool {t : TypeId} (ht : P.underlying t = some .bool) (n : Nat) : Rd enc P w sp held n t (fun i : Bool => [vB i]) w1 := fun cs x h => by
  obtain ⟨m, rfl, rfl⟩ := DataW.trod_bool ht h
  exact ⟨m, by simp only [RepL, Rep]; exact ⟨_, _, rfl, ⟨rfl, rfl⟩, rfl⟩, by simp [w1, Rows.uptoBulk], by intro v hv; simp at hv; subst hv; rfl⟩
theorem Rd_str {t : TypeId} (ht : P.underlying t = some .string) (n : Nat) : Rd enc P w sp held n t (fun s : ByteArray => [vS s]) wStr := fun cs x h => by
  obtain ⟨s, rfl, rfl, _⟩ := DataW.trod_string ht h
  refine ⟨s, by simp only [RepL, Rep]; exact ⟨_, _, rfl, ⟨rfl, rfl⟩, rfl⟩, ?_, by intro v hv; simp at hv; subst hv; rfl⟩
  have e : s.data.toList.length = s.size := by rw [Array.length_toList]; rfl
  simp only [wStr, Rows.uptoBulk]; omega
theorem add_add (a : Addr) (i j : Nat) : (a.add i).add j = a.add (i + j) := by
  obtain ⟨b, o, s⟩ := a
  unfold Addr.add
  by_cases hi : i = 0
  · subst hi; simp
  · by_cases hj : j = 0
    · subst hj; simp [hi]
    · simp [hi, hj]; omega
theorem cells_get {a : Addr} {n : Nat} {cs : List Value} (h : w.cells? 0 a n = some cs) : cs.length = n ∧ ∀ j, j < n → w.cell? (a.add j) = cs[j]? := by
  unfold World.cells? at h
  rw [if_pos (Nat.zero_le _)] at h
  exact ⟨by simpa using mapM_some_length h, fun j hj => mapM_some_get h j j (by simp [hj])⟩
/-- How an element's cells make one value. -/
def One (sz : Nat) {α : Type} (f : α → List AV) (g : α → AV) : Prop :=
  ∀ (U : Nat → Nat) (w : World) (a : α) (us : List Value), RepL U w (f a) us → us.length = sz → (∀ v ∈ us, v.oneCell' = true) → ∃ u : Value, Rep U w (g a) u ∧ u.cells.toList = us
theorem One_agg {α : Type} {sz : Nat} (f : α → List AV) : One sz f (fun a => .agg (f a)) := fun U w a us h _ h1 => ⟨.agg us.toArray, by simp only [Rep]; exact ⟨_, rfl, by simpa using h, by simpa using h1⟩, by simp [Value.cells]⟩
theorem One_val {α : Type} (g : α → AV) (v : α → Value) (hg : ∀ a, g a = .val (v a)) (hc : ∀ a, (v a).cells = #[v a]) : One 1 (fun a => [g a]) g := fun U w a us h _ h1 => by
  simp only [RepL] at h
  obtain ⟨u, us', rfl, h2, rfl⟩ := h
  refine ⟨u, h2, ?_⟩
  rw [hg] at h2; simp only [Rep] at h2
  rw [h2.1, hc]
theorem slice_go {e : TypeId} {n sz : Nat} {α : Type} {f : α → List AV} {g : α → AV} {wt : α → Nat} (hc : P.cellsOf e = sz) (hR : Rd enc P w sp held n e f wt) (hO : One sz f g) (a : Addr) :
    ∀ (elems : List (DataW H × List MemPlace)) (i0 : Nat), (∀ i, i < elems.length → (w.cells? 0 (a.add ((i0 + i) * sz)) sz).bind (DataW.trod enc P w 0 sp held n e) = elems[i]?) →
      ∃ (l : List α) (es : List Value), RepL (U0 w) w (l.map g) es ∧ l.length = elems.length ∧ (∀ v ∈ es, v.cells.size = sz) ∧ wl wt l ≤ Rows.uptoBulkAll (elems.map (·.1)) ∧
        ∀ j v, (vcells es)[j]? = some v → w.cell? (a.add (i0 * sz + j)) = some v ∧ v.oneCell' = true
  | [], i0, _ => ⟨[], [], by simp [RepL], rfl, by simp, by simp [wl, Rows.uptoBulkAll], by simp [vcells]⟩
  | x :: elems, i0, h => by
    have h0 := h 0 (by simp)
    simp only [Nat.add_zero, List.getElem?_cons_zero, Option.bind_eq_some_iff] at h0
    obtain ⟨cs, hcs, hx⟩ := h0
    obtain ⟨hl, hget⟩ := cells_get hcs
    obtain ⟨y, r1, r2, r3⟩ := hR cs x hx
    obtain ⟨u, u1, u2⟩ := hO _ _ y cs r1 hl r3
    obtain ⟨l, es, k1, k2, k3, k4, k5⟩ := slice_go hc hR hO a elems (i0 + 1) (fun i hi => by
      have := h (i + 1) (by simpa using hi)
      rw [show i0 + 1 + i = i0 + (i + 1) by omega]; simpa using this)
    have hsz : u.cells.size = sz := by rw [← Array.length_toList, u2, hl]
    refine ⟨y :: l, u :: es, by simp only [List.map_cons, RepL]; exact ⟨_, _, rfl, u1, k1⟩, by simp [k2], ?_, by simp only [List.map_cons, wl, Rows.uptoBulkAll]; omega, fun j v hj => ?_⟩
    · intro v hv; simp only [List.mem_cons] at hv
      rcases hv with rfl | hv
      · exact hsz
      · exact k3 v hv
    · simp only [vcells, List.flatMap_cons, u2] at hj
      by_cases hjl : j < sz
      · rw [List.getElem?_append_left (by omega)] at hj
        have := hget j hjl
        rw [add_add] at this
        exact ⟨by rw [this, hj], r3 v (List.mem_of_getElem? hj)⟩
      · rw [List.getElem?_append_right (by omega), hl] at hj
        have := k5 (j - sz) v hj
        rw [show (i0 + 1) * sz + (j - sz) = i0 * sz + j by rw [Nat.add_mul]; omega] at this
        exact this
theorem Rd_slice {t e : TypeId} {n sz : Nat} {α : Type} {f : α → List AV} {g : α → AV} {wt : α → Nat} (ht : P.underlying t = some (.slice e)) (hc : P.cellsOf e = sz) (hz : 0 < sz) (hO : One sz f g) (hR : ∀ m, n = m + 1 → Rd enc P w sp held m e f wt) :
    Rd enc P w sp held n t (fun l : List α => [.sl (l.map g)]) (wl wt) := fun cs x h => by
  rcases DataW.trod_slice ht h with ⟨rfl, rfl⟩ | ⟨a, len, cap, elems, rest, m, rfl, rfl, rfl, hb, hl, hm, hlen, hel, _, _⟩
  · exact ⟨[], by simp only [List.map_nil, RepL]; exact ⟨_, _, rfl, Rep_nil _ _, rfl⟩, by simp [wl, Rows.uptoBulk], by intro v hv; simp at hv; subst hv; rfl⟩
  · obtain ⟨l, es, k1, k2, k3, k4, k5⟩ := slice_go hc (hR m rfl) hO a elems 0 (fun i hi => by rw [Nat.zero_add]; have := hel i (by omega); rw [hc] at this; exact this)
    refine ⟨l, ?_, by simp only [Rows.uptoBulk]; omega, by intro v hv; simp at hv; subst hv; rfl⟩
    simp only [RepL]
    refine ⟨_, _, rfl, ?_, rfl⟩
    simp only [Rep]
    have hll : (l.map g).length = len := by simp; omega
    have hes : es.length = len := by have := k1.length; omega
    have hfirst : vcells es ≠ [] → a.spot = none := by
      intro hne
      obtain ⟨v, r, hv⟩ := List.exists_cons_of_ne_nil hne
      have := (k5 0 v (by rw [hv]; rfl)).1
      simp only [Nat.zero_mul, Nat.zero_add, Addr.add, if_true, World.cell?] at this
      split at this
      · cases hs : a.spot with
        | none => rfl
        | some s => rw [hs] at this; simp at this
      · simp at this
    refine ⟨some a, cap, es, sz, by rw [hll], k1, k3, by simp, by rw [hll]; exact hl, ?_, ?_⟩
    · rintro hne ad ⟨⟩
      have hsz : sz ≠ 0 := by omega
      refine hfirst (fun q => ?_)
      have hz := vcells_length es k3
      rw [q] at hz
      simp only [List.length_nil] at hz
      have : es.length = 0 := by
        rcases Nat.mul_eq_zero.1 hz.symm with h | h
        · exact h
        · exact absurd h hsz
      apply hne
      have : l.length = 0 := by omega
      simp [List.eq_nil_of_length_eq_zero this]
    · by_cases hne : vcells es = []
      · exact .inl hne
      · right
        have hs := hfirst hne
        obtain ⟨b, off, s⟩ := a
        simp only at hs; subst hs
        refine ⟨b, off, rfl, ?_, fun j v hj => ?_⟩
        · have hlen : 0 < (vcells es).length := List.length_pos_iff.2 hne
          have hv := List.getElem?_eq_getElem (l := vcells es) (i := (vcells es).length - 1) (by omega)
          have := (k5 _ _ hv).1
          rw [Nat.zero_mul, Nat.zero_add, addr_add] at this
          have := cell_U0 this
          omega
        · have := k5 j v hj
          rw [Nat.zero_mul, Nat.zero_add, addr_add] at this
          exact this
/-- The fields from a place on. -/
def RdF (enc : TypeId × Value → H) (P : Program) (w : World) (sp : Nat → Bool) (held : Bool) (n : Nat) (fs : List Field) (o tot : Nat) {α : Type} (f : α → List AV) (wt : α → Nat) : Prop :=
  ∀ (cs : List Value) (xs : List (DataW H × List MemPlace)), cs.length = tot → xs.length = fs.length → (∀ (i : Nat) (fd : Field), fs[i]? = some fd → DataW.trod enc P w 0 sp held n fd.type ((cs.drop fd.offset).take (P.cellsOf fd.type)) = xs[i]?) →
    ∃ a : α, RepL (U0 w) w (f a) (cs.drop o) ∧ wt a ≤ Rows.uptoBulkAll (xs.map (·.1)) ∧ ∀ v ∈ cs.drop o, v.oneCell' = true
theorem RdF_nil {n o : Nat} : RdF enc P w sp held n [] o o (fun _ : Unit => []) (fun _ => 0) := fun cs xs h _ _ => by
  have : cs.drop o = [] := List.drop_eq_nil_of_le (by omega)
  exact ⟨(), by rw [this]; simp [RepL], Nat.zero_le _, by rw [this]; simp⟩
theorem RdF_cons {n o k tot : Nat} {fd : Field} {fs : List Field} {α β : Type} {f : α → List AV} {wt : α → Nat} {g : β → List AV} {wg : β → Nat} (ho : fd.offset = o) (hk : P.cellsOf fd.type = k) (h0 : Rd enc P w sp held n fd.type f wt) (h : RdF enc P w sp held n fs (o + k) tot g wg) :
    RdF enc P w sp held n (fd :: fs) o tot (fun a : α × β => f a.1 ++ g a.2) (fun a => wt a.1 + wg a.2) := fun cs xs hl hx hf => by
  cases xs with
  | nil => simp at hx
  | cons x xs =>
    have e0 := hf 0 fd rfl
    rw [ho, hk] at e0
    obtain ⟨a, a1, a2, a3⟩ := h0 _ x e0
    obtain ⟨b, b1, b2, b3⟩ := h cs xs hl (by simpa using hx) (fun i fd' hi => by simpa using hf (i + 1) fd' (by simpa using hi))
    have hd : cs.drop o = (cs.drop o).take k ++ cs.drop (o + k) := by rw [← List.drop_drop, List.take_append_drop]
    refine ⟨(a, b), by rw [hd]; exact a1.append b1, by simp only [List.map_cons, Rows.uptoBulkAll]; omega, fun v hv => ?_⟩
    rw [hd, List.mem_append] at hv
    rcases hv with hv | hv
    · exact a3 v hv
    · exact b3 v hv
theorem Rd_struct {t : TypeId} {fs : Array Field} {n tot : Nat} {α : Type} {f : α → List AV} {wt : α → Nat} (ht : P.underlying t = some (.struct fs)) (hc : P.cellsOf t = tot) (h : ∀ m, n = m + 1 → RdF enc P w sp held m fs.toList 0 tot f wt) : Rd enc P w sp held n t f (fun a => 1 + wt a) := fun cs x hx => by
  obtain ⟨xs, m, rfl, rfl, hl, hlen, hf⟩ := DataW.trod_struct ht hx
  obtain ⟨a, a1, a2, a3⟩ := h m rfl cs xs (by omega) (by simpa using hlen) (fun i fd hi => hf i fd (by simpa using hi))
  exact ⟨a, by simpa using a1, by simp only [Rows.uptoBulk]; omega, by simpa using a3⟩
end
end Go.Proofs.YtcdfhagcchmnhaaGreatDoor
namespace Go.Proofs.YtcdfhagcchmnhaaGreatDoor
open Go Go.Eng
open Go.ChangeShapes Go.WideShapes Go.ChangeAt Go.RowKit
theorem One_aPair : One 2 (fun x : DPair => [(vS ((x).fKey)), (vS ((x).fValue))]) aPair := fun U w a us h1 h2 h3 => by rw [aPair_eq]; exact One_agg (fun x : DPair => [(vS ((x).fKey)), (vS ((x).fValue))]) U w a us h1 h2 h3
theorem Rd_aPair {H : Type} {enc : TypeId × Value → H} {w : World} {sp : Nat → Bool} {held : Bool} (n : Nat) : Rd enc Tryz.prog w sp held n 54 (fun x : DPair => [(vS ((x).fKey)), (vS ((x).fValue))]) wPair := by
  have h := Rd_struct (n := n) (enc := enc) (P := Tryz.prog) (w := w) (sp := sp) (held := held) (tot := 2) Tryz.underlying54 (by kernel_rfl) (fun m hm => (RdF_cons (k := 1) rfl (by kernel_rfl) (Rd_str Tryz.underlying9 m) (RdF_cons (k := 1) rfl (by kernel_rfl) (Rd_str Tryz.underlying9 m) RdF_nil)))
  exact Rd_map (fun a => DPair.mk a.1 a.2.1) h (fun _ => rfl) (fun a => by simp only [wPair_eq, w1]; omega)
theorem Rd_aAttr {H : Type} {enc : TypeId × Value → H} {w : World} {sp : Nat → Bool} {held : Bool} (n : Nat) : Rd enc Tryz.prog w sp held n 41 (fun x : DAttr => [(vS ((x).fID)), (.sl (((x).fClasses).map strAV)), (.sl (((x).fPairs).map aPair))]) wAttr := by
  have h := Rd_struct (n := n) (enc := enc) (P := Tryz.prog) (w := w) (sp := sp) (held := held) (tot := 3) Tryz.underlying41 (by kernel_rfl) (fun m hm => (RdF_cons (k := 1) rfl (by kernel_rfl) (Rd_str Tryz.underlying9 m) (RdF_cons (k := 1) rfl (by kernel_rfl) (Rd_slice (t := 34) (e := 9) (sz := 1) (g := strAV) (wt := wStr) Tryz.underlying34 (by kernel_rfl) (by decide) (One_val strAV Value.string (fun _ => rfl) (fun _ => rfl)) (fun q hq => (Rd_str Tryz.underlying9 q))) (RdF_cons (k := 1) rfl (by kernel_rfl) (Rd_slice (t := 22) (e := 54) (sz := 2) (g := aPair) (wt := wPair) Tryz.underlying22 (by kernel_rfl) (by decide) One_aPair (fun q hq => (Rd_aPair q))) RdF_nil))))
  exact Rd_map (fun a => DAttr.mk a.1 a.2.1 a.2.2.1) h (fun _ => rfl) (fun a => by simp only [wAttr_eq, w1]; omega)
theorem One_aCited : One 4 (fun x : DCited => [(vS ((x).fKey)), (vS ((x).fPrefix)), (vS ((x).fSuffix)), (vB ((x).fBare))]) aCited := fun U w a us h1 h2 h3 => by rw [aCited_eq]; exact One_agg (fun x : DCited => [(vS ((x).fKey)), (vS ((x).fPrefix)), (vS ((x).fSuffix)), (vB ((x).fBare))]) U w a us h1 h2 h3
theorem Rd_aCited {H : Type} {enc : TypeId × Value → H} {w : World} {sp : Nat → Bool} {held : Bool} (n : Nat) : Rd enc Tryz.prog w sp held n 98 (fun x : DCited => [(vS ((x).fKey)), (vS ((x).fPrefix)), (vS ((x).fSuffix)), (vB ((x).fBare))]) wCited := by
  have h := Rd_struct (n := n) (enc := enc) (P := Tryz.prog) (w := w) (sp := sp) (held := held) (tot := 4) Tryz.underlying98 (by kernel_rfl) (fun m hm => (RdF_cons (k := 1) rfl (by kernel_rfl) (Rd_str Tryz.underlying9 m) (RdF_cons (k := 1) rfl (by kernel_rfl) (Rd_str Tryz.underlying9 m) (RdF_cons (k := 1) rfl (by kernel_rfl) (Rd_str Tryz.underlying9 m) (RdF_cons (k := 1) rfl (by kernel_rfl) (Rd_bool Tryz.underlying4 m) RdF_nil)))))
  exact Rd_map (fun a => DCited.mk a.1 a.2.1 a.2.2.1 a.2.2.2.1) h (fun _ => rfl) (fun a => by simp only [wCited_eq, w1]; omega)
theorem One_aInline : One 10 (fun x : DInline => [(vI ((x).fKind)), (vS ((x).fText)), (vS ((x).fDest)), (vS ((x).fTitle)), (vS (((x).fAttr).fID)), (.sl ((((x).fAttr).fClasses).map strAV)), (.sl ((((x).fAttr).fPairs).map aPair)), (.sl (((x).fArgs).map strAV)), (.sl (((x).fCites).map aCited)), (.sl (((x).fKids).map aInline))]) aInline := fun U w a us h1 h2 h3 => by rw [aInline_eq]; exact One_agg (fun x : DInline => [(vI ((x).fKind)), (vS ((x).fText)), (vS ((x).fDest)), (vS ((x).fTitle)), (vS (((x).fAttr).fID)), (.sl ((((x).fAttr).fClasses).map strAV)), (.sl ((((x).fAttr).fPairs).map aPair)), (.sl (((x).fArgs).map strAV)), (.sl (((x).fCites).map aCited)), (.sl (((x).fKids).map aInline))]) U w a us h1 h2 h3
theorem Rd_aInline {H : Type} {enc : TypeId × Value → H} {w : World} {sp : Nat → Bool} {held : Bool} : ∀ n : Nat, Rd enc Tryz.prog w sp held n 48 (fun x : DInline => [(vI ((x).fKind)), (vS ((x).fText)), (vS ((x).fDest)), (vS ((x).fTitle)), (vS (((x).fAttr).fID)), (.sl ((((x).fAttr).fClasses).map strAV)), (.sl ((((x).fAttr).fPairs).map aPair)), (.sl (((x).fArgs).map strAV)), (.sl (((x).fCites).map aCited)), (.sl (((x).fKids).map aInline))]) wInline := fun n => Nat.strongRecOn n (fun n ih => by
  have h := Rd_struct (n := n) (enc := enc) (P := Tryz.prog) (w := w) (sp := sp) (held := held) (tot := 10) Tryz.underlying48 (by kernel_rfl) (fun m hm => (RdF_cons (k := 1) rfl (by kernel_rfl) (Rd_int Tryz.underlying3 m) (RdF_cons (k := 1) rfl (by kernel_rfl) (Rd_str Tryz.underlying9 m) (RdF_cons (k := 1) rfl (by kernel_rfl) (Rd_str Tryz.underlying9 m) (RdF_cons (k := 1) rfl (by kernel_rfl) (Rd_str Tryz.underlying9 m) (RdF_cons (k := 3) rfl (by kernel_rfl) (Rd_aAttr m) (RdF_cons (k := 1) rfl (by kernel_rfl) (Rd_slice (t := 34) (e := 9) (sz := 1) (g := strAV) (wt := wStr) Tryz.underlying34 (by kernel_rfl) (by decide) (One_val strAV Value.string (fun _ => rfl) (fun _ => rfl)) (fun q hq => (Rd_str Tryz.underlying9 q))) (RdF_cons (k := 1) rfl (by kernel_rfl) (Rd_slice (t := 46) (e := 98) (sz := 4) (g := aCited) (wt := wCited) Tryz.underlying46 (by kernel_rfl) (by decide) One_aCited (fun q hq => (Rd_aCited q))) (RdF_cons (k := 1) rfl (by kernel_rfl) (Rd_slice (t := 42) (e := 48) (sz := 10) (g := aInline) (wt := wInline) Tryz.underlying42 (by kernel_rfl) (by decide) One_aInline (fun q hq => (ih q (by omega)))) RdF_nil)))))))))
  exact Rd_map (fun a => DInline.mk a.1 a.2.1 a.2.2.1 a.2.2.2.1 a.2.2.2.2.1 a.2.2.2.2.2.1 a.2.2.2.2.2.2.1 a.2.2.2.2.2.2.2.1) h (fun _ => rfl) (fun a => by simp only [wInline_eq, w1]; omega))
theorem One_aBlock : One 11 (fun x : DBlock => [(vI ((x).fKind)), (vI ((x).fLevel)), (vS ((x).fInfo)), (vS ((x).fText)), (vS ((x).fDest)), (vS ((x).fTitle)), (vS (((x).fAttr).fID)), (.sl ((((x).fAttr).fClasses).map strAV)), (.sl ((((x).fAttr).fPairs).map aPair)), (.sl (((x).fLine).map aInline)), (.sl (((x).fKids).map aBlock))]) aBlock := fun U w a us h1 h2 h3 => by rw [aBlock_eq]; exact One_agg (fun x : DBlock => [(vI ((x).fKind)), (vI ((x).fLevel)), (vS ((x).fInfo)), (vS ((x).fText)), (vS ((x).fDest)), (vS ((x).fTitle)), (vS (((x).fAttr).fID)), (.sl ((((x).fAttr).fClasses).map strAV)), (.sl ((((x).fAttr).fPairs).map aPair)), (.sl (((x).fLine).map aInline)), (.sl (((x).fKids).map aBlock))]) U w a us h1 h2 h3
theorem Rd_aBlock {H : Type} {enc : TypeId × Value → H} {w : World} {sp : Nat → Bool} {held : Bool} : ∀ n : Nat, Rd enc Tryz.prog w sp held n 44 (fun x : DBlock => [(vI ((x).fKind)), (vI ((x).fLevel)), (vS ((x).fInfo)), (vS ((x).fText)), (vS ((x).fDest)), (vS ((x).fTitle)), (vS (((x).fAttr).fID)), (.sl ((((x).fAttr).fClasses).map strAV)), (.sl ((((x).fAttr).fPairs).map aPair)), (.sl (((x).fLine).map aInline)), (.sl (((x).fKids).map aBlock))]) wBlock := fun n => Nat.strongRecOn n (fun n ih => by
  have h := Rd_struct (n := n) (enc := enc) (P := Tryz.prog) (w := w) (sp := sp) (held := held) (tot := 11) Tryz.underlying44 (by kernel_rfl) (fun m hm => (RdF_cons (k := 1) rfl (by kernel_rfl) (Rd_int Tryz.underlying3 m) (RdF_cons (k := 1) rfl (by kernel_rfl) (Rd_int Tryz.underlying3 m) (RdF_cons (k := 1) rfl (by kernel_rfl) (Rd_str Tryz.underlying9 m) (RdF_cons (k := 1) rfl (by kernel_rfl) (Rd_str Tryz.underlying9 m) (RdF_cons (k := 1) rfl (by kernel_rfl) (Rd_str Tryz.underlying9 m) (RdF_cons (k := 1) rfl (by kernel_rfl) (Rd_str Tryz.underlying9 m) (RdF_cons (k := 3) rfl (by kernel_rfl) (Rd_aAttr m) (RdF_cons (k := 1) rfl (by kernel_rfl) (Rd_slice (t := 42) (e := 48) (sz := 10) (g := aInline) (wt := wInline) Tryz.underlying42 (by kernel_rfl) (by decide) One_aInline (fun q hq => (Rd_aInline q))) (RdF_cons (k := 1) rfl (by kernel_rfl) (Rd_slice (t := 23) (e := 44) (sz := 11) (g := aBlock) (wt := wBlock) Tryz.underlying23 (by kernel_rfl) (by decide) One_aBlock (fun q hq => (ih q (by omega)))) RdF_nil))))))))))
  exact Rd_map (fun a => DBlock.mk a.1 a.2.1 a.2.2.1 a.2.2.2.1 a.2.2.2.2.1 a.2.2.2.2.2.1 a.2.2.2.2.2.2.1 a.2.2.2.2.2.2.2.1 a.2.2.2.2.2.2.2.2.1) h (fun _ => rfl) (fun a => by simp only [wBlock_eq, w1]; omega))
theorem Rd_aDoc {H : Type} {enc : TypeId × Value → H} {w : World} {sp : Nat → Bool} {held : Bool} (n : Nat) : Rd enc Tryz.prog w sp held n 25 (fun x : DDoc => [(.sl (((x).fMeta).map aPair)), (.sl (((x).fBlocks).map aBlock))]) wDoc := by
  have h := Rd_struct (n := n) (enc := enc) (P := Tryz.prog) (w := w) (sp := sp) (held := held) (tot := 2) Tryz.underlying25 (by kernel_rfl) (fun m hm => (RdF_cons (k := 1) rfl (by kernel_rfl) (Rd_slice (t := 22) (e := 54) (sz := 2) (g := aPair) (wt := wPair) Tryz.underlying22 (by kernel_rfl) (by decide) One_aPair (fun q hq => (Rd_aPair q))) (RdF_cons (k := 1) rfl (by kernel_rfl) (Rd_slice (t := 23) (e := 44) (sz := 11) (g := aBlock) (wt := wBlock) Tryz.underlying23 (by kernel_rfl) (by decide) One_aBlock (fun q hq => (Rd_aBlock q))) RdF_nil)))
  exact Rd_map (fun a => DDoc.mk a.1 a.2.1) h (fun _ => rfl) (fun a => by simp only [wDoc_eq, w1]; omega)
end Go.Proofs.YtcdfhagcchmnhaaGreatDoor
