/- Texts joined by a program (merge.py). -/
import Derived.Test.YtbihjejjekeoiaaGreatDoorMsf
import Derived.Test.YtbihjejjekeoiaaGreatDoorMsd
import Derived.Test.YtbihjejjekeoiaaGreatDoorMsg
import Derived.Test.YtbihjejjekeoiaaGreatDoorMsc
import Derived.KernelRfl
import Derived.Test.YtbihjejjekeoiaaGreatDoorMsb
import Derived.ProofKit
import Derived.SliceStrings
import Derived.Test.YtbihjejjekeoiaaGreatDoorRows
set_option linter.unusedSimpArgs false
set_option linter.unusedVariables false
namespace Go.CE
variable {P : Program}
theorem awake_to {call : CallT} (hcall : CallOk P call) {f : FuncId} (hent : Eng.Enterable P f) {n0 : ID} (h : okB (call (.f f) [] h0 n0) = true) : Eng.CallTo P f [] [] [] (.av (.val (.bool true))) [] [] := by
  obtain ⟨H', n', hr⟩ : ∃ H' n', call (.f f) [] h0 n0 = .ok (.b true) H' n' := by
    cases hc : call (.f f) [] h0 n0 with
    | no => rw [hc] at h; cases h
    | ok v H' n' =>
      rw [hc] at h
      cases v with
      | b x =>
        have hx : x = true := h
        subst hx
        exact ⟨H', n', rfl⟩
      | _ => cases h
  refine ⟨hent, fun G w vs hw hargs _ _ => ?_⟩
  have hvs : vs = [] := by simpa only [Eng.RepSs] using hargs
  subst hvs
  have hcd := (hcall.f f [] h0 n0 _ H' n' hr (fun _ => none) w [] (by simp [VRs]) ⟨fun i hi => absurd (hget_h0 i) hi, fun i j _ _ hi => absurd (hget_h0 i) hi⟩ (fun i _ _ => rfl)).enters hent
  refine (callsIn_wide.1 hcd).mono ?_
  rintro e w' ⟨u, rfl, ρ', e1, e2, e3⟩
  have hout : ∀ b, b < w.heap.size → w'.heap[b]? = w.heap[b]? := fun b hb => e1.out b hb (fun i x hi => absurd (hget_h0 i) hi)
  simp only [VR] at e3
  subst e3
  have hkeep : ∀ κ, Eng.Keep G w G w' κ := fun κ => ⟨rfl, fun b hb => ⟨hout b (hw.lt κ b hb), rfl⟩⟩
  have himm : Eng.Imm G.U w w' := Eng.imm_of (fun b hb => hout b (by
    rcases Nat.lt_or_ge b w.heap.size with q | q
    · exact q
    · have := hw.zero b q; omega))
  exact ⟨.bool true, G, rfl, ⟨⟨fun _ => Nat.le_refl _, himm, e1.size, e1.os, e1.tape, e1.output, fun _ _ => rfl, fun _ => Nat.le_refl _, fun κ _ _ => hkeep κ⟩, fun b hb _ => ⟨hout b hb, rfl⟩, fun κ b hb => .inl ⟨κ, hb⟩⟩,
    ⟨hw.inj, fun κ b hb => Nat.lt_of_lt_of_le (hw.lt κ b hb) e1.size, fun b hb => hw.zero b (Nat.le_trans e1.size hb)⟩, by simp only [Eng.RepS, Eng.Rep]; exact ⟨trivial, rfl⟩, fun p hp => by simp at hp, fun i _ => hkeep _, fun _ => rfl, fun _ => rfl⟩
end Go.CE
namespace Go.Proofs.YtbihjejjekeoiaaGreatDoor
open Go Go.CE
theorem lib_ok : ∀ f g, lib f = some g → LibOk Tryz.prog f g := by
  intro f g h
  unfold lib at h
  have key : ∀ (m : Nat) (x : LibF) (r : Option LibF), LibOk Tryz.prog m x → (r = some g → LibOk Tryz.prog f g) → bc (Nat.beq f m) (some x) r = some g → LibOk Tryz.prog f g := by
    intro m x r hx hr hb
    cases hm : Nat.beq f m with
    | true =>
      rw [hm] at hb
      rw [Nat.beq_eq] at hm
      cases hb
      rw [hm]; exact hx
    | false => rw [hm] at hb; exact hr hb
  exact key _ _ _ stringOk (key _ _ _ checkOk (key _ _ _ countOk (key _ _ _ indexOk (fun h => by cases h)))) h
theorem mixed : Tryz.prog.follows .mixedOrders = true := by kernel_rfl
theorem awake_to : Eng.CallTo Tryz.prog 6 [] [] [] (.av (.val (.bool true))) [] [] :=
  CE.awake_to (callF_ok mixed lib_ok 60) ⟨_, Tryz.func6, by kernel_rfl, by kernel_rfl⟩ awake_runs
end Go.Proofs.YtbihjejjekeoiaaGreatDoor
namespace Go.Proofs.YtbihjejjekeoiaaGreatDoor
open Go Go.Eng
def limI (n : Int) (a : Int) (b : Int) : Int := max (a) (min (n) (b))
set_option maxRecDepth 100000 in
set_option maxHeartbeats 4000000 in
theorem limI_to (n : Int) (a : Int) (b : Int) : CallTo Tryz.prog 17 [(jI (n)), (jI (a)), (jI (b))] [] [] (jI (limI n a b)) [] [] := by
  refine BEG (fun r : Int => (jI (r))) (limI n a b) Tryz.func17 (by kernel_rfl) ?_
  refine UF (limI.eq_1 ..) ?_
  refine GO (tn 7 z) (by kernel_rfl) ?_
  exact EN (by kernel_rfl)
def limR (n : Int) (a : Int) (b : Int) : Int := cond (decide ((n : Int) < a)) (a) (cond (decide ((n : Int) > b)) (b) (n))
set_option maxRecDepth 100000 in
set_option maxHeartbeats 4000000 in
theorem limR_to (n : Int) (a : Int) (b : Int) : CallTo Tryz.prog 22 [(jI (n)), (jI (a)), (jI (b))] [] [] (jI (limR n a b)) [] [] := by
  refine BEG (fun r : Int => (jI (r))) (limR n a b) Tryz.func22 (by kernel_rfl) ?_
  refine UF (limR.eq_1 ..) ?_
  refine GO (tn 4 z) (by kernel_rfl) ?_
  refine CSd (fun h1p h1 => ?_) (fun h1p h1 => ?_)
  · refine GO (kb h1 (tn 2 z)) (by kernel_rfl) ?_
    exact EN (by kernel_rfl)
  · refine GO (kb h1 (tn 3 z)) (by kernel_rfl) ?_
    refine CSd (fun h2p h2 => ?_) (fun h2p h2 => ?_)
    · refine GO (kb h2 (tn 2 z)) (by kernel_rfl) ?_
      exact EN (by kernel_rfl)
    · refine GO (kb h2 (tn 2 z)) (by kernel_rfl) ?_
      exact EN (by kernel_rfl)
theorem limI_bd (n a b : Int) : a ≤ limI n a b ∧ (limI n a b ≤ a ∨ limI n a b ≤ b) := by unfold limI; omega
theorem limR_bd (n a b : Int) : (a ≤ limR n a b ∨ b ≤ limR n a b) ∧ (limR n a b ≤ a ∨ limR n a b ≤ b) := by
  unfold limR
  simp only [Bool.cond_eq_ite, decide_eq_true_eq]
  repeat' split
  all_goals omega
def cpyA (a : DAttr) : DAttr := a
set_option maxRecDepth 100000 in
set_option maxHeartbeats 4000000 in
theorem cpyA_to (a : DAttr) (ha : wAttr a ≤ 1073741824) : CallTo Tryz.prog 18 [(.av (cAttr a))] [] [] (.av (cAttr (cpyA a))) [] [] := by
  have hwa := wAttr_eq a
  have hw_0 := wl_len (w := wStr) wStr_pos a.fClasses
  have hw_1 := wl_len (w := wPair) wPair_pos a.fPairs
  refine BEG (fun r : DAttr => (.av (cAttr r))) (cpyA a) Tryz.func18 (by kernel_rfl) ?_
  refine UF (cpyA.eq_1 ..) ?_
  refine GO (tn 2 z) (by kernel_rfl) ?_
  refine DR3 (tn 8 (kp (show Uni 1 (a.fClasses.map strAV) ∧ ((a.fClasses.map strAV) : List AV).length * 16 ≤ 140737488355328 from ⟨uni_strAV _, by first | omega | (simp; done) | (simp; omega)⟩) (tn 4 (kp (show Uni 2 (a.fPairs.map aPair) ∧ ((a.fPairs.map aPair) : List AV).length * 32 ≤ 140737488355328 from ⟨uni_aPair _, by first | omega | (simp; done) | (simp; omega)⟩) (tn 2 z))))) (by kernel_rfl) (by kernel_rfl) (by kernel_rfl) ?_
  exact EN (by kernel_rfl)
end Go.Proofs.YtbihjejjekeoiaaGreatDoor
namespace Go.Proofs.YtbihjejjekeoiaaGreatDoor
open Go Go.Eng
theorem wInline_mk (k : Int) (t d ti : ByteArray) (a : DAttr) (ar : List ByteArray) (c : List DCited) (ks : List DInline) : wInline (DInline.mk k t d ti a ar c ks) = 1 + 1 + (t.size + 1) + (d.size + 1) + (ti.size + 1) + wAttr a + wl wStr ar + wl wCited c + wl wInline ks := wInline_eq _
theorem wBlock_mk (k lv : Int) (i t d ti : ByteArray) (a : DAttr) (li : List DInline) (ks : List DBlock) : wBlock (DBlock.mk k lv i t d ti a li ks) = 1 + 1 + 1 + (i.size + 1) + (t.size + 1) + (d.size + 1) + (ti.size + 1) + wAttr a + wl wInline li + wl wBlock ks := wBlock_eq _
theorem loop_map {α β : Type} [Inhabited α] (f : α → AV) (l : List α) (g : α → β) (F : Nat → List β → Nat → List β) (hF : ∀ n acc i, F (n + 1) acc i = cond (decide ((((i : Nat) : Int) : Int) < ((lenM f l : Nat) : Int))) (F n (acc ++ [g (el l i)]) (i + 1)) acc) : F (l.length - 0 + 1) [] 0 = l.map g := by
  have := loop_flat f l (fun x => [g x]) F (fun n acc i => hF n acc i) (l.length - 0 + 1) [] 0 (by omega)
  rw [this, List.map_eq_flatMap]; rfl
theorem map_same {α : Type} {g : α → α} : ∀ {l : List α}, (∀ x ∈ l, g x = x) → l.map g = l
  | [], _ => rfl
  | x :: l, h => by rw [List.map_cons, h x (by simp), map_same (fun y hy => h y (by simp [hy]))]
def cpLS_L0 (rec : (List DInline) → List DInline) (l : List DInline) : Nat → (List DInline) → Nat → List DInline
  | 0, _, _ => default
  | n0 + 1, v3, v8 => cond (decide ((((v8 : Nat) : Int) : Int) < ((lenM aInline l : Nat) : Int))) (cpLS_L0 rec l n0 (v3 ++ ([DInline.mk ((el l v8).fKind) ((el l v8).fText) ((el l v8).fDest) ((el l v8).fTitle) (cpyA ((el l v8).fAttr)) ((el l v8).fArgs) ((el l v8).fCites) (rec ((el l v8).fKids))])) (v8 + 1)) (v3)
def cpLS (rec : (List DInline) → List DInline) (l : List DInline) : List DInline := cpLS_L0 rec l ((List.length l - (0)) + 1) ([]) 0
set_option maxRecDepth 100000 in
set_option maxHeartbeats 4000000 in
theorem cpL_st (rec : (List DInline) → List DInline) (l : List DInline) (hl : wl wInline l ≤ 1073741824) (hrec : ∀ (l' : List DInline), wl wInline l' < wl wInline l → wl wInline l' ≤ 1073741824 → CallTo Tryz.prog 19 [(jL ((l').map aInline))] [] [] (jL ((rec l').map aInline)) [] []) (hrb : ∀ (l' : List DInline), wl wInline l' < wl wInline l → wl wInline l' ≤ 1073741824 → wl wInline (rec l') ≤ wl wInline l') : CallTo Tryz.prog 19 [(jL (l.map aInline))] [] [] (jL ((cpLS rec l).map aInline)) [] [] := by
  have hw_0 := wl_len (w := wInline) wInline_pos l
  refine BEG (fun r : List DInline => (jL (r.map aInline))) (cpLS rec l) Tryz.func19 (by kernel_rfl) ?_
  refine UF (cpLS.eq_1 ..) ?_
  refine GO (tn 5 z) (by kernel_rfl) ?_
  refine LP (fun N M S => ∃ gv3 : Nat, ∃ v3 : List DInline, ∃ v8 : Nat, ∃ gvk18_10 : Nat, ∃ gvk22_81 : Nat, (wl wInline v3 ≤ wl wInline (l.take v8)) ∧ (v8 ≤ l.length) ∧ (List.length l - v8 < N) ∧ M = cpLS_L0 rec l N v3 v8 ∧ S = (sx 34 [(3, (.own (203, 78) (gv3) 10 (v3.map aInline))), (6, (jL (l.map aInline))), (7, (jI (((lenM aInline l : Nat) : Int)))), (8, (jI (((v8 : Nat) : Int))))] [] [((203, 78), gv3), ((18, 10), gvk18_10), ((22, 81), gvk22_81)])) (by kernel_rfl) ⟨0, _, _, 0, 0, by simp [wl], by first | omega | assumption | (simp only [lenM_eq]; omega) | (simp; done) | (simp; omega), by omega, rfl, rfl⟩ (WKf [(3, (.own (203, 78) ((0)) 10 (([]).map aInline)))] (ac (show ((([]).map aInline) : List AV) = [] ∧ 0 < 78 ∧ ((0) : Nat) = (0) from ⟨rfl, by decide, rfl⟩) an) (by kernel_rfl)) ?_
  rintro n0 M S ⟨gv3, v3, v8, gvk18_10, gvk22_81, hv, hi, hF0, rfl, rfl⟩
  obtain ⟨n0, rfl⟩ : ∃ k, n0 = k + 1 := ⟨n0 - 1, by omega⟩
  refine UF (cpLS_L0.eq_2 ..) ?_
  refine GO (tn 1 z) (by kernel_rfl) ?_
  refine CSd (fun h1p h1 => ?_) (fun h1p h1 => ?_)
  · have := lenM_eq aInline l
    have hce := wl_el (w := wInline) (l := l) (i := v8) (by omega)
    have hcw := wInline_eq (el l v8)
    simp only [wStr, w1] at hcw
    have htk := wl_take (w := wInline) (l := l) (i := v8) (by omega)
    have hvl := wl_len (w := wInline) wInline_pos v3
    have htl := wl_take_le (w := wInline) l v8
    have hcx := wAttr_eq (el l v8).fAttr
    have hl0 := wl_len (w := wStr) wStr_pos (el l v8).fArgs
    have hl1 := wl_len (w := wCited) wCited_pos (el l v8).fCites
    have := wl_len (w := wInline) wInline_pos (rec ((el l v8).fKids))
    have := hrb ((el l v8).fKids) (by first | assumption | omega | decide | (simp; done) | (simp; omega)) (by first | assumption | omega | decide | (simp; done) | (simp; omega))
    refine GO (kb h1 (ke (el_aInline l v8 (by first | omega | (simp only [lenM_eq, true_and]; omega))) (tn 5 (kc (cpyA_to ((el l v8).fAttr) (by first | assumption | omega | decide | (simp; done) | (simp; omega))) (tn 4 (kp (show Uni 1 (((el l v8).fArgs).map strAV) ∧ ((((el l v8).fArgs).map strAV) : List AV).length * 16 ≤ 140737488355328 from ⟨uni_strAV _, by first | omega | (simp; done) | (simp; omega)⟩) (kw (Eq.refl (((el l v8).fArgs).map strAV)) (tn 4 (kp (show Uni 4 (((el l v8).fCites).map aCited) ∧ ((((el l v8).fCites).map aCited) : List AV).length * 56 ≤ 140737488355328 from ⟨uni_aCited _, by first | omega | (simp; done) | (simp; omega)⟩) (kw (Eq.refl (((el l v8).fCites).map aCited)) (tn 4 (kc (hrec ((el l v8).fKids) (by first | assumption | omega | decide | (simp; done) | (simp; omega)) (by first | assumption | omega | decide | (simp; done) | (simp; omega))) (tn 4 (kp (show Uni 10 [(.agg [(vI ((el l v8).fKind)), (vS ((el l v8).fText)), (vS ((el l v8).fDest)), (vS ((el l v8).fTitle)), (vS ((cpyA ((el l v8).fAttr)).fID)), (.sl (((cpyA ((el l v8).fAttr)).fClasses).map strAV)), (.sl (((cpyA ((el l v8).fAttr)).fPairs).map aPair)), (.sl (((el l v8).fArgs).map strAV)), (.sl (((el l v8).fCites).map aCited)), (.sl ((rec ((el l v8).fKids)).map aInline))])] from (uni_one rfl rfl)) (kp (show (gv3 : Nat) = gv3 ∧ Uni 10 [(.agg [(vI ((el l v8).fKind)), (vS ((el l v8).fText)), (vS ((el l v8).fDest)), (vS ((el l v8).fTitle)), (vS ((cpyA ((el l v8).fAttr)).fID)), (.sl (((cpyA ((el l v8).fAttr)).fClasses).map strAV)), (.sl (((cpyA ((el l v8).fAttr)).fPairs).map aPair)), (.sl (((el l v8).fArgs).map strAV)), (.sl (((el l v8).fCites).map aCited)), (.sl ((rec ((el l v8).fKids)).map aInline))])] ∧ (((v3.map aInline) : List AV).length + ([(.agg [(vI ((el l v8).fKind)), (vS ((el l v8).fText)), (vS ((el l v8).fDest)), (vS ((el l v8).fTitle)), (vS ((cpyA ((el l v8).fAttr)).fID)), (.sl (((cpyA ((el l v8).fAttr)).fClasses).map strAV)), (.sl (((cpyA ((el l v8).fAttr)).fPairs).map aPair)), (.sl (((el l v8).fArgs).map strAV)), (.sl (((el l v8).fCites).map aCited)), (.sl ((rec ((el l v8).fKids)).map aInline))])] : List AV).length) * 192 ≤ 140737488355328 from ⟨rfl, uni_one rfl rfl, by first | omega | (simp; done) | (simp; omega)⟩) (kw (ap1_aInline v3 (DInline.mk ((el l v8).fKind) ((el l v8).fText) ((el l v8).fDest) ((el l v8).fTitle) (cpyA ((el l v8).fAttr)) ((el l v8).fArgs) ((el l v8).fCites) (rec ((el l v8).fKids)))) (tn 1 (kn (wrE ((((v8 : Nat) : Int)) + 1) (((v8 + 1 : Nat) : Int)) (by omega)) (tn 1 z))))))))))))))))))) (by kernel_rfl) ?_
    exact AG ⟨gv3 + 1, _, _, gvk18_10 + 1, gvk22_81 + 1, by first | (simp only [wl_append, wl, wInline_mk, cpyA]; omega) | omega, by first | omega | assumption | (simp only [lenM_eq]; omega) | (simp; done) | (simp; omega), by omega, rfl, rfl⟩ (WK (by kernel_rfl)) (by kernel_rfl) (Nat.lt_succ_self _)
  · have := lenM_eq aInline l
    refine GO (kb h1 z) (by kernel_rfl) ?_
    refine OUT (tn 2 z) (by kernel_rfl) ?_
    exact EN (by kernel_rfl)
def cpLN : Nat → (List DInline) → List DInline
  | 0, _ => default
  | n + 1, l => cpLS (cpLN n) l
theorem cpLS_eq (rec : (List DInline) → List DInline) (l : List DInline) : cpLS rec l = l.map (fun x => DInline.mk x.fKind x.fText x.fDest x.fTitle (cpyA x.fAttr) x.fArgs x.fCites (rec x.fKids)) :=
  loop_map aInline l (fun x => DInline.mk x.fKind x.fText x.fDest x.fTitle (cpyA x.fAttr) x.fArgs x.fCites (rec x.fKids)) (cpLS_L0 rec l) (fun n acc i => by rw [cpLS_L0])
theorem cpLN_same : ∀ (n : Nat) (l : List DInline), wl wInline l < n → cpLN n l = l
  | 0, l, h => by omega
  | n + 1, l, h => by
    rw [cpLN, cpLS_eq]
    refine map_same (fun x hx => ?_)
    have h1 := wl_mem (w := wInline) hx
    have h2 := wInline_eq x
    rw [cpLN_same n x.fKids (by omega)]
    cases x; rfl
theorem cpLN_bd (n : Nat) (l : List DInline) (h : wl wInline l < n) (_ : wl wInline l ≤ 1073741824) : wl wInline (cpLN n l) ≤ wl wInline l := by rw [cpLN_same n l h]; exact Nat.le_refl _
theorem cpLN_to : ∀ (n : Nat) (l : List DInline), wl wInline l < n → wl wInline l ≤ 1073741824 → CallTo Tryz.prog 19 [(jL (l.map aInline))] [] [] (jL ((cpLN n l).map aInline)) [] []
  | 0, l, h0, _ => absurd h0 (Nat.not_lt_zero _)
  | n + 1, l, h0, hl => by
    exact cpL_st (cpLN n) l hl (fun l' q1 hl' => cpLN_to n l' (by omega) hl') (fun l' q1 hl' => cpLN_bd n l' (by omega) hl')
def cpL (l : List DInline) : List DInline := cpLN (wl wInline l + 1) l
theorem cpL_to (l : List DInline) (hl : wl wInline l ≤ 1073741824) : CallTo Tryz.prog 19 [(jL (l.map aInline))] [] [] (jL ((cpL l).map aInline)) [] [] := cpLN_to _ l (Nat.lt_succ_self _) hl
theorem cpL_bd (l : List DInline) (hl : wl wInline l ≤ 1073741824) : wl wInline (cpL l) ≤ wl wInline l := cpLN_bd _ l (Nat.lt_succ_self _) hl
end Go.Proofs.YtbihjejjekeoiaaGreatDoor
namespace Go.Proofs.YtbihjejjekeoiaaGreatDoor
open Go Go.Eng
def shfPS_L0 (rec : (List DBlock) → Int → List DBlock) (l : List DBlock) (k : Int) : Nat → (List DBlock) → Nat → List DBlock
  | 0, _, _ => default
  | n0 + 1, v5, v12 => cond (decide ((((v12 : Nat) : Int) : Int) < ((lenM aBlock l : Nat) : Int))) (cond ((((el l v12).fKind : Int) == 2)) (shfPS_L0 rec l k n0 (v5 ++ ([DBlock.mk ((el l v12).fKind) (limI ((limI ((el l v12).fLevel) 1 6) + (limI k ((-6)) 6)) 1 6) ((el l v12).fInfo) ((el l v12).fText) ((el l v12).fDest) ((el l v12).fTitle) (cpyA ((el l v12).fAttr)) (cpL ((el l v12).fLine)) (rec ((el l v12).fKids) (limI k ((-6)) 6))])) (v12 + 1)) (shfPS_L0 rec l k n0 (v5 ++ ([DBlock.mk ((el l v12).fKind) ((el l v12).fLevel) ((el l v12).fInfo) ((el l v12).fText) ((el l v12).fDest) ((el l v12).fTitle) (cpyA ((el l v12).fAttr)) (cpL ((el l v12).fLine)) (rec ((el l v12).fKids) (limI k ((-6)) 6))])) (v12 + 1))) (v5)
def shfPS (rec : (List DBlock) → Int → List DBlock) (l : List DBlock) (k : Int) : List DBlock := shfPS_L0 rec l k ((List.length l - (0)) + 1) ([]) 0
set_option maxRecDepth 100000 in
set_option maxHeartbeats 4000000 in
theorem shfP_st (rec : (List DBlock) → Int → List DBlock) (l : List DBlock) (k : Int) (hl : wl wBlock l ≤ 1073741824) (hrec : ∀ (l' : List DBlock) (k' : Int), wl wBlock l' < wl wBlock l → wl wBlock l' ≤ 1073741824 → CallTo Tryz.prog 7 [(jL ((l').map aBlock)), (jI (k'))] [] [] (jL ((rec l' k').map aBlock)) [] []) (hrb : ∀ (l' : List DBlock) (k' : Int), wl wBlock l' < wl wBlock l → wl wBlock l' ≤ 1073741824 → wl wBlock (rec l' k') ≤ wl wBlock l') : CallTo Tryz.prog 7 [(jL (l.map aBlock)), (jI (k))] [] [] (jL ((shfPS rec l k).map aBlock)) [] [] := by
  have hw_0 := wl_len (w := wBlock) wBlock_pos l
  refine BEG (fun r : List DBlock => (jL (r.map aBlock))) (shfPS rec l k) Tryz.func7 (by kernel_rfl) ?_
  refine UF (shfPS.eq_1 ..) ?_
  have := limI_bd k ((-6)) 6
  refine GO (tn 2 (kc (limI_to k ((-6)) 6) (tn 5 z))) (by kernel_rfl) ?_
  refine LP (fun N M S => ∃ gv5 : Nat, ∃ v5 : List DBlock, ∃ v12 : Nat, (wl wBlock v5 ≤ wl wBlock (l.take v12)) ∧ (v12 ≤ l.length) ∧ (List.length l - v12 < N) ∧ M = shfPS_L0 rec l k N v5 v12 ∧ S = (sx 45 [(1, (jI (limI k ((-6)) 6))), (5, (.own (205, 52) (gv5) 11 (v5.map aBlock))), (10, (jL (l.map aBlock))), (11, (jI (((lenM aBlock l : Nat) : Int)))), (12, (jI (((v12 : Nat) : Int))))] [] [((205, 52), gv5)])) (by kernel_rfl) ⟨0, _, _, by simp [wl], by first | omega | assumption | (simp only [lenM_eq]; omega) | (simp; done) | (simp; omega), by omega, rfl, rfl⟩ (WKf [(5, (.own (205, 52) ((0)) 11 (([]).map aBlock)))] (ac (show ((([]).map aBlock) : List AV) = [] ∧ 0 < 52 ∧ ((0) : Nat) = (0) from ⟨rfl, by decide, rfl⟩) an) (by kernel_rfl)) ?_
  rintro n0 M S ⟨gv5, v5, v12, hv, hi, hF0, rfl, rfl⟩
  obtain ⟨n0, rfl⟩ : ∃ k, n0 = k + 1 := ⟨n0 - 1, by omega⟩
  refine UF (shfPS_L0.eq_2 ..) ?_
  refine GO (tn 1 z) (by kernel_rfl) ?_
  refine CSd (fun h1p h1 => ?_) (fun h1p h1 => ?_)
  · have := lenM_eq aBlock l
    have hce := wl_el (w := wBlock) (l := l) (i := v12) (by omega)
    have hcw := wBlock_eq (el l v12)
    simp only [wStr, w1] at hcw
    have htk := wl_take (w := wBlock) (l := l) (i := v12) (by omega)
    have hvl := wl_len (w := wBlock) wBlock_pos v5
    have htl := wl_take_le (w := wBlock) l v12
    have hcx := wAttr_eq (el l v12).fAttr
    refine GO (kb h1 (ke (el_aBlock l v12 (by first | omega | (simp only [lenM_eq, true_and]; omega))) (tn 6 z))) (by kernel_rfl) ?_
    refine CSe (fun h2p h2 => ?_) (fun h2p h2 => ?_)
    · have := limI_bd ((el l v12).fLevel) 1 6
      have := limI_bd ((limI ((el l v12).fLevel) 1 6) + (limI k ((-6)) 6)) 1 6
      refine GO (kb h2 (tn 2 (kc (limI_to ((el l v12).fLevel) 1 6) (tn 1 (kn (wrE ((limI ((el l v12).fLevel) 1 6) + (limI k ((-6)) 6)) ((limI ((el l v12).fLevel) 1 6) + (limI k ((-6)) 6)) (by omega)) (kc (limI_to ((limI ((el l v12).fLevel) 1 6) + (limI k ((-6)) 6)) 1 6) (tn 2 z))))))) (by kernel_rfl) ?_
      have := cpL_bd ((el l v12).fLine) (by first | assumption | omega | decide | (simp; done) | (simp; omega))
      have := wl_len (w := wBlock) wBlock_pos (rec ((el l v12).fKids) (limI k ((-6)) 6))
      have := hrb ((el l v12).fKids) (limI k ((-6)) 6) (by first | assumption | omega | decide | (simp; done) | (simp; omega)) (by first | assumption | omega | decide | (simp; done) | (simp; omega))
      have d3 := (cpyA_to ((el l v12).fAttr) (by first | assumption | omega | decide | (simp; done) | (simp; omega)))
      have d4 := (cpL_to ((el l v12).fLine) (by first | assumption | omega | decide | (simp; done) | (simp; omega)))
      have d5 := (hrec ((el l v12).fKids) (limI k ((-6)) 6) (by first | assumption | omega | decide | (simp; done) | (simp; omega)) (by first | assumption | omega | decide | (simp; done) | (simp; omega)))
      refine DR3 (tn 2 (ko (cO d3) (kp d3 (tn 3 (ko (cO d4) (kp d4 (tn 4 (ko (cO d5) (kp d5 (tn 9 (kp (show Uni 11 [(.agg [(vI ((el l v12).fKind)), (vI (limI ((limI ((el l v12).fLevel) 1 6) + (limI k ((-6)) 6)) 1 6)), (vS ((el l v12).fInfo)), (vS ((el l v12).fText)), (vS ((el l v12).fDest)), (vS ((el l v12).fTitle)), (vS ((cpyA ((el l v12).fAttr)).fID)), (.sl (((cpyA ((el l v12).fAttr)).fClasses).map strAV)), (.sl (((cpyA ((el l v12).fAttr)).fPairs).map aPair)), (.sl ((cpL ((el l v12).fLine)).map aInline)), (.sl ((rec ((el l v12).fKids) (limI k ((-6)) 6)).map aBlock))])] from (uni_one rfl rfl)) (kp (show (gv5 : Nat) = gv5 ∧ Uni 11 [(.agg [(vI ((el l v12).fKind)), (vI (limI ((limI ((el l v12).fLevel) 1 6) + (limI k ((-6)) 6)) 1 6)), (vS ((el l v12).fInfo)), (vS ((el l v12).fText)), (vS ((el l v12).fDest)), (vS ((el l v12).fTitle)), (vS ((cpyA ((el l v12).fAttr)).fID)), (.sl (((cpyA ((el l v12).fAttr)).fClasses).map strAV)), (.sl (((cpyA ((el l v12).fAttr)).fPairs).map aPair)), (.sl ((cpL ((el l v12).fLine)).map aInline)), (.sl ((rec ((el l v12).fKids) (limI k ((-6)) 6)).map aBlock))])] ∧ (((v5.map aBlock) : List AV).length + ([(.agg [(vI ((el l v12).fKind)), (vI (limI ((limI ((el l v12).fLevel) 1 6) + (limI k ((-6)) 6)) 1 6)), (vS ((el l v12).fInfo)), (vS ((el l v12).fText)), (vS ((el l v12).fDest)), (vS ((el l v12).fTitle)), (vS ((cpyA ((el l v12).fAttr)).fID)), (.sl (((cpyA ((el l v12).fAttr)).fClasses).map strAV)), (.sl (((cpyA ((el l v12).fAttr)).fPairs).map aPair)), (.sl ((cpL ((el l v12).fLine)).map aInline)), (.sl ((rec ((el l v12).fKids) (limI k ((-6)) 6)).map aBlock))])] : List AV).length) * 192 ≤ 140737488355328 from ⟨rfl, uni_one rfl rfl, by first | omega | (simp; done) | (simp; omega)⟩) (kw (ap1_aBlock v5 (DBlock.mk ((el l v12).fKind) (limI ((limI ((el l v12).fLevel) 1 6) + (limI k ((-6)) 6)) 1 6) ((el l v12).fInfo) ((el l v12).fText) ((el l v12).fDest) ((el l v12).fTitle) (cpyA ((el l v12).fAttr)) (cpL ((el l v12).fLine)) (rec ((el l v12).fKids) (limI k ((-6)) 6)))) (tn 1 (kn (wrE ((((v12 : Nat) : Int)) + 1) (((v12 + 1 : Nat) : Int)) (by omega)) (tn 1 z)))))))))))))))) (by kernel_rfl) (by kernel_rfl) (by kernel_rfl) ?_
      exact AG ⟨gv5 + 1, _, _, by first | (simp only [wl_append, wl, wBlock_mk, cpyA]; omega) | omega, by first | omega | assumption | (simp only [lenM_eq]; omega) | (simp; done) | (simp; omega), by omega, rfl, rfl⟩ (WK (by kernel_rfl)) (by kernel_rfl) (Nat.lt_succ_self _)
    · refine GO (kb h2 z) (by kernel_rfl) ?_
      have := cpL_bd ((el l v12).fLine) (by first | assumption | omega | decide | (simp; done) | (simp; omega))
      have := wl_len (w := wBlock) wBlock_pos (rec ((el l v12).fKids) (limI k ((-6)) 6))
      have := hrb ((el l v12).fKids) (limI k ((-6)) 6) (by first | assumption | omega | decide | (simp; done) | (simp; omega)) (by first | assumption | omega | decide | (simp; done) | (simp; omega))
      have d6 := (cpyA_to ((el l v12).fAttr) (by first | assumption | omega | decide | (simp; done) | (simp; omega)))
      have d7 := (cpL_to ((el l v12).fLine) (by first | assumption | omega | decide | (simp; done) | (simp; omega)))
      have d8 := (hrec ((el l v12).fKids) (limI k ((-6)) 6) (by first | assumption | omega | decide | (simp; done) | (simp; omega)) (by first | assumption | omega | decide | (simp; done) | (simp; omega)))
      refine DR3 (tn 2 (ko (cO d6) (kp d6 (tn 3 (ko (cO d7) (kp d7 (tn 4 (ko (cO d8) (kp d8 (tn 9 (kp (show Uni 11 [(.agg [(vI ((el l v12).fKind)), (vI ((el l v12).fLevel)), (vS ((el l v12).fInfo)), (vS ((el l v12).fText)), (vS ((el l v12).fDest)), (vS ((el l v12).fTitle)), (vS ((cpyA ((el l v12).fAttr)).fID)), (.sl (((cpyA ((el l v12).fAttr)).fClasses).map strAV)), (.sl (((cpyA ((el l v12).fAttr)).fPairs).map aPair)), (.sl ((cpL ((el l v12).fLine)).map aInline)), (.sl ((rec ((el l v12).fKids) (limI k ((-6)) 6)).map aBlock))])] from (uni_one rfl rfl)) (kp (show (gv5 : Nat) = gv5 ∧ Uni 11 [(.agg [(vI ((el l v12).fKind)), (vI ((el l v12).fLevel)), (vS ((el l v12).fInfo)), (vS ((el l v12).fText)), (vS ((el l v12).fDest)), (vS ((el l v12).fTitle)), (vS ((cpyA ((el l v12).fAttr)).fID)), (.sl (((cpyA ((el l v12).fAttr)).fClasses).map strAV)), (.sl (((cpyA ((el l v12).fAttr)).fPairs).map aPair)), (.sl ((cpL ((el l v12).fLine)).map aInline)), (.sl ((rec ((el l v12).fKids) (limI k ((-6)) 6)).map aBlock))])] ∧ (((v5.map aBlock) : List AV).length + ([(.agg [(vI ((el l v12).fKind)), (vI ((el l v12).fLevel)), (vS ((el l v12).fInfo)), (vS ((el l v12).fText)), (vS ((el l v12).fDest)), (vS ((el l v12).fTitle)), (vS ((cpyA ((el l v12).fAttr)).fID)), (.sl (((cpyA ((el l v12).fAttr)).fClasses).map strAV)), (.sl (((cpyA ((el l v12).fAttr)).fPairs).map aPair)), (.sl ((cpL ((el l v12).fLine)).map aInline)), (.sl ((rec ((el l v12).fKids) (limI k ((-6)) 6)).map aBlock))])] : List AV).length) * 192 ≤ 140737488355328 from ⟨rfl, uni_one rfl rfl, by first | omega | (simp; done) | (simp; omega)⟩) (kw (ap1_aBlock v5 (DBlock.mk ((el l v12).fKind) ((el l v12).fLevel) ((el l v12).fInfo) ((el l v12).fText) ((el l v12).fDest) ((el l v12).fTitle) (cpyA ((el l v12).fAttr)) (cpL ((el l v12).fLine)) (rec ((el l v12).fKids) (limI k ((-6)) 6)))) (tn 1 (kn (wrE ((((v12 : Nat) : Int)) + 1) (((v12 + 1 : Nat) : Int)) (by omega)) (tn 1 z)))))))))))))))) (by kernel_rfl) (by kernel_rfl) (by kernel_rfl) ?_
      exact AG ⟨gv5 + 1, _, _, by first | (simp only [wl_append, wl, wBlock_mk, cpyA]; omega) | omega, by first | omega | assumption | (simp only [lenM_eq]; omega) | (simp; done) | (simp; omega), by omega, rfl, rfl⟩ (WK (by kernel_rfl)) (by kernel_rfl) (Nat.lt_succ_self _)
  · have := lenM_eq aBlock l
    refine GO (kb h1 z) (by kernel_rfl) ?_
    refine OUT (tn 2 z) (by kernel_rfl) ?_
    exact EN (by kernel_rfl)
def shfPN : Nat → (List DBlock) → Int → List DBlock
  | 0, _, _ => default
  | n + 1, l, k => shfPS (shfPN n) l k
def shfPb (rec : List DBlock → Int → List DBlock) (n k : Int) (x : DBlock) : DBlock := DBlock.mk x.fKind (cond (x.fKind == 2) (limI ((limI x.fLevel 1 6) + k) 1 6) x.fLevel) x.fInfo x.fText x.fDest x.fTitle (cpyA x.fAttr) (cpL x.fLine) (rec x.fKids k)
theorem shfPS_eq (rec : List DBlock → Int → List DBlock) (l : List DBlock) (k : Int) : shfPS rec l k = l.map (shfPb rec k (limI k (-6) 6)) :=
  loop_map aBlock l (shfPb rec k (limI k (-6) 6)) (shfPS_L0 rec l k) (fun n acc i => by rw [shfPS_L0]; congr 1; simp only [shfPb]; cases ((el l i).fKind == 2) <;> rfl)
theorem map_wl {α β : Type} {w : α → Nat} {w' : β → Nat} {g : α → β} : ∀ {l : List α}, (∀ x ∈ l, w' (g x) ≤ w x) → wl w' (l.map g) ≤ wl w l
  | [], _ => by simp [wl]
  | x :: l, h => by
    have h1 := h x (by simp)
    have h2 := map_wl (l := l) (fun y hy => h y (by simp [hy]))
    simp only [List.map_cons, wl]; omega
theorem shfPN_bd : ∀ (n : Nat) (l : List DBlock) (k : Int), wl wBlock l < n → wl wBlock l ≤ 1073741824 → wl wBlock (shfPN n l k) ≤ wl wBlock l
  | 0, l, k, h, _ => by omega
  | n + 1, l, k, h, hl => by
    rw [shfPN, shfPS_eq]
    refine map_wl (fun x hx => ?_)
    have h1 := wl_mem (w := wBlock) hx
    have h2 := wBlock_eq x
    have h3 := shfPN_bd n x.fKids (limI k (-6) 6) (by omega) (by omega)
    have h4 := cpL_bd x.fLine (by omega)
    simp only [shfPb, wBlock_mk, cpyA]
    simp only [wStr, w1] at h2
    omega
theorem shfPN_to : ∀ (n : Nat) (l : List DBlock) (k : Int), wl wBlock l < n → wl wBlock l ≤ 1073741824 → CallTo Tryz.prog 7 [(jL (l.map aBlock)), (jI (k))] [] [] (jL ((shfPN n l k).map aBlock)) [] []
  | 0, l, k, h0, _ => absurd h0 (Nat.not_lt_zero _)
  | n + 1, l, k, h0, hl => by
    exact shfP_st (shfPN n) l k hl (fun l' k' q1 hl' => shfPN_to n l' k' (by omega) hl') (fun l' k' q1 hl' => shfPN_bd n l' k' (by omega) hl')
def shfP (l : List DBlock) (k : Int) : List DBlock := shfPN (wl wBlock l + 1) l k
theorem shfP_to (l : List DBlock) (k : Int) (hl : wl wBlock l ≤ 1073741824) : CallTo Tryz.prog 7 [(jL (l.map aBlock)), (jI (k))] [] [] (jL ((shfP l k).map aBlock)) [] [] := shfPN_to _ l k (Nat.lt_succ_self _) hl
theorem shfP_bd (l : List DBlock) (k : Int) (hl : wl wBlock l ≤ 1073741824) : wl wBlock (shfP l k) ≤ wl wBlock l := shfPN_bd _ l k (Nat.lt_succ_self _) hl
end Go.Proofs.YtbihjejjekeoiaaGreatDoor
namespace Go.Proofs.YtbihjejjekeoiaaGreatDoor
open Go Go.Eng
def shfRS_L0 (rec : (List DBlock) → Int → List DBlock) (l : List DBlock) (k : Int) : Nat → (List DBlock) → Nat → List DBlock
  | 0, _, _ => default
  | n0 + 1, v5, v6 => cond (decide ((((v6 : Nat) : Int) : Int) < ((lenM aBlock l : Nat) : Int))) (cond ((((el l v6).fKind : Int) == 2)) (shfRS_L0 rec l k n0 (v5 ++ ([DBlock.mk ((el l v6).fKind) (limR ((limR ((el l v6).fLevel) 1 6) + (limR k ((-6)) 6)) 1 6) ((el l v6).fInfo) ((el l v6).fText) ((el l v6).fDest) ((el l v6).fTitle) ((el l v6).fAttr) ((el l v6).fLine) (rec ((el l v6).fKids) k)])) (v6 + 1)) (shfRS_L0 rec l k n0 (v5 ++ ([DBlock.mk ((el l v6).fKind) ((el l v6).fLevel) ((el l v6).fInfo) ((el l v6).fText) ((el l v6).fDest) ((el l v6).fTitle) ((el l v6).fAttr) ((el l v6).fLine) (rec ((el l v6).fKids) k)])) (v6 + 1))) (v5)
def shfRS (rec : (List DBlock) → Int → List DBlock) (l : List DBlock) (k : Int) : List DBlock := shfRS_L0 rec l k ((List.length l - (0)) + 1) ([]) 0
set_option maxRecDepth 100000 in
set_option maxHeartbeats 4000000 in
theorem shfR_st (rec : (List DBlock) → Int → List DBlock) (l : List DBlock) (k : Int) (hl : wl wBlock l ≤ 1073741824) (hrec : ∀ (l' : List DBlock) (k' : Int), wl wBlock l' < wl wBlock l → wl wBlock l' ≤ 1073741824 → CallTo Tryz.prog 9 [(jL ((l').map aBlock)), (jI (k'))] [] [] (jL ((rec l' k').map aBlock)) [] []) (hrb : ∀ (l' : List DBlock) (k' : Int), wl wBlock l' < wl wBlock l → wl wBlock l' ≤ 1073741824 → wl wBlock (rec l' k') ≤ wl wBlock l') : CallTo Tryz.prog 9 [(jL (l.map aBlock)), (jI (k))] [] [] (jL ((shfRS rec l k).map aBlock)) [] [] := by
  have hw_0 := wl_len (w := wBlock) wBlock_pos l
  refine BEG (fun r : List DBlock => (jL (r.map aBlock))) (shfRS rec l k) Tryz.func9 (by kernel_rfl) ?_
  refine UF (shfRS.eq_1 ..) ?_
  refine GO (tn 3 z) (by kernel_rfl) ?_
  refine LP (fun N M S => ∃ gv5 : Nat, ∃ v5 : List DBlock, ∃ v6 : Nat, (wl wBlock v5 ≤ wl wBlock (l.take v6)) ∧ (v6 ≤ l.length) ∧ (List.length l - v6 < N) ∧ M = shfRS_L0 rec l k N v5 v6 ∧ S = (sx 39 [(0, (jL (l.map aBlock))), (1, (jI (k))), (5, (.own (205, 52) (gv5) 11 (v5.map aBlock))), (6, (jI (((v6 : Nat) : Int))))] [] [((205, 52), gv5)])) (by kernel_rfl) ⟨0, _, _, by simp [wl], by first | omega | assumption | (simp only [lenM_eq]; omega) | (simp; done) | (simp; omega), by omega, rfl, rfl⟩ (WKf [(5, (.own (205, 52) ((0)) 11 (([]).map aBlock)))] (ac (show ((([]).map aBlock) : List AV) = [] ∧ 0 < 52 ∧ ((0) : Nat) = (0) from ⟨rfl, by decide, rfl⟩) an) (by kernel_rfl)) ?_
  rintro n0 M S ⟨gv5, v5, v6, hv, hi, hF0, rfl, rfl⟩
  obtain ⟨n0, rfl⟩ : ∃ k, n0 = k + 1 := ⟨n0 - 1, by omega⟩
  refine UF (shfRS_L0.eq_2 ..) ?_
  refine GO (tn 4 z) (by kernel_rfl) ?_
  refine CSd (fun h1p h1 => ?_) (fun h1p h1 => ?_)
  · have := lenM_eq aBlock l
    have hce := wl_el (w := wBlock) (l := l) (i := v6) (by omega)
    have hcw := wBlock_eq (el l v6)
    simp only [wStr, w1] at hcw
    have htk := wl_take (w := wBlock) (l := l) (i := v6) (by omega)
    have hvl := wl_len (w := wBlock) wBlock_pos v5
    have htl := wl_take_le (w := wBlock) l v6
    have hcx := wAttr_eq (el l v6).fAttr
    refine GO (kb h1 (tn 2 (ke (el_aBlock l v6 (by first | omega | (simp only [lenM_eq, true_and]; omega))) (tn 6 z)))) (by kernel_rfl) ?_
    refine CSe (fun h2p h2 => ?_) (fun h2p h2 => ?_)
    · have := limR_bd ((el l v6).fLevel) 1 6
      have := limR_bd k ((-6)) 6
      have := limR_bd ((limR ((el l v6).fLevel) 1 6) + (limR k ((-6)) 6)) 1 6
      have := wl_len (w := wBlock) wBlock_pos (rec ((el l v6).fKids) k)
      have := hrb ((el l v6).fKids) k (by first | assumption | omega | decide | (simp; done) | (simp; omega)) (by first | assumption | omega | decide | (simp; done) | (simp; omega))
      refine GO (kb h2 (tn 2 (kc (limR_to ((el l v6).fLevel) 1 6) (tn 1 (kc (limR_to k ((-6)) 6) (kn (wrE ((limR ((el l v6).fLevel) 1 6) + (limR k ((-6)) 6)) ((limR ((el l v6).fLevel) 1 6) + (limR k ((-6)) 6)) (by omega)) (kc (limR_to ((limR ((el l v6).fLevel) 1 6) + (limR k ((-6)) 6)) 1 6) (tn 5 (kc (hrec ((el l v6).fKids) k (by first | assumption | omega | decide | (simp; done) | (simp; omega)) (by first | assumption | omega | decide | (simp; done) | (simp; omega))) (tn 4 (kp (show Uni 11 [(.agg [(vI ((el l v6).fKind)), (vI (limR ((limR ((el l v6).fLevel) 1 6) + (limR k ((-6)) 6)) 1 6)), (vS ((el l v6).fInfo)), (vS ((el l v6).fText)), (vS ((el l v6).fDest)), (vS ((el l v6).fTitle)), (vS (((el l v6).fAttr).fID)), (.sl ((((el l v6).fAttr).fClasses).map strAV)), (.sl ((((el l v6).fAttr).fPairs).map aPair)), (.sl (((el l v6).fLine).map aInline)), (.sl ((rec ((el l v6).fKids) k).map aBlock))])] from (uni_one rfl rfl)) (kp (show (gv5 : Nat) = gv5 ∧ Uni 11 [(.agg [(vI ((el l v6).fKind)), (vI (limR ((limR ((el l v6).fLevel) 1 6) + (limR k ((-6)) 6)) 1 6)), (vS ((el l v6).fInfo)), (vS ((el l v6).fText)), (vS ((el l v6).fDest)), (vS ((el l v6).fTitle)), (vS (((el l v6).fAttr).fID)), (.sl ((((el l v6).fAttr).fClasses).map strAV)), (.sl ((((el l v6).fAttr).fPairs).map aPair)), (.sl (((el l v6).fLine).map aInline)), (.sl ((rec ((el l v6).fKids) k).map aBlock))])] ∧ (((v5.map aBlock) : List AV).length + ([(.agg [(vI ((el l v6).fKind)), (vI (limR ((limR ((el l v6).fLevel) 1 6) + (limR k ((-6)) 6)) 1 6)), (vS ((el l v6).fInfo)), (vS ((el l v6).fText)), (vS ((el l v6).fDest)), (vS ((el l v6).fTitle)), (vS (((el l v6).fAttr).fID)), (.sl ((((el l v6).fAttr).fClasses).map strAV)), (.sl ((((el l v6).fAttr).fPairs).map aPair)), (.sl (((el l v6).fLine).map aInline)), (.sl ((rec ((el l v6).fKids) k).map aBlock))])] : List AV).length) * 192 ≤ 140737488355328 from ⟨rfl, uni_one rfl rfl, by first | omega | (simp; done) | (simp; omega)⟩) (kw (ap1_aBlock v5 (DBlock.mk ((el l v6).fKind) (limR ((limR ((el l v6).fLevel) 1 6) + (limR k ((-6)) 6)) 1 6) ((el l v6).fInfo) ((el l v6).fText) ((el l v6).fDest) ((el l v6).fTitle) ((el l v6).fAttr) ((el l v6).fLine) (rec ((el l v6).fKids) k))) (tn 2 (kn (wrE ((((v6 : Nat) : Int)) + 1) (((v6 + 1 : Nat) : Int)) (by omega)) (tn 1 z)))))))))))))))) (by kernel_rfl) ?_
      exact AG ⟨gv5 + 1, _, _, by first | (simp only [wl_append, wl, wBlock_mk, cpyA]; omega) | omega, by first | omega | assumption | (simp only [lenM_eq]; omega) | (simp; done) | (simp; omega), by omega, rfl, rfl⟩ (WK (by kernel_rfl)) (by kernel_rfl) (Nat.lt_succ_self _)
    · have := wl_len (w := wBlock) wBlock_pos (rec ((el l v6).fKids) k)
      have := hrb ((el l v6).fKids) k (by first | assumption | omega | decide | (simp; done) | (simp; omega)) (by first | assumption | omega | decide | (simp; done) | (simp; omega))
      refine GO (kb h2 (tn 3 (kc (hrec ((el l v6).fKids) k (by first | assumption | omega | decide | (simp; done) | (simp; omega)) (by first | assumption | omega | decide | (simp; done) | (simp; omega))) (tn 4 (kp (show Uni 11 [(.agg [(vI ((el l v6).fKind)), (vI ((el l v6).fLevel)), (vS ((el l v6).fInfo)), (vS ((el l v6).fText)), (vS ((el l v6).fDest)), (vS ((el l v6).fTitle)), (vS (((el l v6).fAttr).fID)), (.sl ((((el l v6).fAttr).fClasses).map strAV)), (.sl ((((el l v6).fAttr).fPairs).map aPair)), (.sl (((el l v6).fLine).map aInline)), (.sl ((rec ((el l v6).fKids) k).map aBlock))])] from (uni_one rfl rfl)) (kp (show (gv5 : Nat) = gv5 ∧ Uni 11 [(.agg [(vI ((el l v6).fKind)), (vI ((el l v6).fLevel)), (vS ((el l v6).fInfo)), (vS ((el l v6).fText)), (vS ((el l v6).fDest)), (vS ((el l v6).fTitle)), (vS (((el l v6).fAttr).fID)), (.sl ((((el l v6).fAttr).fClasses).map strAV)), (.sl ((((el l v6).fAttr).fPairs).map aPair)), (.sl (((el l v6).fLine).map aInline)), (.sl ((rec ((el l v6).fKids) k).map aBlock))])] ∧ (((v5.map aBlock) : List AV).length + ([(.agg [(vI ((el l v6).fKind)), (vI ((el l v6).fLevel)), (vS ((el l v6).fInfo)), (vS ((el l v6).fText)), (vS ((el l v6).fDest)), (vS ((el l v6).fTitle)), (vS (((el l v6).fAttr).fID)), (.sl ((((el l v6).fAttr).fClasses).map strAV)), (.sl ((((el l v6).fAttr).fPairs).map aPair)), (.sl (((el l v6).fLine).map aInline)), (.sl ((rec ((el l v6).fKids) k).map aBlock))])] : List AV).length) * 192 ≤ 140737488355328 from ⟨rfl, uni_one rfl rfl, by first | omega | (simp; done) | (simp; omega)⟩) (kw (ap1_aBlock v5 (DBlock.mk ((el l v6).fKind) ((el l v6).fLevel) ((el l v6).fInfo) ((el l v6).fText) ((el l v6).fDest) ((el l v6).fTitle) ((el l v6).fAttr) ((el l v6).fLine) (rec ((el l v6).fKids) k))) (tn 2 (kn (wrE ((((v6 : Nat) : Int)) + 1) (((v6 + 1 : Nat) : Int)) (by omega)) (tn 1 z)))))))))) (by kernel_rfl) ?_
      exact AG ⟨gv5 + 1, _, _, by first | (simp only [wl_append, wl, wBlock_mk, cpyA]; omega) | omega, by first | omega | assumption | (simp only [lenM_eq]; omega) | (simp; done) | (simp; omega), by omega, rfl, rfl⟩ (WK (by kernel_rfl)) (by kernel_rfl) (Nat.lt_succ_self _)
  · have := lenM_eq aBlock l
    refine GO (kb h1 z) (by kernel_rfl) ?_
    refine OUT (tn 2 z) (by kernel_rfl) ?_
    exact EN (by kernel_rfl)
def shfRN : Nat → (List DBlock) → Int → List DBlock
  | 0, _, _ => default
  | n + 1, l, k => shfRS (shfRN n) l k
def shfRb (rec : List DBlock → Int → List DBlock) (n k : Int) (x : DBlock) : DBlock := DBlock.mk x.fKind (cond (x.fKind == 2) (limR ((limR x.fLevel 1 6) + k) 1 6) x.fLevel) x.fInfo x.fText x.fDest x.fTitle x.fAttr x.fLine (rec x.fKids n)
theorem shfRS_eq (rec : List DBlock → Int → List DBlock) (l : List DBlock) (k : Int) : shfRS rec l k = l.map (shfRb rec k (limR k (-6) 6)) :=
  loop_map aBlock l (shfRb rec k (limR k (-6) 6)) (shfRS_L0 rec l k) (fun n acc i => by rw [shfRS_L0]; congr 1; simp only [shfRb]; cases ((el l i).fKind == 2) <;> rfl)
theorem shfRN_bd : ∀ (n : Nat) (l : List DBlock) (k : Int), wl wBlock l < n → wl wBlock l ≤ 1073741824 → wl wBlock (shfRN n l k) ≤ wl wBlock l
  | 0, l, k, h, _ => by omega
  | n + 1, l, k, h, hl => by
    rw [shfRN, shfRS_eq]
    refine map_wl (fun x hx => ?_)
    have h1 := wl_mem (w := wBlock) hx
    have h2 := wBlock_eq x
    have h3 := shfRN_bd n x.fKids k (by omega) (by omega)
    have h4 := 0
    simp only [shfRb, wBlock_mk, cpyA]
    simp only [wStr, w1] at h2
    omega
theorem shfRN_to : ∀ (n : Nat) (l : List DBlock) (k : Int), wl wBlock l < n → wl wBlock l ≤ 1073741824 → CallTo Tryz.prog 9 [(jL (l.map aBlock)), (jI (k))] [] [] (jL ((shfRN n l k).map aBlock)) [] []
  | 0, l, k, h0, _ => absurd h0 (Nat.not_lt_zero _)
  | n + 1, l, k, h0, hl => by
    exact shfR_st (shfRN n) l k hl (fun l' k' q1 hl' => shfRN_to n l' k' (by omega) hl') (fun l' k' q1 hl' => shfRN_bd n l' k' (by omega) hl')
def shfR (l : List DBlock) (k : Int) : List DBlock := shfRN (wl wBlock l + 1) l k
theorem shfR_to (l : List DBlock) (k : Int) (hl : wl wBlock l ≤ 1073741824) : CallTo Tryz.prog 9 [(jL (l.map aBlock)), (jI (k))] [] [] (jL ((shfR l k).map aBlock)) [] [] := shfRN_to _ l k (Nat.lt_succ_self _) hl
theorem shfR_bd (l : List DBlock) (k : Int) (hl : wl wBlock l ≤ 1073741824) : wl wBlock (shfR l k) ≤ wl wBlock l := shfRN_bd _ l k (Nat.lt_succ_self _) hl
end Go.Proofs.YtbihjejjekeoiaaGreatDoor
namespace Go.Proofs.YtbihjejjekeoiaaGreatDoor
open Go Go.Eng
def textsB_L0 (a : List ByteArray) (b : List ByteArray) : Nat → Nat → Bool
  | 0, _ => default
  | n0 + 1, v5 => cond (decide ((((v5 : Nat) : Int) : Int) < ((lenM strAV a : Nat) : Int))) (cond ((!eqs (el a v5) (el b v5))) (false) (textsB_L0 a b n0 (v5 + 1))) (true)
def textsB (a : List ByteArray) (b : List ByteArray) : Bool := cond (((((lenM strAV a : Nat) : Int) : Int) != ((lenM strAV b : Nat) : Int))) (false) (textsB_L0 a b ((List.length a - (0)) + 1) 0)
set_option maxRecDepth 100000 in
set_option maxHeartbeats 4000000 in
theorem textsB_to (a : List ByteArray) (b : List ByteArray) (ha : a.length ≤ 1073741824) (hb : b.length ≤ 1073741824) : CallTo Tryz.prog 34 [(jL (a.map strAV)), (jL (b.map strAV))] [] [] (jB (textsB a b)) [] [] := by
  refine BEG (fun r : Bool => (jB (r))) (textsB a b) Tryz.func34 (by kernel_rfl) ?_
  refine UF (textsB.eq_1 ..) ?_
  refine GO (tn 6 z) (by kernel_rfl) ?_
  refine CSn (fun h1p h1 => ?_) (fun h1p h1 => ?_)
  · have := lenM_eq strAV a
    have := lenM_eq strAV b
    refine GO (kb h1 (tn 1 z)) (by kernel_rfl) ?_
    exact EN (by kernel_rfl)
  · have := lenM_eq strAV a
    have := lenM_eq strAV b
    refine GO (kb h1 (tn 1 z)) (by kernel_rfl) ?_
    refine LP (fun N M S => ∃ v5 : Nat, (List.length a - v5 < N) ∧ M = textsB_L0 a b N v5 ∧ S = (sx 26 [(0, (jL (a.map strAV))), (1, (jL (b.map strAV))), (5, (jI (((v5 : Nat) : Int))))] [] [])) (by kernel_rfl) ⟨_, by omega, rfl, rfl⟩ (WK (by kernel_rfl)) ?_
    rintro n0 M S ⟨v5, hF0, rfl, rfl⟩
    obtain ⟨n0, rfl⟩ : ∃ k, n0 = k + 1 := ⟨n0 - 1, by omega⟩
    refine UF (textsB_L0.eq_2 ..) ?_
    refine GO (tn 4 z) (by kernel_rfl) ?_
    refine CSd (fun h2p h2 => ?_) (fun h2p h2 => ?_)
    · have := lenM_eq strAV a
      refine GO (kb h2 z) (by kernel_rfl) ?_
      have d3 := (el_strAV a v5 (by first | omega | (simp only [lenM_eq, true_and]; omega)))
      have d4 := (el_strAV b v5 (by first | omega | (simp only [lenM_eq, true_and]; omega)))
      refine DR3 (tn 2 (ko (eO d3) (kp d3 (tn 3 (ko (eO d4) (kp d4 (tn 2 z))))))) (by kernel_rfl) (by kernel_rfl) (by kernel_rfl) ?_
      refine CS (fun h5 => ?_) (fun h5 => ?_)
      · have h5n := nott h5
        refine GO (kb h5 (tn 1 z)) (by kernel_rfl) ?_
        refine OUT z (by kernel_rfl) ?_
        exact EN (by kernel_rfl)
      · have h5n := notf h5
        refine GO (kb h5 (tn 1 (kn (wrE ((((v5 : Nat) : Int)) + 1) (((v5 + 1 : Nat) : Int)) (by omega)) (tn 1 z)))) (by kernel_rfl) ?_
        exact AG ⟨_, by omega, rfl, rfl⟩ (WK (by kernel_rfl)) (by kernel_rfl) (Nat.lt_succ_self _)
    · have := lenM_eq strAV a
      refine GO (kb h2 z) (by kernel_rfl) ?_
      refine OUT (tn 1 z) (by kernel_rfl) ?_
      exact EN (by kernel_rfl)
def pairsB_L0 (a : List DPair) (b : List DPair) : Nat → Nat → Bool
  | 0, _ => default
  | n0 + 1, v5 => cond (decide ((((v5 : Nat) : Int) : Int) < ((lenM aPair a : Nat) : Int))) (cond ((!(eqs ((el a v5).fKey) ((el b v5).fKey) && (eqs ((el a v5).fValue) ((el b v5).fValue) && true)))) (false) (pairsB_L0 a b n0 (v5 + 1))) (true)
def pairsB (a : List DPair) (b : List DPair) : Bool := cond (((((lenM aPair a : Nat) : Int) : Int) != ((lenM aPair b : Nat) : Int))) (false) (pairsB_L0 a b ((List.length a - (0)) + 1) 0)
set_option maxRecDepth 100000 in
set_option maxHeartbeats 4000000 in
theorem pairsB_to (a : List DPair) (b : List DPair) (ha : a.length ≤ 1073741824) (hb : b.length ≤ 1073741824) : CallTo Tryz.prog 35 [(jL (a.map aPair)), (jL (b.map aPair))] [] [] (jB (pairsB a b)) [] [] := by
  refine BEG (fun r : Bool => (jB (r))) (pairsB a b) Tryz.func35 (by kernel_rfl) ?_
  refine UF (pairsB.eq_1 ..) ?_
  refine GO (tn 6 z) (by kernel_rfl) ?_
  refine CSn (fun h1p h1 => ?_) (fun h1p h1 => ?_)
  · have := lenM_eq aPair a
    have := lenM_eq aPair b
    refine GO (kb h1 (tn 1 z)) (by kernel_rfl) ?_
    exact EN (by kernel_rfl)
  · have := lenM_eq aPair a
    have := lenM_eq aPair b
    refine GO (kb h1 (tn 1 z)) (by kernel_rfl) ?_
    refine LP (fun N M S => ∃ v5 : Nat, (List.length a - v5 < N) ∧ M = pairsB_L0 a b N v5 ∧ S = (sx 26 [(0, (jL (a.map aPair))), (1, (jL (b.map aPair))), (5, (jI (((v5 : Nat) : Int))))] [] [])) (by kernel_rfl) ⟨_, by omega, rfl, rfl⟩ (WK (by kernel_rfl)) ?_
    rintro n0 M S ⟨v5, hF0, rfl, rfl⟩
    obtain ⟨n0, rfl⟩ : ∃ k, n0 = k + 1 := ⟨n0 - 1, by omega⟩
    refine UF (pairsB_L0.eq_2 ..) ?_
    refine GO (tn 4 z) (by kernel_rfl) ?_
    refine CSd (fun h2p h2 => ?_) (fun h2p h2 => ?_)
    · have := lenM_eq aPair a
      refine GO (kb h2 z) (by kernel_rfl) ?_
      have d3 := (el_aPair a v5 (by first | omega | (simp only [lenM_eq, true_and]; omega)))
      have d4 := (el_aPair b v5 (by first | omega | (simp only [lenM_eq, true_and]; omega)))
      refine DR3 (tn 2 (ko (eO d3) (kp d3 (tn 3 (ko (eO d4) (kp d4 (tn 2 z))))))) (by kernel_rfl) (by kernel_rfl) (by kernel_rfl) ?_
      refine CS (fun h5 => ?_) (fun h5 => ?_)
      · have h5n := nott h5
        refine GO (kb h5 (tn 1 z)) (by kernel_rfl) ?_
        refine OUT z (by kernel_rfl) ?_
        exact EN (by kernel_rfl)
      · have h5n := notf h5
        refine GO (kb h5 (tn 1 (kn (wrE ((((v5 : Nat) : Int)) + 1) (((v5 + 1 : Nat) : Int)) (by omega)) (tn 1 z)))) (by kernel_rfl) ?_
        exact AG ⟨_, by omega, rfl, rfl⟩ (WK (by kernel_rfl)) (by kernel_rfl) (Nat.lt_succ_self _)
    · have := lenM_eq aPair a
      refine GO (kb h2 z) (by kernel_rfl) ?_
      refine OUT (tn 1 z) (by kernel_rfl) ?_
      exact EN (by kernel_rfl)
def atsB (a : DAttr) (b : DAttr) : Bool := cond (cond (eqs (a.fID) (b.fID)) (textsB a.fClasses b.fClasses) (false)) (pairsB a.fPairs b.fPairs) (false)
set_option maxRecDepth 100000 in
set_option maxHeartbeats 4000000 in
theorem atsB_to (a : DAttr) (b : DAttr) (ha : wAttr a ≤ 1073741824) (hb : wAttr b ≤ 1073741824) : CallTo Tryz.prog 20 [(.av (cAttr a)), (.av (cAttr b))] [] [] (jB (atsB a b)) [] [] := by
  have hwa := wAttr_eq a
  have hwb := wAttr_eq b
  have hw_0 := wl_len (w := wStr) wStr_pos a.fClasses
  have hw_1 := wl_len (w := wPair) wPair_pos a.fPairs
  have hw_2 := wl_len (w := wStr) wStr_pos b.fClasses
  have hw_3 := wl_len (w := wPair) wPair_pos b.fPairs
  refine BEG (fun r : Bool => (jB (r))) (atsB a b) Tryz.func20 (by kernel_rfl) ?_
  refine UF (atsB.eq_1 ..) ?_
  refine GO (tn 9 (kj (eqs (a.fID) (b.fID)) (tn 4 (hc (fun h => by have j0 := h.2; exact (textsB_to a.fClasses b.fClasses (by first | assumption | omega | decide | (simp; done) | (simp; omega)) (by first | assumption | omega | decide | (simp; done) | (simp; omega)))) z)) z (tn 1 (kj (cond (eqs (a.fID) (b.fID)) (textsB a.fClasses b.fClasses) (false)) (tn 4 (hc (fun h => by have j0 := h.2; obtain ⟨j0a, j0o⟩ := cond_ff j0; exact (pairsB_to a.fPairs b.fPairs (by first | assumption | omega | decide | (simp; done) | (simp; omega)) (by first | assumption | omega | decide | (simp; done) | (simp; omega)))) z)) z (tn 1 z))))) (by kernel_rfl) ?_
  exact EN (by kernel_rfl)
def samLS_L1 (rec : (List DInline) → (List DInline) → Bool) (a : List DInline) (b : List DInline) (v5 : Nat) (k0 : Nat → Bool) : Nat → Nat → Bool
  | 0, _ => default
  | n1 + 1, w8 => cond (decide ((((w8 : Nat) : Int) : Int) < ((lenM aCited ((el a v5).fCites) : Nat) : Int))) (cond ((!(eqs ((el ((el a v5).fCites) w8).fKey) ((el ((el b v5).fCites) w8).fKey) && (eqs ((el ((el a v5).fCites) w8).fPrefix) ((el ((el b v5).fCites) w8).fPrefix) && (eqs ((el ((el a v5).fCites) w8).fSuffix) ((el ((el b v5).fCites) w8).fSuffix) && (((el ((el a v5).fCites) w8).fBare == (el ((el b v5).fCites) w8).fBare) && true)))))) (false) (samLS_L1 rec a b v5 k0 n1 (w8 + 1))) (k0 (v5 + 1))
def samLS_L0 (rec : (List DInline) → (List DInline) → Bool) (a : List DInline) (b : List DInline) : Nat → Nat → Bool
  | 0, _ => default
  | n0 + 1, v5 => cond (decide ((((v5 : Nat) : Int) : Int) < ((lenM aInline a : Nat) : Int))) (cond (cond (cond (cond (cond (cond (cond (cond ((((el a v5).fKind : Int) != (el b v5).fKind)) (true) ((!eqs ((el a v5).fText) ((el b v5).fText)))) (true) ((!eqs ((el a v5).fDest) ((el b v5).fDest)))) (true) ((!eqs ((el a v5).fTitle) ((el b v5).fTitle)))) (true) ((!atsB ((el a v5).fAttr) ((el b v5).fAttr)))) (true) ((!textsB ((el a v5).fArgs) ((el b v5).fArgs)))) (true) (((((lenM aCited ((el a v5).fCites) : Nat) : Int) : Int) != ((lenM aCited ((el b v5).fCites) : Nat) : Int)))) (true) ((!rec ((el a v5).fKids) ((el b v5).fKids)))) (false) (samLS_L1 rec a b v5 (samLS_L0 rec a b n0) ((List.length ((el a v5).fCites) - (0)) + 1) 0)) (true)
def samLS (rec : (List DInline) → (List DInline) → Bool) (a : List DInline) (b : List DInline) : Bool := cond (((((lenM aInline a : Nat) : Int) : Int) != ((lenM aInline b : Nat) : Int))) (false) (samLS_L0 rec a b ((List.length a - (0)) + 1) 0)
set_option maxRecDepth 100000 in
set_option maxHeartbeats 4000000 in
theorem samL_st (rec : (List DInline) → (List DInline) → Bool) (a : List DInline) (b : List DInline) (ha : wl wInline a ≤ 1073741824) (hb : wl wInline b ≤ 1073741824) (hrec : ∀ (a' : List DInline) (b' : List DInline), wl wInline a' < wl wInline a → wl wInline a' ≤ 1073741824 → wl wInline b' ≤ 1073741824 → CallTo Tryz.prog 21 [(jL ((a').map aInline)), (jL ((b').map aInline))] [] [] (jB (rec a' b')) [] []) : CallTo Tryz.prog 21 [(jL (a.map aInline)), (jL (b.map aInline))] [] [] (jB (samLS rec a b)) [] [] := by
  have hw_0 := wl_len (w := wInline) wInline_pos a
  have hw_1 := wl_len (w := wInline) wInline_pos b
  refine BEG (fun r : Bool => (jB (r))) (samLS rec a b) Tryz.func21 (by kernel_rfl) ?_
  refine UF (samLS.eq_1 ..) ?_
  refine GO (tn 6 z) (by kernel_rfl) ?_
  refine CSn (fun h1p h1 => ?_) (fun h1p h1 => ?_)
  · have := lenM_eq aInline a
    have := lenM_eq aInline b
    refine GO (kb h1 (tn 1 z)) (by kernel_rfl) ?_
    exact EN (by kernel_rfl)
  · have := lenM_eq aInline a
    have := lenM_eq aInline b
    refine GO (kb h1 (tn 1 z)) (by kernel_rfl) ?_
    refine LP (fun N M S => ∃ v5 : Nat, (List.length a - v5 < N) ∧ M = samLS_L0 rec a b N v5 ∧ S = (sx 105 [(0, (jL (a.map aInline))), (1, (jL (b.map aInline))), (5, (jI (((v5 : Nat) : Int))))] [] [])) (by kernel_rfl) ⟨_, by omega, rfl, rfl⟩ (WK (by kernel_rfl)) ?_
    rintro n0 M S ⟨v5, hF0, rfl, rfl⟩
    obtain ⟨n0, rfl⟩ : ∃ k, n0 = k + 1 := ⟨n0 - 1, by omega⟩
    refine UF (samLS_L0.eq_2 ..) ?_
    refine GO (tn 4 z) (by kernel_rfl) ?_
    refine CSd (fun h2p h2 => ?_) (fun h2p h2 => ?_)
    · have := lenM_eq aInline a
      have hcea := wl_el (w := wInline) (l := a) (i := v5) (by omega)
      have hcwa := wInline_eq (el a v5)
      simp only [wStr, w1] at hcwa
      have hceb := wl_el (w := wInline) (l := b) (i := v5) (by omega)
      have hcwb := wInline_eq (el b v5)
      simp only [wStr, w1] at hcwb
      have hla0 := wl_len (w := wStr) wStr_pos (el a v5).fArgs
      have hla1 := wl_len (w := wCited) wCited_pos (el a v5).fCites
      have hlb0 := wl_len (w := wStr) wStr_pos (el b v5).fArgs
      have hlb1 := wl_len (w := wCited) wCited_pos (el b v5).fCites
      refine GO (kb h2 z) (by kernel_rfl) ?_
      have d3 := (el_aInline a v5 (by first | omega | (simp only [lenM_eq, true_and]; omega)))
      have d4 := (el_aInline b v5 (by first | omega | (simp only [lenM_eq, true_and]; omega)))
      refine DR3 (tn 2 (ko (eO d3) (kp d3 (tn 5 (ko (eO d4) (kp d4 (kp d4 (tn 12 (kj ((((el a v5).fKind : Int) != (el b v5).fKind)) z (tn 5 z) (tn 1 (kj (cond ((((el a v5).fKind : Int) != (el b v5).fKind)) (true) ((!eqs ((el a v5).fText) ((el b v5).fText)))) z (tn 5 z) (tn 1 (kj (cond (cond ((((el a v5).fKind : Int) != (el b v5).fKind)) (true) ((!eqs ((el a v5).fText) ((el b v5).fText)))) (true) ((!eqs ((el a v5).fDest) ((el b v5).fDest)))) z (tn 5 z) (tn 1 (kj (cond (cond (cond ((((el a v5).fKind : Int) != (el b v5).fKind)) (true) ((!eqs ((el a v5).fText) ((el b v5).fText)))) (true) ((!eqs ((el a v5).fDest) ((el b v5).fDest)))) (true) ((!eqs ((el a v5).fTitle) ((el b v5).fTitle)))) z (tn 4 (hc (fun h => by have j0 := h.2; obtain ⟨j0a, j0o⟩ := cond_tt j0; obtain ⟨j0aa, j0ao⟩ := cond_tt j0a; obtain ⟨j0aaa, j0aao⟩ := cond_tt j0aa; have j0aaap := eq_of_bne_false j0aaa; have j0aaon := notf j0aao; have j0aon := notf j0ao; have j0on := notf j0o; exact (atsB_to ((el a v5).fAttr) ((el b v5).fAttr) (by first | assumption | omega | decide | (simp; done) | (simp; omega)) (by first | assumption | omega | decide | (simp; done) | (simp; omega)))) (tn 1 z))) (tn 1 (kj (cond (cond (cond (cond ((((el a v5).fKind : Int) != (el b v5).fKind)) (true) ((!eqs ((el a v5).fText) ((el b v5).fText)))) (true) ((!eqs ((el a v5).fDest) ((el b v5).fDest)))) (true) ((!eqs ((el a v5).fTitle) ((el b v5).fTitle)))) (true) ((!atsB ((el a v5).fAttr) ((el b v5).fAttr)))) z (tn 4 (hc (fun h => by have j0 := h.2; obtain ⟨j0a, j0o⟩ := cond_tt j0; obtain ⟨j0aa, j0ao⟩ := cond_tt j0a; obtain ⟨j0aaa, j0aao⟩ := cond_tt j0aa; obtain ⟨j0aaaa, j0aaao⟩ := cond_tt j0aaa; have j0aaaap := eq_of_bne_false j0aaaa; have j0aaaon := notf j0aaao; have j0aaon := notf j0aao; have j0aon := notf j0ao; have j0on := notf j0o; exact (textsB_to ((el a v5).fArgs) ((el b v5).fArgs) (by first | assumption | omega | decide | (simp; done) | (simp; omega)) (by first | assumption | omega | decide | (simp; done) | (simp; omega)))) (tn 1 z))) (tn 1 (kj (cond (cond (cond (cond (cond ((((el a v5).fKind : Int) != (el b v5).fKind)) (true) ((!eqs ((el a v5).fText) ((el b v5).fText)))) (true) ((!eqs ((el a v5).fDest) ((el b v5).fDest)))) (true) ((!eqs ((el a v5).fTitle) ((el b v5).fTitle)))) (true) ((!atsB ((el a v5).fAttr) ((el b v5).fAttr)))) (true) ((!textsB ((el a v5).fArgs) ((el b v5).fArgs)))) z (tn 7 z) (tn 1 (kj (cond (cond (cond (cond (cond (cond ((((el a v5).fKind : Int) != (el b v5).fKind)) (true) ((!eqs ((el a v5).fText) ((el b v5).fText)))) (true) ((!eqs ((el a v5).fDest) ((el b v5).fDest)))) (true) ((!eqs ((el a v5).fTitle) ((el b v5).fTitle)))) (true) ((!atsB ((el a v5).fAttr) ((el b v5).fAttr)))) (true) ((!textsB ((el a v5).fArgs) ((el b v5).fArgs)))) (true) (((((lenM aCited ((el a v5).fCites) : Nat) : Int) : Int) != ((lenM aCited ((el b v5).fCites) : Nat) : Int)))) z (tn 4 (hc (fun h => by have j0 := h.2; have := lenM_eq aCited ((el a v5).fCites); have := lenM_eq aCited ((el b v5).fCites); obtain ⟨j0a, j0o⟩ := cond_tt j0; obtain ⟨j0aa, j0ao⟩ := cond_tt j0a; obtain ⟨j0aaa, j0aao⟩ := cond_tt j0aa; obtain ⟨j0aaaa, j0aaao⟩ := cond_tt j0aaa; obtain ⟨j0aaaaa, j0aaaao⟩ := cond_tt j0aaaa; obtain ⟨j0aaaaaa, j0aaaaao⟩ := cond_tt j0aaaaa; have j0aaaaaap := eq_of_bne_false j0aaaaaa; have j0aaaaaon := notf j0aaaaao; have j0aaaaon := notf j0aaaao; have j0aaaon := notf j0aaao; have j0aaon := notf j0aao; have j0aon := notf j0ao; have := lenM_eq aCited ((el a v5).fCites); have := lenM_eq aCited ((el b v5).fCites); have j0op := eq_of_bne_false j0o; exact (hrec ((el a v5).fKids) ((el b v5).fKids) (by first | assumption | omega | decide | (simp; done) | (simp; omega)) (by first | assumption | omega | decide | (simp; done) | (simp; omega)) (by first | assumption | omega | decide | (simp; done) | (simp; omega)))) (tn 1 z))) z))))))))))))))))))))) (by kernel_rfl) (by kernel_rfl) (by kernel_rfl) ?_
      refine CS (fun h5 => ?_) (fun h5 => ?_)
      · have := lenM_eq aCited ((el a v5).fCites)
        have := lenM_eq aCited ((el b v5).fCites)
        refine GO (kb h5 (tn 1 z)) (by kernel_rfl) ?_
        refine OUT z (by kernel_rfl) ?_
        exact EN (by kernel_rfl)
      · have := lenM_eq aCited ((el a v5).fCites)
        have := lenM_eq aCited ((el b v5).fCites)
        obtain ⟨h5a, h5o⟩ := cond_tt h5
        have := lenM_eq aCited ((el a v5).fCites)
        have := lenM_eq aCited ((el b v5).fCites)
        obtain ⟨h5aa, h5ao⟩ := cond_tt h5a
        obtain ⟨h5aaa, h5aao⟩ := cond_tt h5aa
        obtain ⟨h5aaaa, h5aaao⟩ := cond_tt h5aaa
        obtain ⟨h5aaaaa, h5aaaao⟩ := cond_tt h5aaaa
        obtain ⟨h5aaaaaa, h5aaaaao⟩ := cond_tt h5aaaaa
        obtain ⟨h5aaaaaaa, h5aaaaaao⟩ := cond_tt h5aaaaaa
        have h5aaaaaaap := eq_of_bne_false h5aaaaaaa
        have h5aaaaaaon := notf h5aaaaaao
        have h5aaaaaon := notf h5aaaaao
        have h5aaaaon := notf h5aaaao
        have h5aaaon := notf h5aaao
        have h5aaon := notf h5aao
        have := lenM_eq aCited ((el a v5).fCites)
        have := lenM_eq aCited ((el b v5).fCites)
        have h5aop := eq_of_bne_false h5ao
        have h5on := notf h5o
        refine GO (kb h5 (tn 1 z)) (by kernel_rfl) ?_
        refine LP (fun N M S => ∃ w8 : Nat, (List.length ((el a v5).fCites) - w8 < N) ∧ M = samLS_L1 rec a b v5 (samLS_L0 rec a b n0) N w8 ∧ S = (sx 105 [(0, (jL (a.map aInline))), (1, (jL (b.map aInline))), (5, (jI (((v5 : Nat) : Int)))), (6, (.ptr 6 0)), (7, (.ptr 7 0)), (8, (jI (((w8 : Nat) : Int)))), (20, (jL (a.map aInline))), (21, (jI (((v5 : Nat) : Int)))), (22, (.av (.ro [(vI ((el a v5).fKind)), (vS ((el a v5).fText)), (vS ((el a v5).fDest)), (vS ((el a v5).fTitle)), (vS (((el a v5).fAttr).fID)), (.sl ((((el a v5).fAttr).fClasses).map strAV)), (.sl ((((el a v5).fAttr).fPairs).map aPair)), (.sl (((el a v5).fArgs).map strAV)), (.sl (((el a v5).fCites).map aCited)), (.sl (((el a v5).fKids).map aInline))] 0))), (23, (.av (cInline (el a v5)))), (24, (jL (b.map aInline))), (25, (jI (((v5 : Nat) : Int)))), (26, (.av (.ro [(vI ((el b v5).fKind)), (vS ((el b v5).fText)), (vS ((el b v5).fDest)), (vS ((el b v5).fTitle)), (vS (((el b v5).fAttr).fID)), (.sl ((((el b v5).fAttr).fClasses).map strAV)), (.sl ((((el b v5).fAttr).fPairs).map aPair)), (.sl (((el b v5).fArgs).map strAV)), (.sl (((el b v5).fCites).map aCited)), (.sl (((el b v5).fKids).map aInline))] 0))), (27, (.av (cInline (el b v5))))] [(7, (.cells 77 (sInline (el b v5)))), (6, (.cells 77 (sInline (el a v5))))] [])) (by kernel_rfl) ⟨_, by omega, rfl, rfl⟩ (WK (by kernel_rfl)) ?_
        rintro n1 M S ⟨w8, hF1, rfl, rfl⟩
        obtain ⟨n1, rfl⟩ : ∃ k, n1 = k + 1 := ⟨n1 - 1, by omega⟩
        refine UF (samLS_L1.eq_2 ..) ?_
        refine GO (tn 5 z) (by kernel_rfl) ?_
        refine CSd (fun h6p h6 => ?_) (fun h6p h6 => ?_)
        · have := lenM_eq aCited ((el a v5).fCites)
          refine GO (kb h6 z) (by kernel_rfl) ?_
          have d7 := (el_aCited ((el a v5).fCites) w8 (by first | omega | (simp only [lenM_eq, true_and]; omega)))
          have d8 := (el_aCited ((el b v5).fCites) w8 (by first | omega | (simp only [lenM_eq, true_and]; omega)))
          refine DR3 (tn 3 (ko (eO d7) (kp d7 (tn 4 (ko (eO d8) (kp d8 (tn 2 z))))))) (by kernel_rfl) (by kernel_rfl) (by kernel_rfl) ?_
          refine CS (fun h9 => ?_) (fun h9 => ?_)
          · have h9n := nott h9
            refine GO (kb h9 (tn 1 z)) (by kernel_rfl) ?_
            refine OUT z (by kernel_rfl) ?_
            refine OUT z (by kernel_rfl) ?_
            exact EN (by kernel_rfl)
          · have h9n := notf h9
            refine GO (kb h9 (tn 1 (kn (wrE ((((w8 : Nat) : Int)) + 1) (((w8 + 1 : Nat) : Int)) (by omega)) (tn 1 z)))) (by kernel_rfl) ?_
            exact AG ⟨_, by omega, rfl, rfl⟩ (WK (by kernel_rfl)) (by kernel_rfl) (Nat.lt_succ_self _)
        · have := lenM_eq aCited ((el a v5).fCites)
          refine GO (kb h6 z) (by kernel_rfl) ?_
          refine OUT (tn 1 (kn (wrE ((((v5 : Nat) : Int)) + 1) (((v5 + 1 : Nat) : Int)) (by omega)) (tn 1 z))) (by kernel_rfl) ?_
          exact AG ⟨_, by omega, rfl, rfl⟩ (WK (by kernel_rfl)) (by kernel_rfl) (Nat.lt_succ_self _)
    · have := lenM_eq aInline a
      refine GO (kb h2 z) (by kernel_rfl) ?_
      refine OUT (tn 1 z) (by kernel_rfl) ?_
      exact EN (by kernel_rfl)
def samLN : Nat → (List DInline) → (List DInline) → Bool
  | 0, _, _ => default
  | n + 1, a, b => samLS (samLN n) a b
theorem samLN_to : ∀ (n : Nat) (a : List DInline) (b : List DInline), wl wInline a < n → wl wInline a ≤ 1073741824 → wl wInline b ≤ 1073741824 → CallTo Tryz.prog 21 [(jL (a.map aInline)), (jL (b.map aInline))] [] [] (jB (samLN n a b)) [] []
  | 0, a, b, h0, _, _ => absurd h0 (Nat.not_lt_zero _)
  | n + 1, a, b, h0, ha, hb => by
    exact samL_st (samLN n) a b ha hb (fun a' b' q1 ha' hb' => samLN_to n a' b' (by omega) ha' hb')
def samL (a : List DInline) (b : List DInline) : Bool := samLN (wl wInline a + 1) a b
theorem samL_to (a : List DInline) (b : List DInline) (ha : wl wInline a ≤ 1073741824) (hb : wl wInline b ≤ 1073741824) : CallTo Tryz.prog 21 [(jL (a.map aInline)), (jL (b.map aInline))] [] [] (jB (samL a b)) [] [] := samLN_to _ a b (Nat.lt_succ_self _) ha hb
def samBS_L0 (rec : (List DBlock) → (List DBlock) → Bool) (a : List DBlock) (b : List DBlock) : Nat → Nat → Bool
  | 0, _ => default
  | n0 + 1, v5 => cond (decide ((((v5 : Nat) : Int) : Int) < ((lenM aBlock a : Nat) : Int))) (cond (cond (cond (cond (cond (cond (cond (cond (cond ((((el a v5).fKind : Int) != (el b v5).fKind)) (true) ((((el a v5).fLevel : Int) != (el b v5).fLevel))) (true) ((!eqs ((el a v5).fInfo) ((el b v5).fInfo)))) (true) ((!eqs ((el a v5).fText) ((el b v5).fText)))) (true) ((!eqs ((el a v5).fDest) ((el b v5).fDest)))) (true) ((!eqs ((el a v5).fTitle) ((el b v5).fTitle)))) (true) ((!atsB ((el a v5).fAttr) ((el b v5).fAttr)))) (true) ((!samL ((el a v5).fLine) ((el b v5).fLine)))) (true) ((!rec ((el a v5).fKids) ((el b v5).fKids)))) (false) (samBS_L0 rec a b n0 (v5 + 1))) (true)
def samBS (rec : (List DBlock) → (List DBlock) → Bool) (a : List DBlock) (b : List DBlock) : Bool := cond (((((lenM aBlock a : Nat) : Int) : Int) != ((lenM aBlock b : Nat) : Int))) (false) (samBS_L0 rec a b ((List.length a - (0)) + 1) 0)
set_option maxRecDepth 100000 in
set_option maxHeartbeats 4000000 in
theorem samB_st (rec : (List DBlock) → (List DBlock) → Bool) (a : List DBlock) (b : List DBlock) (ha : wl wBlock a ≤ 1073741824) (hb : wl wBlock b ≤ 1073741824) (hrec : ∀ (a' : List DBlock) (b' : List DBlock), wl wBlock a' < wl wBlock a → wl wBlock a' ≤ 1073741824 → wl wBlock b' ≤ 1073741824 → CallTo Tryz.prog 8 [(jL ((a').map aBlock)), (jL ((b').map aBlock))] [] [] (jB (rec a' b')) [] []) : CallTo Tryz.prog 8 [(jL (a.map aBlock)), (jL (b.map aBlock))] [] [] (jB (samBS rec a b)) [] [] := by
  have hw_0 := wl_len (w := wBlock) wBlock_pos a
  have hw_1 := wl_len (w := wBlock) wBlock_pos b
  refine BEG (fun r : Bool => (jB (r))) (samBS rec a b) Tryz.func8 (by kernel_rfl) ?_
  refine UF (samBS.eq_1 ..) ?_
  refine GO (tn 6 z) (by kernel_rfl) ?_
  refine CSn (fun h1p h1 => ?_) (fun h1p h1 => ?_)
  · have := lenM_eq aBlock a
    have := lenM_eq aBlock b
    refine GO (kb h1 (tn 1 z)) (by kernel_rfl) ?_
    exact EN (by kernel_rfl)
  · have := lenM_eq aBlock a
    have := lenM_eq aBlock b
    refine GO (kb h1 (tn 1 z)) (by kernel_rfl) ?_
    refine LP (fun N M S => ∃ v5 : Nat, (List.length a - v5 < N) ∧ M = samBS_L0 rec a b N v5 ∧ S = (sx 91 [(0, (jL (a.map aBlock))), (1, (jL (b.map aBlock))), (5, (jI (((v5 : Nat) : Int))))] [] [])) (by kernel_rfl) ⟨_, by omega, rfl, rfl⟩ (WK (by kernel_rfl)) ?_
    rintro n0 M S ⟨v5, hF0, rfl, rfl⟩
    obtain ⟨n0, rfl⟩ : ∃ k, n0 = k + 1 := ⟨n0 - 1, by omega⟩
    refine UF (samBS_L0.eq_2 ..) ?_
    refine GO (tn 4 z) (by kernel_rfl) ?_
    refine CSd (fun h2p h2 => ?_) (fun h2p h2 => ?_)
    · have := lenM_eq aBlock a
      have hcea := wl_el (w := wBlock) (l := a) (i := v5) (by omega)
      have hcwa := wBlock_eq (el a v5)
      simp only [wStr, w1] at hcwa
      have hceb := wl_el (w := wBlock) (l := b) (i := v5) (by omega)
      have hcwb := wBlock_eq (el b v5)
      simp only [wStr, w1] at hcwb
      refine GO (kb h2 z) (by kernel_rfl) ?_
      have d3 := (el_aBlock a v5 (by first | omega | (simp only [lenM_eq, true_and]; omega)))
      have d4 := (el_aBlock b v5 (by first | omega | (simp only [lenM_eq, true_and]; omega)))
      refine DR3 (tn 2 (ko (eO d3) (kp d3 (tn 5 (ko (eO d4) (kp d4 (kp d4 (tn 12 (kj ((((el a v5).fKind : Int) != (el b v5).fKind)) z (tn 5 z) (tn 1 (kj (cond ((((el a v5).fKind : Int) != (el b v5).fKind)) (true) ((((el a v5).fLevel : Int) != (el b v5).fLevel))) z (tn 5 z) (tn 1 (kj (cond (cond ((((el a v5).fKind : Int) != (el b v5).fKind)) (true) ((((el a v5).fLevel : Int) != (el b v5).fLevel))) (true) ((!eqs ((el a v5).fInfo) ((el b v5).fInfo)))) z (tn 5 z) (tn 1 (kj (cond (cond (cond ((((el a v5).fKind : Int) != (el b v5).fKind)) (true) ((((el a v5).fLevel : Int) != (el b v5).fLevel))) (true) ((!eqs ((el a v5).fInfo) ((el b v5).fInfo)))) (true) ((!eqs ((el a v5).fText) ((el b v5).fText)))) z (tn 5 z) (tn 1 (kj (cond (cond (cond (cond ((((el a v5).fKind : Int) != (el b v5).fKind)) (true) ((((el a v5).fLevel : Int) != (el b v5).fLevel))) (true) ((!eqs ((el a v5).fInfo) ((el b v5).fInfo)))) (true) ((!eqs ((el a v5).fText) ((el b v5).fText)))) (true) ((!eqs ((el a v5).fDest) ((el b v5).fDest)))) z (tn 5 z) (tn 1 (kj (cond (cond (cond (cond (cond ((((el a v5).fKind : Int) != (el b v5).fKind)) (true) ((((el a v5).fLevel : Int) != (el b v5).fLevel))) (true) ((!eqs ((el a v5).fInfo) ((el b v5).fInfo)))) (true) ((!eqs ((el a v5).fText) ((el b v5).fText)))) (true) ((!eqs ((el a v5).fDest) ((el b v5).fDest)))) (true) ((!eqs ((el a v5).fTitle) ((el b v5).fTitle)))) z (tn 4 (hc (fun h => by have j0 := h.2; obtain ⟨j0a, j0o⟩ := cond_tt j0; obtain ⟨j0aa, j0ao⟩ := cond_tt j0a; obtain ⟨j0aaa, j0aao⟩ := cond_tt j0aa; obtain ⟨j0aaaa, j0aaao⟩ := cond_tt j0aaa; obtain ⟨j0aaaaa, j0aaaao⟩ := cond_tt j0aaaa; have j0aaaaap := eq_of_bne_false j0aaaaa; have j0aaaaop := eq_of_bne_false j0aaaao; have j0aaaon := notf j0aaao; have j0aaon := notf j0aao; have j0aon := notf j0ao; have j0on := notf j0o; exact (atsB_to ((el a v5).fAttr) ((el b v5).fAttr) (by first | assumption | omega | decide | (simp; done) | (simp; omega)) (by first | assumption | omega | decide | (simp; done) | (simp; omega)))) (tn 1 z))) (tn 1 (kj (cond (cond (cond (cond (cond (cond ((((el a v5).fKind : Int) != (el b v5).fKind)) (true) ((((el a v5).fLevel : Int) != (el b v5).fLevel))) (true) ((!eqs ((el a v5).fInfo) ((el b v5).fInfo)))) (true) ((!eqs ((el a v5).fText) ((el b v5).fText)))) (true) ((!eqs ((el a v5).fDest) ((el b v5).fDest)))) (true) ((!eqs ((el a v5).fTitle) ((el b v5).fTitle)))) (true) ((!atsB ((el a v5).fAttr) ((el b v5).fAttr)))) z (tn 4 (hc (fun h => by have j0 := h.2; obtain ⟨j0a, j0o⟩ := cond_tt j0; obtain ⟨j0aa, j0ao⟩ := cond_tt j0a; obtain ⟨j0aaa, j0aao⟩ := cond_tt j0aa; obtain ⟨j0aaaa, j0aaao⟩ := cond_tt j0aaa; obtain ⟨j0aaaaa, j0aaaao⟩ := cond_tt j0aaaa; obtain ⟨j0aaaaaa, j0aaaaao⟩ := cond_tt j0aaaaa; have j0aaaaaap := eq_of_bne_false j0aaaaaa; have j0aaaaaop := eq_of_bne_false j0aaaaao; have j0aaaaon := notf j0aaaao; have j0aaaon := notf j0aaao; have j0aaon := notf j0aao; have j0aon := notf j0ao; have j0on := notf j0o; exact (samL_to ((el a v5).fLine) ((el b v5).fLine) (by first | assumption | omega | decide | (simp; done) | (simp; omega)) (by first | assumption | omega | decide | (simp; done) | (simp; omega)))) (tn 1 z))) (tn 1 (kj (cond (cond (cond (cond (cond (cond (cond ((((el a v5).fKind : Int) != (el b v5).fKind)) (true) ((((el a v5).fLevel : Int) != (el b v5).fLevel))) (true) ((!eqs ((el a v5).fInfo) ((el b v5).fInfo)))) (true) ((!eqs ((el a v5).fText) ((el b v5).fText)))) (true) ((!eqs ((el a v5).fDest) ((el b v5).fDest)))) (true) ((!eqs ((el a v5).fTitle) ((el b v5).fTitle)))) (true) ((!atsB ((el a v5).fAttr) ((el b v5).fAttr)))) (true) ((!samL ((el a v5).fLine) ((el b v5).fLine)))) z (tn 4 (hc (fun h => by have j0 := h.2; obtain ⟨j0a, j0o⟩ := cond_tt j0; obtain ⟨j0aa, j0ao⟩ := cond_tt j0a; obtain ⟨j0aaa, j0aao⟩ := cond_tt j0aa; obtain ⟨j0aaaa, j0aaao⟩ := cond_tt j0aaa; obtain ⟨j0aaaaa, j0aaaao⟩ := cond_tt j0aaaa; obtain ⟨j0aaaaaa, j0aaaaao⟩ := cond_tt j0aaaaa; obtain ⟨j0aaaaaaa, j0aaaaaao⟩ := cond_tt j0aaaaaa; have j0aaaaaaap := eq_of_bne_false j0aaaaaaa; have j0aaaaaaop := eq_of_bne_false j0aaaaaao; have j0aaaaaon := notf j0aaaaao; have j0aaaaon := notf j0aaaao; have j0aaaon := notf j0aaao; have j0aaon := notf j0aao; have j0aon := notf j0ao; have j0on := notf j0o; exact (hrec ((el a v5).fKids) ((el b v5).fKids) (by first | assumption | omega | decide | (simp; done) | (simp; omega)) (by first | assumption | omega | decide | (simp; done) | (simp; omega)) (by first | assumption | omega | decide | (simp; done) | (simp; omega)))) (tn 1 z))) z))))))))))))))))))))))) (by kernel_rfl) (by kernel_rfl) (by kernel_rfl) ?_
      refine CS (fun h5 => ?_) (fun h5 => ?_)
      · refine GO (kb h5 (tn 1 z)) (by kernel_rfl) ?_
        refine OUT z (by kernel_rfl) ?_
        exact EN (by kernel_rfl)
      · obtain ⟨h5a, h5o⟩ := cond_tt h5
        obtain ⟨h5aa, h5ao⟩ := cond_tt h5a
        obtain ⟨h5aaa, h5aao⟩ := cond_tt h5aa
        obtain ⟨h5aaaa, h5aaao⟩ := cond_tt h5aaa
        obtain ⟨h5aaaaa, h5aaaao⟩ := cond_tt h5aaaa
        obtain ⟨h5aaaaaa, h5aaaaao⟩ := cond_tt h5aaaaa
        obtain ⟨h5aaaaaaa, h5aaaaaao⟩ := cond_tt h5aaaaaa
        obtain ⟨h5aaaaaaaa, h5aaaaaaao⟩ := cond_tt h5aaaaaaa
        have h5aaaaaaaap := eq_of_bne_false h5aaaaaaaa
        have h5aaaaaaaop := eq_of_bne_false h5aaaaaaao
        have h5aaaaaaon := notf h5aaaaaao
        have h5aaaaaon := notf h5aaaaao
        have h5aaaaon := notf h5aaaao
        have h5aaaon := notf h5aaao
        have h5aaon := notf h5aao
        have h5aon := notf h5ao
        have h5on := notf h5o
        refine GO (kb h5 (tn 1 (kn (wrE ((((v5 : Nat) : Int)) + 1) (((v5 + 1 : Nat) : Int)) (by omega)) (tn 1 z)))) (by kernel_rfl) ?_
        exact AG ⟨_, by omega, rfl, rfl⟩ (WK (by kernel_rfl)) (by kernel_rfl) (Nat.lt_succ_self _)
    · have := lenM_eq aBlock a
      refine GO (kb h2 z) (by kernel_rfl) ?_
      refine OUT (tn 1 z) (by kernel_rfl) ?_
      exact EN (by kernel_rfl)
def samBN : Nat → (List DBlock) → (List DBlock) → Bool
  | 0, _, _ => default
  | n + 1, a, b => samBS (samBN n) a b
theorem samBN_to : ∀ (n : Nat) (a : List DBlock) (b : List DBlock), wl wBlock a < n → wl wBlock a ≤ 1073741824 → wl wBlock b ≤ 1073741824 → CallTo Tryz.prog 8 [(jL (a.map aBlock)), (jL (b.map aBlock))] [] [] (jB (samBN n a b)) [] []
  | 0, a, b, h0, _, _ => absurd h0 (Nat.not_lt_zero _)
  | n + 1, a, b, h0, ha, hb => by
    exact samB_st (samBN n) a b ha hb (fun a' b' q1 ha' hb' => samBN_to n a' b' (by omega) ha' hb')
def samB (a : List DBlock) (b : List DBlock) : Bool := samBN (wl wBlock a + 1) a b
theorem samB_to (a : List DBlock) (b : List DBlock) (ha : wl wBlock a ≤ 1073741824) (hb : wl wBlock b ≤ 1073741824) : CallTo Tryz.prog 8 [(jL (a.map aBlock)), (jL (b.map aBlock))] [] [] (jB (samB a b)) [] [] := samBN_to _ a b (Nat.lt_succ_self _) ha hb
end Go.Proofs.YtbihjejjekeoiaaGreatDoor
namespace Go.Proofs.YtbihjejjekeoiaaGreatDoor
open Go Go.Eng
def ishM (l : List DBlock) (k : Int) : Bool := cond ((!smlD (DDoc.mk ([]) l))) (true) (cond (cond (samB (shfP l k) (shfR l k)) (samB (shfP (shfP l k) 0) (shfP l k)) (false)) (true) (false))
set_option maxRecDepth 100000 in
set_option maxHeartbeats 4000000 in
theorem ishM_to (l : List DBlock) (k : Int) (hl : wl wBlock l ≤ 536870912) : CallTo Tryz.prog 3 [(jL (l.map aBlock)), (jI (k))] [] [] (jB (ishM l k)) [] [] := by
  have hw_0 := wl_len (w := wBlock) wBlock_pos l
  have hdm : wDoc (DDoc.mk ([]) l) ≤ 1073741824 := by rw [wDoc_eq]; simp only [wl]; omega
  refine BEG (fun r : Bool => (jB (r))) (ishM l k) Tryz.func3 (by kernel_rfl) ?_
  refine UF (ishM.eq_1 ..) ?_
  refine GO (tn 3 (kc (smlD_to (DDoc.mk ([]) l) (by first | assumption | omega | decide | (simp; done) | (simp; omega))) (tn 1 z))) (by kernel_rfl) ?_
  refine CS (fun h1 => ?_) (fun h1 => ?_)
  · have h1n := nott h1
    refine GO (kb h1 (kc awake_to (tn 1 z))) (by kernel_rfl) ?_
    exact EN (by kernel_rfl)
  · have h1n := notf h1
    have := shfP_bd l k (by first | assumption | omega | decide | (simp; done) | (simp; omega))
    have := shfR_bd l k (by first | assumption | omega | decide | (simp; done) | (simp; omega))
    refine GO (kb h1 (tn 2 (kc (shfP_to l k (by first | assumption | omega | decide | (simp; done) | (simp; omega))) (tn 4 (kc (shfR_to l k (by first | assumption | omega | decide | (simp; done) | (simp; omega))) (kc (samB_to (shfP l k) (shfR l k) (by first | assumption | omega | decide | (simp; done) | (simp; omega)) (by first | assumption | omega | decide | (simp; done) | (simp; omega))) (tn 1 (kj (samB (shfP l k) (shfR l k)) (tn 1 (hc (fun h => by have j0 := h.2; have := shfP_bd (shfP l k) 0 (by first | assumption | omega | decide | (simp; done) | (simp; omega)); exact (shfP_to (shfP l k) 0 (by first | assumption | omega | decide | (simp; done) | (simp; omega)))) (tn 1 (hc (fun h => by have j0 := h.2; have := shfP_bd (shfP l k) 0 (by first | assumption | omega | decide | (simp; done) | (simp; omega)); exact (samB_to (shfP (shfP l k) 0) (shfP l k) (by first | assumption | omega | decide | (simp; done) | (simp; omega)) (by first | assumption | omega | decide | (simp; done) | (simp; omega)))) z)))) z (tn 1 (kj (cond (samB (shfP l k) (shfR l k)) (samB (shfP (shfP l k) 0) (shfP l k)) (false)) (kc awake_to z) z (tn 1 z))))))))))) (by kernel_rfl) ?_
    exact EN (by kernel_rfl)
end Go.Proofs.YtbihjejjekeoiaaGreatDoor
namespace Go.Proofs.YtbihjejjekeoiaaGreatDoor
open Go Go.Eng
theorem dT {p : Prop} [Decidable p] (h : p) : decide p = true := decide_eq_true h
theorem dF {p : Prop} [Decidable p] (h : ¬ p) : decide p = false := decide_eq_false h
theorem eqs_self (s : ByteArray) : eqs s s = true := by simp [eqs]
/-- A loop that never leaves. -/
theorem loop_true {α : Type} [Inhabited α] (f : α → AV) (l : List α) (F : Nat → Nat → Bool) (hF : ∀ n i, i < l.length → F (n + 1) i = cond (decide ((((i : Nat) : Int) : Int) < ((lenM f l : Nat) : Int))) (F n (i + 1)) true)
    (hz : ∀ n i, ¬ i < l.length → F (n + 1) i = true) : ∀ (n i : Nat), l.length - i < n → F n i = true
  | 0, i, h => by omega
  | n + 1, i, h => by
    have hl := lenM_eq f l
    by_cases hi : i < l.length
    · rw [hF n i hi, dT (by omega), cond_true, loop_true f l F hF hz n _ (by omega)]
    · exact hz n i hi
theorem bne_self (a : Int) : (a != a) = false := by simp
theorem textsB_self (a : List ByteArray) : textsB a a = true := by
  unfold textsB
  rw [bne_self, cond_false]
  refine loop_true strAV a (textsB_L0 a a) (fun n i hi => ?_) (fun n i hi => ?_) _ _ (by omega)
  · rw [textsB_L0, eqs_self]; rfl
  · have hl := lenM_eq strAV a
    rw [textsB_L0, dF (by omega)]; rfl
theorem pairsB_self (a : List DPair) : pairsB a a = true := by
  unfold pairsB
  rw [bne_self, cond_false]
  refine loop_true aPair a (pairsB_L0 a a) (fun n i hi => ?_) (fun n i hi => ?_) _ _ (by omega)
  · rw [pairsB_L0, eqs_self, eqs_self]; rfl
  · have hl := lenM_eq aPair a
    rw [pairsB_L0, dF (by omega)]; rfl
theorem atsB_self (a : DAttr) : atsB a a = true := by unfold atsB; rw [eqs_self, textsB_self, pairsB_self]; rfl
theorem samLS_self (rec : List DInline → List DInline → Bool) (a : List DInline) (hr : ∀ x ∈ a, rec x.fKids x.fKids = true) : samLS rec a a = true := by
  unfold samLS
  rw [bne_self, cond_false]
  have hin : ∀ (v5 : Nat) (k0 : Nat → Bool) (n w : Nat), (el a v5).fCites.length - w < n → samLS_L1 rec a a v5 k0 n w = k0 (v5 + 1) := by
    intro v5 k0 n
    induction n with
    | zero => intro w h; omega
    | succ n ih =>
      intro w h
      have hl := lenM_eq aCited (el a v5).fCites
      rw [samLS_L1]
      by_cases hi : w < (el a v5).fCites.length
      · rw [dT (by omega), cond_true, eqs_self, eqs_self, eqs_self, beq_self_eq_true, ih _ (by omega)]; rfl
      · rw [dF (by omega)]; rfl
  refine loop_true aInline a (samLS_L0 rec a a) (fun n i hi => ?_) (fun n i hi => ?_) _ _ (by omega)
  · rw [samLS_L0, bne_self, eqs_self, eqs_self, eqs_self, atsB_self, textsB_self, bne_self, hr _ (el_mem hi), hin _ _ _ _ (by omega)]; rfl
  · have hl := lenM_eq aInline a
    rw [samLS_L0, dF (by omega)]; rfl
theorem samLN_self : ∀ (n : Nat) (a : List DInline), wl wInline a < n → samLN n a a = true
  | 0, a, h => by omega
  | n + 1, a, h => by
    rw [samLN]
    refine samLS_self _ a (fun x hx => ?_)
    have h1 := wl_mem (w := wInline) hx
    have h2 := wInline_eq x
    exact samLN_self n x.fKids (by omega)
theorem samL_self (a : List DInline) : samL a a = true := samLN_self _ a (by omega)
theorem samBS_self (rec : List DBlock → List DBlock → Bool) (a : List DBlock) (hr : ∀ x ∈ a, rec x.fKids x.fKids = true) : samBS rec a a = true := by
  unfold samBS
  rw [bne_self, cond_false]
  refine loop_true aBlock a (samBS_L0 rec a a) (fun n i hi => ?_) (fun n i hi => ?_) _ _ (by omega)
  · rw [samBS_L0, bne_self, bne_self, eqs_self, eqs_self, eqs_self, eqs_self, atsB_self, samL_self, hr _ (el_mem hi)]; rfl
  · have hl := lenM_eq aBlock a
    rw [samBS_L0, dF (by omega)]; rfl
theorem samBN_self : ∀ (n : Nat) (a : List DBlock), wl wBlock a < n → samBN n a a = true
  | 0, a, h => by omega
  | n + 1, a, h => by
    rw [samBN]
    refine samBS_self _ a (fun x hx => ?_)
    have h1 := wl_mem (w := wBlock) hx
    have h2 := wBlock_eq x
    exact samBN_self n x.fKids (by omega)
theorem samB_self (a : List DBlock) : samB a a = true := samBN_self _ a (by omega)
theorem limR_eq (n a b : Int) (h : a ≤ b) : limR n a b = limI n a b := by
  unfold limR limI
  simp only [Bool.cond_eq_ite, decide_eq_true_eq]
  repeat' split
  all_goals omega
theorem limI_idem (k : Int) : limI (limI k (-6) 6) (-6) 6 = limI k (-6) 6 := by unfold limI; omega
theorem cpL_eq (l : List DInline) : cpL l = l := cpLN_same _ l (by omega)
theorem cpyA_eq (a : DAttr) : cpyA a = a := rfl
theorem shfPb_n (rec : List DBlock → Int → List DBlock) (n n' k : Int) : shfPb rec n k = shfPb rec n' k := rfl
theorem shfPN_lim : ∀ (n : Nat) (l : List DBlock) (k : Int), shfPN n l (limI k (-6) 6) = shfPN n l k
  | 0, _, _ => rfl
  | n + 1, l, k => by rw [shfPN, shfPN, shfPS_eq, shfPS_eq, limI_idem, shfPb_n _ _ k]
theorem map_cong {α β : Type} {g h : α → β} : ∀ {l : List α}, (∀ x ∈ l, g x = h x) → l.map g = l.map h
  | [], _ => rfl
  | x :: l, q => by rw [List.map_cons, List.map_cons, q x (by simp), map_cong (fun y hy => q y (by simp [hy]))]
theorem shfRN_eq : ∀ (n : Nat) (l : List DBlock) (k : Int), shfRN n l k = shfPN n l k
  | 0, _, _ => rfl
  | n + 1, l, k => by
    rw [shfRN, shfPN, shfRS_eq, shfPS_eq]
    refine map_cong (fun x _ => ?_)
    simp only [shfRb, shfPb]
    rw [shfRN_eq n, shfPN_lim n, limR_eq _ _ _ (by decide), limR_eq _ _ _ (by decide), limR_eq _ _ _ (by decide), cpyA_eq, cpL_eq]
theorem shfR_eq (l : List DBlock) (k : Int) : shfR l k = shfP l k := shfRN_eq _ _ _
theorem lim_lim (z : Int) : limI (limI (limI z 1 6) 1 6 + limI 0 (-6) 6) 1 6 = limI z 1 6 := by unfold limI; omega
theorem shfPN_zero : ∀ (n m : Nat) (l : List DBlock) (k : Int), wl wBlock (shfPN n l k) < m → shfPN m (shfPN n l k) 0 = shfPN n l k
  | 0, m, l, k, h => by
    cases m with
    | zero => omega
    | succ m =>
      show shfPN (m + 1) ([] : List DBlock) 0 = []
      rw [shfPN, shfPS_eq]; rfl
  | n + 1, m, l, k, h => by
    cases m with
    | zero => omega
    | succ m =>
      rw [shfPN, shfPS_eq]
      refine map_same (fun y hy => ?_)
      have hw := wl_mem (w := wBlock) hy
      have hwy := wBlock_eq y
      rw [shfPN, shfPS_eq] at hy
      obtain ⟨x, _, rfl⟩ := List.mem_map.1 hy
      have hk : (shfPb (shfPN n) k (limI k (-6) 6) x).fKids = shfPN n x.fKids (limI k (-6) 6) := rfl
      have ih := shfPN_zero n m x.fKids (limI k (-6) 6) (by rw [← hk]; omega)
      have e : shfPN m (shfPb (shfPN n) k (limI k (-6) 6) x).fKids (limI 0 (-6) 6) = (shfPb (shfPN n) k (limI k (-6) 6) x).fKids := by rw [hk, shfPN_lim, ih]
      generalize hz : shfPb (shfPN n) k (limI k (-6) 6) x = y at e
      have hl : cond (y.fKind == 2) (limI (limI y.fLevel 1 6 + limI 0 (-6) 6) 1 6) y.fLevel = y.fLevel := by
        rw [← hz]
        simp only [shfPb]
        cases (x.fKind == 2) with
        | true => simp only [cond_true]; exact lim_lim _
        | false => rfl
      show DBlock.mk y.fKind (cond (y.fKind == 2) (limI (limI y.fLevel 1 6 + limI 0 (-6) 6) 1 6) y.fLevel) y.fInfo y.fText y.fDest y.fTitle (cpyA y.fAttr) (cpL y.fLine) (shfPN m y.fKids (limI 0 (-6) 6)) = y
      rw [hl, e, cpyA_eq, cpL_eq]
      cases y; rfl
theorem shfP_zero (l : List DBlock) (k : Int) : shfP (shfP l k) 0 = shfP l k := by
  rw [shfP]
  exact shfPN_zero _ _ l k (by rw [shfP]; exact Nat.lt_succ_self _)
theorem ishM_true (l : List DBlock) (k : Int) : ishM l k = true := by
  unfold ishM
  rw [shfR_eq, shfP_zero, samB_self]
  cases (!smlD (DDoc.mk [] l)) <;> rfl
end Go.Proofs.YtbihjejjekeoiaaGreatDoor
namespace Go.Eng
open Go.ChangeShapes Go.WideShapes Go.ChangeAt Go.RowKit
/-- All that lies in memory stays. -/
def U0 (w : World) (b : Nat) : Nat := match w.heap[b]? with
  | some (.cells arr _ _) => arr.size
  | _ => 0
theorem wf0 (w : World) : Wf ⟨U0 w, fun _ => 0, fun _ => none, fun _ => 0⟩ w :=
  ⟨fun κ κ' b h => by simp at h, fun κ b h => by simp at h, fun b hb => by simp only [U0]; rw [Array.getElem?_eq_none hb]⟩
theorem law_calls {P : Program} {f : FuncId} {xs : List AV} (h : CallTo P f (xs.map .av) [] [] (jB true) [] []) {W : World} {vs : List Value} (hr : RepL (U0 W) W xs vs) :
    Calls P f vs.toArray W (fun e W' => e = .returned (.bool true) ∧ Below W.heap.size W W') := by
  refine (h.2 ⟨U0 W, fun _ => 0, fun _ => none, fun _ => 0⟩ W vs (wf0 W) (RepSs_av hr) (by simp) (by simp)).mono ?_
  rintro e w' ⟨v, G', rfl, s1, _, s3, _⟩
  simp only [jB, RepS, Rep] at s3
  rw [s3.1]
  exact ⟨rfl, s1.os, s1.tape, s1.output, s1.size, fun k hk => (s1.stay k hk (by simp)).1⟩
theorem cell_U0 {w : World} {b o : Nat} {v : Value} (h : w.cell? ⟨b, o, none⟩ = some v) : o < U0 w b := by
  unfold U0
  simp only [World.cell?] at h
  split at h
  · rename_i arr e fz hb
    rw [hb]
    simp only [Option.isSome_none, Bool.false_eq_true, if_false] at h
    rcases Nat.lt_or_ge o arr.size with h1 | h1
    · exact h1
    · simp [Array.getElem?_eq_none h1] at h
  · simp at h
end Go.Eng
namespace Go.Proofs.YtbihjejjekeoiaaGreatDoor
open Go Go.Eng Go.ChangeShapes Go.WideShapes Go.ChangeAt Go.RowKit
section
variable {H : Type} (enc : TypeId × Value → H) (P : Program) (w : World) (sp : Nat → Bool) (held : Bool)
/-- What is read of type t with so much fuel has such cells. -/
def Rd (n : Nat) (t : TypeId) {α : Type} (f : α → List AV) (wt : α → Nat) : Prop :=
  ∀ cs x, DataW.trod enc P w 0 sp held n t cs = some x → ∃ a : α, RepL (U0 w) w (f a) cs ∧ wt a ≤ Rows.uptoBulk x.1 ∧ ∀ v ∈ cs, v.oneCell' = true
variable {enc P w sp held}
theorem Rd_map {n : Nat} {t : TypeId} {α β : Type} {f : α → List AV} {wt : α → Nat} {f' : β → List AV} {wt' : β → Nat} (c : α → β) (h : Rd enc P w sp held n t f wt) (hf : ∀ a, f' (c a) = f a) (hw : ∀ a, wt' (c a) ≤ wt a) : Rd enc P w sp held n t f' wt' :=
  fun cs x hx => by
    obtain ⟨a, h1, h2, h3⟩ := h cs x hx
    exact ⟨c a, by rw [hf]; exact h1, Nat.le_trans (hw a) h2, h3⟩
theorem Rd_int {t : TypeId} (ht : P.underlying t = some (.int .i64)) (n : Nat) : Rd enc P w sp held n t (fun i : Int => [vI i]) w1 := fun cs x h => by
  obtain ⟨m, rfl, rfl, _⟩ := DataW.trod_int ht h
  exact ⟨m, by simp only [RepL, Rep]; exact ⟨_, _, rfl, ⟨rfl, rfl⟩, rfl⟩, by simp [w1, Rows.uptoBulk], by intro v hv; simp at hv; subst hv; rfl⟩
theorem Rd_bool {t : TypeId} (ht : P.underlying t = some .bool) (n : Nat) : Rd enc P w sp held n t (fun i : Bool => [vB i]) w1 := fun cs x h => by
  obtain ⟨m, rfl, rfl⟩ := DataW.trod_bool ht h
  exact ⟨m, by simp only [RepL, Rep]; exact ⟨_, _, rfl, ⟨rfl, rfl⟩, rfl⟩, by simp [w1, Rows.uptoBulk], by intro v hv; simp at hv; subst hv; rfl⟩
theorem Rd_str {t : TypeId} (ht : P.underlying t = some .string) (n : Nat) : Rd enc P w sp held n t (fun s : ByteArray => [vS s]) wStr := fun cs x h => by
  obtain ⟨s, rfl, rfl, _⟩ := DataW.trod_string ht h
  refine ⟨s, by simp only [RepL, Rep]; exact ⟨_, _, rfl, ⟨rfl, rfl⟩, rfl⟩, ?_, by intro v hv; simp at hv; subst hv; rfl⟩
  have e : s.data.toList.length = s.size := by rw [Array.length_toList]; rfl
  simp only [wStr, Rows.uptoBulk]; omega
theorem add_add (a : Addr) (i j : Nat) : (a.add i).add j = a.add (i + j) := by
  obtain ⟨b, o, s⟩ := a
  unfold Addr.add
  by_cases hi : i = 0
  · subst hi; simp
  · by_cases hj : j = 0
    · subst hj; simp [hi]
    · simp [hi, hj]; omega
theorem cells_get {a : Addr} {n : Nat} {cs : List Value} (h : w.cells? 0 a n = some cs) : cs.length = n ∧ ∀ j, j < n → w.cell? (a.add j) = cs[j]? := by
  unfold World.cells? at h
  rw [if_pos (Nat.zero_le _)] at h
  exact ⟨by simpa using mapM_some_length h, fun j hj => mapM_some_get h j j (by simp [hj])⟩
/-- How an element's cells make one value. -/
def One (sz : Nat) {α : Type} (f : α → List AV) (g : α → AV) : Prop :=
  ∀ (U : Nat → Nat) (w : World) (a : α) (us : List Value), RepL U w (f a) us → us.length = sz → (∀ v ∈ us, v.oneCell' = true) → ∃ u : Value, Rep U w (g a) u ∧ u.cells.toList = us
theorem One_agg {α : Type} {sz : Nat} (f : α → List AV) : One sz f (fun a => .agg (f a)) := fun U w a us h _ h1 => ⟨.agg us.toArray, by simp only [Rep]; exact ⟨_, rfl, by simpa using h, by simpa using h1⟩, by simp [Value.cells]⟩
theorem One_val {α : Type} (g : α → AV) (v : α → Value) (hg : ∀ a, g a = .val (v a)) (hc : ∀ a, (v a).cells = #[v a]) : One 1 (fun a => [g a]) g := fun U w a us h _ h1 => by
  simp only [RepL] at h
  obtain ⟨u, us', rfl, h2, rfl⟩ := h
  refine ⟨u, h2, ?_⟩
  rw [hg] at h2; simp only [Rep] at h2
  rw [h2.1, hc]
theorem slice_go {e : TypeId} {n sz : Nat} {α : Type} {f : α → List AV} {g : α → AV} {wt : α → Nat} (hc : P.cellsOf e = sz) (hR : Rd enc P w sp held n e f wt) (hO : One sz f g) (a : Addr) :
    ∀ (elems : List (DataW H × List MemPlace)) (i0 : Nat), (∀ i, i < elems.length → (w.cells? 0 (a.add ((i0 + i) * sz)) sz).bind (DataW.trod enc P w 0 sp held n e) = elems[i]?) →
      ∃ (l : List α) (es : List Value), RepL (U0 w) w (l.map g) es ∧ l.length = elems.length ∧ (∀ v ∈ es, v.cells.size = sz) ∧ wl wt l ≤ Rows.uptoBulkAll (elems.map (·.1)) ∧
        ∀ j v, (vcells es)[j]? = some v → w.cell? (a.add (i0 * sz + j)) = some v ∧ v.oneCell' = true
  | [], i0, _ => ⟨[], [], by simp [RepL], rfl, by simp, by simp [wl, Rows.uptoBulkAll], by simp [vcells]⟩
  | x :: elems, i0, h => by
    have h0 := h 0 (by simp)
    simp only [Nat.add_zero, List.getElem?_cons_zero, Option.bind_eq_some_iff] at h0
    obtain ⟨cs, hcs, hx⟩ := h0
    obtain ⟨hl, hget⟩ := cells_get hcs
    obtain ⟨y, r1, r2, r3⟩ := hR cs x hx
    obtain ⟨u, u1, u2⟩ := hO _ _ y cs r1 hl r3
    obtain ⟨l, es, k1, k2, k3, k4, k5⟩ := slice_go hc hR hO a elems (i0 + 1) (fun i hi => by
      have := h (i + 1) (by simpa using hi)
      rw [show i0 + 1 + i = i0 + (i + 1) by omega]; simpa using this)
    have hsz : u.cells.size = sz := by rw [← Array.length_toList, u2, hl]
    refine ⟨y :: l, u :: es, by simp only [List.map_cons, RepL]; exact ⟨_, _, rfl, u1, k1⟩, by simp [k2], ?_, by simp only [List.map_cons, wl, Rows.uptoBulkAll]; omega, fun j v hj => ?_⟩
    · intro v hv; simp only [List.mem_cons] at hv
      rcases hv with rfl | hv
      · exact hsz
      · exact k3 v hv
    · simp only [vcells, List.flatMap_cons, u2] at hj
      by_cases hjl : j < sz
      · rw [List.getElem?_append_left (by omega)] at hj
        have := hget j hjl
        rw [add_add] at this
        exact ⟨by rw [this, hj], r3 v (List.mem_of_getElem? hj)⟩
      · rw [List.getElem?_append_right (by omega), hl] at hj
        have := k5 (j - sz) v hj
        rw [show (i0 + 1) * sz + (j - sz) = i0 * sz + j by rw [Nat.add_mul]; omega] at this
        exact this
theorem Rd_slice {t e : TypeId} {n sz : Nat} {α : Type} {f : α → List AV} {g : α → AV} {wt : α → Nat} (ht : P.underlying t = some (.slice e)) (hc : P.cellsOf e = sz) (hz : 0 < sz) (hO : One sz f g) (hR : ∀ m, n = m + 1 → Rd enc P w sp held m e f wt) :
    Rd enc P w sp held n t (fun l : List α => [.sl (l.map g)]) (wl wt) := fun cs x h => by
  rcases DataW.trod_slice ht h with ⟨rfl, rfl⟩ | ⟨a, len, cap, elems, rest, m, rfl, rfl, rfl, hb, hl, hm, hlen, hel, _, _⟩
  · exact ⟨[], by simp only [List.map_nil, RepL]; exact ⟨_, _, rfl, Rep_nil _ _, rfl⟩, by simp [wl, Rows.uptoBulk], by intro v hv; simp at hv; subst hv; rfl⟩
  · obtain ⟨l, es, k1, k2, k3, k4, k5⟩ := slice_go hc (hR m rfl) hO a elems 0 (fun i hi => by rw [Nat.zero_add]; have := hel i (by omega); rw [hc] at this; exact this)
    refine ⟨l, ?_, by simp only [Rows.uptoBulk]; omega, by intro v hv; simp at hv; subst hv; rfl⟩
    simp only [RepL]
    refine ⟨_, _, rfl, ?_, rfl⟩
    simp only [Rep]
    have hll : (l.map g).length = len := by simp; omega
    have hes : es.length = len := by have := k1.length; omega
    have hfirst : vcells es ≠ [] → a.spot = none := by
      intro hne
      obtain ⟨v, r, hv⟩ := List.exists_cons_of_ne_nil hne
      have := (k5 0 v (by rw [hv]; rfl)).1
      simp only [Nat.zero_mul, Nat.zero_add, Addr.add, if_true, World.cell?] at this
      split at this
      · cases hs : a.spot with
        | none => rfl
        | some s => rw [hs] at this; simp at this
      · simp at this
    refine ⟨some a, cap, es, sz, by rw [hll], k1, k3, by simp, by rw [hll]; exact hl, ?_, ?_⟩
    · rintro hne ad ⟨⟩
      have hsz : sz ≠ 0 := by omega
      refine hfirst (fun q => ?_)
      have hz := vcells_length es k3
      rw [q] at hz
      simp only [List.length_nil] at hz
      have : es.length = 0 := by
        rcases Nat.mul_eq_zero.1 hz.symm with h | h
        · exact h
        · exact absurd h hsz
      apply hne
      have : l.length = 0 := by omega
      simp [List.eq_nil_of_length_eq_zero this]
    · by_cases hne : vcells es = []
      · exact .inl hne
      · right
        have hs := hfirst hne
        obtain ⟨b, off, s⟩ := a
        simp only at hs; subst hs
        refine ⟨b, off, rfl, ?_, fun j v hj => ?_⟩
        · have hlen : 0 < (vcells es).length := List.length_pos_iff.2 hne
          have hv := List.getElem?_eq_getElem (l := vcells es) (i := (vcells es).length - 1) (by omega)
          have := (k5 _ _ hv).1
          rw [Nat.zero_mul, Nat.zero_add, addr_add] at this
          have := cell_U0 this
          omega
        · have := k5 j v hj
          rw [Nat.zero_mul, Nat.zero_add, addr_add] at this
          exact this
/-- The fields from a place on. -/
def RdF (enc : TypeId × Value → H) (P : Program) (w : World) (sp : Nat → Bool) (held : Bool) (n : Nat) (fs : List Field) (o tot : Nat) {α : Type} (f : α → List AV) (wt : α → Nat) : Prop :=
  ∀ (cs : List Value) (xs : List (DataW H × List MemPlace)), cs.length = tot → xs.length = fs.length → (∀ (i : Nat) (fd : Field), fs[i]? = some fd → DataW.trod enc P w 0 sp held n fd.type ((cs.drop fd.offset).take (P.cellsOf fd.type)) = xs[i]?) →
    ∃ a : α, RepL (U0 w) w (f a) (cs.drop o) ∧ wt a ≤ Rows.uptoBulkAll (xs.map (·.1)) ∧ ∀ v ∈ cs.drop o, v.oneCell' = true
theorem RdF_nil {n o : Nat} : RdF enc P w sp held n [] o o (fun _ : Unit => []) (fun _ => 0) := fun cs xs h _ _ => by
  have : cs.drop o = [] := List.drop_eq_nil_of_le (by omega)
  exact ⟨(), by rw [this]; simp [RepL], Nat.zero_le _, by rw [this]; simp⟩
theorem RdF_cons {n o k tot : Nat} {fd : Field} {fs : List Field} {α β : Type} {f : α → List AV} {wt : α → Nat} {g : β → List AV} {wg : β → Nat} (ho : fd.offset = o) (hk : P.cellsOf fd.type = k) (h0 : Rd enc P w sp held n fd.type f wt) (h : RdF enc P w sp held n fs (o + k) tot g wg) :
    RdF enc P w sp held n (fd :: fs) o tot (fun a : α × β => f a.1 ++ g a.2) (fun a => wt a.1 + wg a.2) := fun cs xs hl hx hf => by
  cases xs with
  | nil => simp at hx
  | cons x xs =>
    have e0 := hf 0 fd rfl
    rw [ho, hk] at e0
    obtain ⟨a, a1, a2, a3⟩ := h0 _ x e0
    obtain ⟨b, b1, b2, b3⟩ := h cs xs hl (by simpa using hx) (fun i fd' hi => by simpa using hf (i + 1) fd' (by simpa using hi))
    have hd : cs.drop o = (cs.drop o).take k ++ cs.drop (o + k) := by rw [← List.drop_drop, List.take_append_drop]
    refine ⟨(a, b), by rw [hd]; exact a1.append b1, by simp only [List.map_cons, Rows.uptoBulkAll]; omega, fun v hv => ?_⟩
    rw [hd, List.mem_append] at hv
    rcases hv with hv | hv
    · exact a3 v hv
    · exact b3 v hv
theorem Rd_struct {t : TypeId} {fs : Array Field} {n tot : Nat} {α : Type} {f : α → List AV} {wt : α → Nat} (ht : P.underlying t = some (.struct fs)) (hc : P.cellsOf t = tot) (h : ∀ m, n = m + 1 → RdF enc P w sp held m fs.toList 0 tot f wt) : Rd enc P w sp held n t f (fun a => 1 + wt a) := fun cs x hx => by
  obtain ⟨xs, m, rfl, rfl, hl, hlen, hf⟩ := DataW.trod_struct ht hx
  obtain ⟨a, a1, a2, a3⟩ := h m rfl cs xs (by omega) (by simpa using hlen) (fun i fd hi => hf i fd (by simpa using hi))
  exact ⟨a, by simpa using a1, by simp only [Rows.uptoBulk]; omega, by simpa using a3⟩
end
end Go.Proofs.YtbihjejjekeoiaaGreatDoor
namespace Go.Proofs.YtbihjejjekeoiaaGreatDoor
open Go Go.Eng
open Go.ChangeShapes Go.WideShapes Go.ChangeAt Go.RowKit
theorem One_aPair : One 2 (fun x : DPair => [(vS ((x).fKey)), (vS ((x).fValue))]) aPair := fun U w a us h1 h2 h3 => by rw [aPair_eq]; exact One_agg (fun x : DPair => [(vS ((x).fKey)), (vS ((x).fValue))]) U w a us h1 h2 h3
theorem Rd_aPair {H : Type} {enc : TypeId × Value → H} {w : World} {sp : Nat → Bool} {held : Bool} (n : Nat) : Rd enc Tryz.prog w sp held n 35 (fun x : DPair => [(vS ((x).fKey)), (vS ((x).fValue))]) wPair := by
  have h := Rd_struct (n := n) (enc := enc) (P := Tryz.prog) (w := w) (sp := sp) (held := held) (tot := 2) Tryz.underlying35 (by kernel_rfl) (fun m hm => (RdF_cons (k := 1) rfl (by kernel_rfl) (Rd_str Tryz.underlying9 m) (RdF_cons (k := 1) rfl (by kernel_rfl) (Rd_str Tryz.underlying9 m) RdF_nil)))
  exact Rd_map (fun a => DPair.mk a.1 a.2.1) h (fun _ => rfl) (fun a => by simp only [wPair_eq, w1]; omega)
theorem Rd_aAttr {H : Type} {enc : TypeId × Value → H} {w : World} {sp : Nat → Bool} {held : Bool} (n : Nat) : Rd enc Tryz.prog w sp held n 48 (fun x : DAttr => [(vS ((x).fID)), (.sl (((x).fClasses).map strAV)), (.sl (((x).fPairs).map aPair))]) wAttr := by
  have h := Rd_struct (n := n) (enc := enc) (P := Tryz.prog) (w := w) (sp := sp) (held := held) (tot := 3) Tryz.underlying48 (by kernel_rfl) (fun m hm => (RdF_cons (k := 1) rfl (by kernel_rfl) (Rd_str Tryz.underlying9 m) (RdF_cons (k := 1) rfl (by kernel_rfl) (Rd_slice (t := 32) (e := 9) (sz := 1) (g := strAV) (wt := wStr) Tryz.underlying32 (by kernel_rfl) (by decide) (One_val strAV Value.string (fun _ => rfl) (fun _ => rfl)) (fun q hq => (Rd_str Tryz.underlying9 q))) (RdF_cons (k := 1) rfl (by kernel_rfl) (Rd_slice (t := 24) (e := 35) (sz := 2) (g := aPair) (wt := wPair) Tryz.underlying24 (by kernel_rfl) (by decide) One_aPair (fun q hq => (Rd_aPair q))) RdF_nil))))
  exact Rd_map (fun a => DAttr.mk a.1 a.2.1 a.2.2.1) h (fun _ => rfl) (fun a => by simp only [wAttr_eq, w1]; omega)
theorem One_aCited : One 4 (fun x : DCited => [(vS ((x).fKey)), (vS ((x).fPrefix)), (vS ((x).fSuffix)), (vB ((x).fBare))]) aCited := fun U w a us h1 h2 h3 => by rw [aCited_eq]; exact One_agg (fun x : DCited => [(vS ((x).fKey)), (vS ((x).fPrefix)), (vS ((x).fSuffix)), (vB ((x).fBare))]) U w a us h1 h2 h3
theorem Rd_aCited {H : Type} {enc : TypeId × Value → H} {w : World} {sp : Nat → Bool} {held : Bool} (n : Nat) : Rd enc Tryz.prog w sp held n 80 (fun x : DCited => [(vS ((x).fKey)), (vS ((x).fPrefix)), (vS ((x).fSuffix)), (vB ((x).fBare))]) wCited := by
  have h := Rd_struct (n := n) (enc := enc) (P := Tryz.prog) (w := w) (sp := sp) (held := held) (tot := 4) Tryz.underlying80 (by kernel_rfl) (fun m hm => (RdF_cons (k := 1) rfl (by kernel_rfl) (Rd_str Tryz.underlying9 m) (RdF_cons (k := 1) rfl (by kernel_rfl) (Rd_str Tryz.underlying9 m) (RdF_cons (k := 1) rfl (by kernel_rfl) (Rd_str Tryz.underlying9 m) (RdF_cons (k := 1) rfl (by kernel_rfl) (Rd_bool Tryz.underlying4 m) RdF_nil)))))
  exact Rd_map (fun a => DCited.mk a.1 a.2.1 a.2.2.1 a.2.2.2.1) h (fun _ => rfl) (fun a => by simp only [wCited_eq, w1]; omega)
theorem One_aInline : One 10 (fun x : DInline => [(vI ((x).fKind)), (vS ((x).fText)), (vS ((x).fDest)), (vS ((x).fTitle)), (vS (((x).fAttr).fID)), (.sl ((((x).fAttr).fClasses).map strAV)), (.sl ((((x).fAttr).fPairs).map aPair)), (.sl (((x).fArgs).map strAV)), (.sl (((x).fCites).map aCited)), (.sl (((x).fKids).map aInline))]) aInline := fun U w a us h1 h2 h3 => by rw [aInline_eq]; exact One_agg (fun x : DInline => [(vI ((x).fKind)), (vS ((x).fText)), (vS ((x).fDest)), (vS ((x).fTitle)), (vS (((x).fAttr).fID)), (.sl ((((x).fAttr).fClasses).map strAV)), (.sl ((((x).fAttr).fPairs).map aPair)), (.sl (((x).fArgs).map strAV)), (.sl (((x).fCites).map aCited)), (.sl (((x).fKids).map aInline))]) U w a us h1 h2 h3
theorem Rd_aInline {H : Type} {enc : TypeId × Value → H} {w : World} {sp : Nat → Bool} {held : Bool} : ∀ n : Nat, Rd enc Tryz.prog w sp held n 77 (fun x : DInline => [(vI ((x).fKind)), (vS ((x).fText)), (vS ((x).fDest)), (vS ((x).fTitle)), (vS (((x).fAttr).fID)), (.sl ((((x).fAttr).fClasses).map strAV)), (.sl ((((x).fAttr).fPairs).map aPair)), (.sl (((x).fArgs).map strAV)), (.sl (((x).fCites).map aCited)), (.sl (((x).fKids).map aInline))]) wInline := fun n => Nat.strongRecOn n (fun n ih => by
  have h := Rd_struct (n := n) (enc := enc) (P := Tryz.prog) (w := w) (sp := sp) (held := held) (tot := 10) Tryz.underlying77 (by kernel_rfl) (fun m hm => (RdF_cons (k := 1) rfl (by kernel_rfl) (Rd_int Tryz.underlying3 m) (RdF_cons (k := 1) rfl (by kernel_rfl) (Rd_str Tryz.underlying9 m) (RdF_cons (k := 1) rfl (by kernel_rfl) (Rd_str Tryz.underlying9 m) (RdF_cons (k := 1) rfl (by kernel_rfl) (Rd_str Tryz.underlying9 m) (RdF_cons (k := 3) rfl (by kernel_rfl) (Rd_aAttr m) (RdF_cons (k := 1) rfl (by kernel_rfl) (Rd_slice (t := 32) (e := 9) (sz := 1) (g := strAV) (wt := wStr) Tryz.underlying32 (by kernel_rfl) (by decide) (One_val strAV Value.string (fun _ => rfl) (fun _ => rfl)) (fun q hq => (Rd_str Tryz.underlying9 q))) (RdF_cons (k := 1) rfl (by kernel_rfl) (Rd_slice (t := 75) (e := 80) (sz := 4) (g := aCited) (wt := wCited) Tryz.underlying75 (by kernel_rfl) (by decide) One_aCited (fun q hq => (Rd_aCited q))) (RdF_cons (k := 1) rfl (by kernel_rfl) (Rd_slice (t := 49) (e := 77) (sz := 10) (g := aInline) (wt := wInline) Tryz.underlying49 (by kernel_rfl) (by decide) One_aInline (fun q hq => (ih q (by omega)))) RdF_nil)))))))))
  exact Rd_map (fun a => DInline.mk a.1 a.2.1 a.2.2.1 a.2.2.2.1 a.2.2.2.2.1 a.2.2.2.2.2.1 a.2.2.2.2.2.2.1 a.2.2.2.2.2.2.2.1) h (fun _ => rfl) (fun a => by simp only [wInline_eq, w1]; omega))
theorem One_aBlock : One 11 (fun x : DBlock => [(vI ((x).fKind)), (vI ((x).fLevel)), (vS ((x).fInfo)), (vS ((x).fText)), (vS ((x).fDest)), (vS ((x).fTitle)), (vS (((x).fAttr).fID)), (.sl ((((x).fAttr).fClasses).map strAV)), (.sl ((((x).fAttr).fPairs).map aPair)), (.sl (((x).fLine).map aInline)), (.sl (((x).fKids).map aBlock))]) aBlock := fun U w a us h1 h2 h3 => by rw [aBlock_eq]; exact One_agg (fun x : DBlock => [(vI ((x).fKind)), (vI ((x).fLevel)), (vS ((x).fInfo)), (vS ((x).fText)), (vS ((x).fDest)), (vS ((x).fTitle)), (vS (((x).fAttr).fID)), (.sl ((((x).fAttr).fClasses).map strAV)), (.sl ((((x).fAttr).fPairs).map aPair)), (.sl (((x).fLine).map aInline)), (.sl (((x).fKids).map aBlock))]) U w a us h1 h2 h3
theorem Rd_aBlock {H : Type} {enc : TypeId × Value → H} {w : World} {sp : Nat → Bool} {held : Bool} : ∀ n : Nat, Rd enc Tryz.prog w sp held n 51 (fun x : DBlock => [(vI ((x).fKind)), (vI ((x).fLevel)), (vS ((x).fInfo)), (vS ((x).fText)), (vS ((x).fDest)), (vS ((x).fTitle)), (vS (((x).fAttr).fID)), (.sl ((((x).fAttr).fClasses).map strAV)), (.sl ((((x).fAttr).fPairs).map aPair)), (.sl (((x).fLine).map aInline)), (.sl (((x).fKids).map aBlock))]) wBlock := fun n => Nat.strongRecOn n (fun n ih => by
  have h := Rd_struct (n := n) (enc := enc) (P := Tryz.prog) (w := w) (sp := sp) (held := held) (tot := 11) Tryz.underlying51 (by kernel_rfl) (fun m hm => (RdF_cons (k := 1) rfl (by kernel_rfl) (Rd_int Tryz.underlying3 m) (RdF_cons (k := 1) rfl (by kernel_rfl) (Rd_int Tryz.underlying3 m) (RdF_cons (k := 1) rfl (by kernel_rfl) (Rd_str Tryz.underlying9 m) (RdF_cons (k := 1) rfl (by kernel_rfl) (Rd_str Tryz.underlying9 m) (RdF_cons (k := 1) rfl (by kernel_rfl) (Rd_str Tryz.underlying9 m) (RdF_cons (k := 1) rfl (by kernel_rfl) (Rd_str Tryz.underlying9 m) (RdF_cons (k := 3) rfl (by kernel_rfl) (Rd_aAttr m) (RdF_cons (k := 1) rfl (by kernel_rfl) (Rd_slice (t := 49) (e := 77) (sz := 10) (g := aInline) (wt := wInline) Tryz.underlying49 (by kernel_rfl) (by decide) One_aInline (fun q hq => (Rd_aInline q))) (RdF_cons (k := 1) rfl (by kernel_rfl) (Rd_slice (t := 22) (e := 51) (sz := 11) (g := aBlock) (wt := wBlock) Tryz.underlying22 (by kernel_rfl) (by decide) One_aBlock (fun q hq => (ih q (by omega)))) RdF_nil))))))))))
  exact Rd_map (fun a => DBlock.mk a.1 a.2.1 a.2.2.1 a.2.2.2.1 a.2.2.2.2.1 a.2.2.2.2.2.1 a.2.2.2.2.2.2.1 a.2.2.2.2.2.2.2.1 a.2.2.2.2.2.2.2.2.1) h (fun _ => rfl) (fun a => by simp only [wBlock_eq, w1]; omega))
theorem Rd_blks {H : Type} {enc : TypeId × Value → H} {w : World} {sp : Nat → Bool} {held : Bool} (n : Nat) : Rd enc Tryz.prog w sp held n 22 (fun l : List DBlock => [.sl (l.map aBlock)]) (wl wBlock) := (Rd_slice (t := 22) (e := 51) (sz := 11) (g := aBlock) (wt := wBlock) Tryz.underlying22 (by kernel_rfl) (by decide) One_aBlock (fun q hq => (Rd_aBlock q)))
end Go.Proofs.YtbihjejjekeoiaaGreatDoor
