/- Texts joined by a program (merge.py). -/
import Derived.Test.YtdaglbjgdakmcaaGreatKwd
import Derived.KernelRfl
import Derived.Test.YtdaglbjgdakmcaaGreatKwb
import Derived.Test.YtdaglbjgdakmcaaGreatKwa
import Derived.Test.YtdaglbjgdakmcaaGreatKwc
import Derived.Lib.Strings
import Derived.Lib.Builder
import Derived.Lib.UnsafeStr
import Derived.Lib.AppendStr
import Derived.WalkKit
import Derived.Laws.Externs
import Derived.RegionTactic
set_option linter.unusedSimpArgs false
set_option linter.unusedVariables false
namespace Go.Proofs.YtdaglbjgdakmcaaGreat
open Go Go.Eng
theorem drop_el {α : Type} [Inhabited α] {l : List α} {i : Nat} (h : i < l.length) : l.drop i = el l i :: l.drop (i + 1) := by
  rw [List.drop_eq_getElem_cons h]; simp [el, h]
theorem loop_flat {α β : Type} [Inhabited α] (f : α → AV) (l : List α) (g : α → List β) (F : Nat → List β → Nat → List β) (hF : ∀ n acc i, F (n + 1) acc i = cond (decide ((((i : Nat) : Int) : Int) < ((lenM f l : Nat) : Int))) (F n (acc ++ g (el l i)) (i + 1)) acc) : ∀ (n : Nat) (acc : List β) (i : Nat), l.length - i < n → F n acc i = acc ++ (l.drop i).flatMap g
  | 0, acc, i, h => by omega
  | n + 1, acc, i, h => by
    have hl := lenM_eq f l
    rw [hF]
    by_cases hi : i < l.length
    · rw [show decide ((((i : Nat) : Int) : Int) < ((lenM f l : Nat) : Int)) = true from decide_eq_true (by omega), cond_true, loop_flat f l g F hF n _ _ (by omega), drop_el hi]
      simp
    · rw [show decide ((((i : Nat) : Int) : Int) < ((lenM f l : Nat) : Int)) = false from decide_eq_false (by omega), cond_false, List.drop_eq_nil_of_le (by omega)]
      simp
theorem flat_len {α β : Type} {w : α → Nat} {g : α → List β} : ∀ {l : List α}, (∀ x ∈ l, (g x).length ≤ w x) → (l.flatMap g).length ≤ wl w l
  | [], _ => by simp [wl]
  | x :: l, h => by
    have h1 := h x (by simp)
    have h2 := flat_len (l := l) (fun y hy => h y (by simp [hy]))
    simp only [List.flatMap_cons, List.length_append, wl]; omega
theorem flat_eq {α β : Type} {g g' : α → List β} : ∀ {l : List α}, (∀ x ∈ l, g x = g' x) → l.flatMap g = l.flatMap g'
  | [], _ => rfl
  | x :: l, h => by rw [List.flatMap_cons, List.flatMap_cons, h x (by simp), flat_eq (fun y hy => h y (by simp [hy]))]
def dpIS_L0 (rec : (List DInline) → List DInline) (l : List DInline) : Nat → (List DInline) → Nat → List DInline
  | 0, _, _ => default
  | n0 + 1, v3, v4 => cond (decide ((((v4 : Nat) : Int) : Int) < ((lenM aInline l : Nat) : Int))) (dpIS_L0 rec l n0 ((v3 ++ ([el l v4])) ++ (rec ((el l v4).fKids))) (v4 + 1)) (v3)
def dpIS (rec : (List DInline) → List DInline) (l : List DInline) : List DInline := dpIS_L0 rec l ((List.length l - (0)) + 1) ([]) 0
set_option maxRecDepth 100000 in
set_option maxHeartbeats 4000000 in
theorem dpI_st (rec : (List DInline) → List DInline) (l : List DInline) (hl : wl wInline l ≤ 1073741824) (hrec : ∀ (l' : List DInline), wl wInline l' < wl wInline l → wl wInline l' ≤ 1073741824 → CallTo Tryz.prog 30 [(jL ((l').map aInline))] [] [] (jL ((rec l').map aInline)) [] []) (hrb : ∀ (l' : List DInline), wl wInline l' < wl wInline l → wl wInline l' ≤ 1073741824 → (rec l').length ≤ wl wInline l') : CallTo Tryz.prog 30 [(jL (l.map aInline))] [] [] (jL ((dpIS rec l).map aInline)) [] [] := by
  have hw_0 := wl_len (w := wInline) wInline_pos l
  refine BEG (fun r : List DInline => (jL (r.map aInline))) (dpIS rec l) Tryz.func30 (by kernel_rfl) ?_
  refine UF (dpIS.eq_1 ..) ?_
  refine GO (tn 3 z) (by kernel_rfl) ?_
  refine LP (fun N M S => ∃ gv3 : Nat, ∃ v3 : List DInline, ∃ v4 : Nat, (v3.length ≤ wl wInline (l.take v4)) ∧ (List.length l - v4 < N) ∧ M = dpIS_L0 rec l N v3 v4 ∧ S = (sx 27 [(0, (jL (l.map aInline))), (3, (.own (203, 42) (gv3) 10 (v3.map aInline))), (4, (jI (((v4 : Nat) : Int))))] [] [((203, 42), gv3)])) (by kernel_rfl) ⟨0, _, _, by first | omega | assumption | (simp only [lenM_eq]; omega) | (simp; done) | (simp; omega), by omega, rfl, rfl⟩ (WKf [(3, (.own (203, 42) ((0)) 10 (([]).map aInline)))] (ac (show ((([]).map aInline) : List AV) = [] ∧ 0 < 42 ∧ ((0) : Nat) = (0) from ⟨rfl, by decide, rfl⟩) an) (by kernel_rfl)) ?_
  rintro n0 M S ⟨gv3, v3, v4, hv, hF0, rfl, rfl⟩
  obtain ⟨n0, rfl⟩ : ∃ k, n0 = k + 1 := ⟨n0 - 1, by omega⟩
  refine UF (dpIS_L0.eq_2 ..) ?_
  refine GO (tn 4 z) (by kernel_rfl) ?_
  refine CSd (fun h1p h1 => ?_) (fun h1p h1 => ?_)
  · have := lenM_eq aInline l
    have hce := wl_el (w := wInline) (l := l) (i := v4) (by omega)
    have hcw := wInline_eq (el l v4)
    simp only [wStr, w1] at hcw
    have htk := wl_take (w := wInline) (l := l) (i := v4) (by omega)
    have := hrb ((el l v4).fKids) (by first | assumption | omega | decide | (simp; done) | (simp; omega)) (by first | assumption | omega | decide | (simp; done) | (simp; omega))
    refine GO (kb h1 (tn 3 (ke (el_aInline l v4 (by first | omega | (simp only [lenM_eq, true_and]; omega))) (tn 1 (kp (show Uni 10 [(cInline (el l v4))] from (uni_one rfl rfl)) (kp (show (gv3 : Nat) = gv3 ∧ Uni 10 [(cInline (el l v4))] ∧ (((v3.map aInline) : List AV).length + ([(cInline (el l v4))] : List AV).length) * 192 ≤ 140737488355328 from ⟨rfl, uni_one rfl rfl, by first | omega | (simp; done) | (simp; omega)⟩) (kw (ap1_aInline v3 (el l v4)) (tn 4 (ke (el_aInline l v4 (by first | omega | (simp only [lenM_eq, true_and]; omega))) (tn 2 (kc (hrec ((el l v4).fKids) (by first | assumption | omega | decide | (simp; done) | (simp; omega)) (by first | assumption | omega | decide | (simp; done) | (simp; omega))) (kp (show (gv3 + 1 : Nat) = gv3 + 1 ∧ Uni 10 ((rec ((el l v4).fKids)).map aInline) ∧ ((((v3 ++ ([el l v4])).map aInline) : List AV).length + (((rec ((el l v4).fKids)).map aInline) : List AV).length) * 192 ≤ 140737488355328 from ⟨rfl, uni_aInline _, by first | omega | (simp; done) | (simp; omega)⟩) (kw (apL aInline (v3 ++ ([el l v4])) (rec ((el l v4).fKids))) (tn 2 (kn (wrE ((((v4 : Nat) : Int)) + 1) (((v4 + 1 : Nat) : Int)) (by omega)) (tn 1 z)))))))))))))))) (by kernel_rfl) ?_
    exact AG ⟨gv3 + 1 + 1, _, _, by first | omega | assumption | (simp only [lenM_eq]; omega) | (simp; done) | (simp; omega), by omega, rfl, rfl⟩ (WK (by kernel_rfl)) (by kernel_rfl) (Nat.lt_succ_self _)
  · have := lenM_eq aInline l
    refine GO (kb h1 z) (by kernel_rfl) ?_
    refine OUT (tn 2 z) (by kernel_rfl) ?_
    exact EN (by kernel_rfl)
def dpIN : Nat → (List DInline) → List DInline
  | 0, _ => default
  | n + 1, l => dpIS (dpIN n) l
theorem dpIS_eq (rec : (List DInline) → List DInline) (l : List DInline) : dpIS rec l = l.flatMap (fun x => x :: rec x.fKids) := by
  have := loop_flat aInline l (fun x => x :: rec x.fKids) (dpIS_L0 rec l) (fun n acc i => by rw [dpIS_L0]; simp) ((List.length l - (0)) + 1) [] 0 (by omega)
  rw [dpIS, this]; simp
theorem dpIN_bd : ∀ (n : Nat) (l : List DInline), wl wInline l < n → wl wInline l ≤ 1073741824 → (dpIN n l).length ≤ wl wInline l
  | 0, l, h, _ => by omega
  | n + 1, l, h, hl => by
    rw [dpIN, dpIS_eq]
    refine flat_len (fun x hx => ?_)
    have h1 := wl_mem (w := wInline) hx
    have h2 := wInline_eq x
    have h3 := dpIN_bd n x.fKids (by omega) (by omega)
    simp only [List.length_cons]; omega
theorem dpIN_to : ∀ (n : Nat) (l : List DInline), wl wInline l < n → wl wInline l ≤ 1073741824 → CallTo Tryz.prog 30 [(jL (l.map aInline))] [] [] (jL ((dpIN n l).map aInline)) [] []
  | 0, l, h0, _ => absurd h0 (Nat.not_lt_zero _)
  | n + 1, l, h0, hl => by
    exact dpI_st (dpIN n) l hl (fun l' q1 hl' => dpIN_to n l' (by omega) hl') (fun l' q1 hl' => dpIN_bd n l' (by omega) hl')
def dpI (l : List DInline) : List DInline := dpIN (wl wInline l + 1) l
theorem dpI_to (l : List DInline) (hl : wl wInline l ≤ 1073741824) : CallTo Tryz.prog 30 [(jL (l.map aInline))] [] [] (jL ((dpI l).map aInline)) [] [] := dpIN_to _ l (Nat.lt_succ_self _) hl
theorem dpI_bd (l : List DInline) (hl : wl wInline l ≤ 1073741824) : (dpI l).length ≤ wl wInline l := dpIN_bd _ l (Nat.lt_succ_self _) hl
def lsBS_L0 (rec : (List DBlock) → List DBlock) (l : List DBlock) : Nat → (List DBlock) → Nat → List DBlock
  | 0, _, _ => default
  | n0 + 1, v3, v4 => cond (decide ((((v4 : Nat) : Int) : Int) < ((lenM aBlock l : Nat) : Int))) (lsBS_L0 rec l n0 ((v3 ++ ([el l v4])) ++ (rec ((el l v4).fKids))) (v4 + 1)) (v3)
def lsBS (rec : (List DBlock) → List DBlock) (l : List DBlock) : List DBlock := lsBS_L0 rec l ((List.length l - (0)) + 1) ([]) 0
set_option maxRecDepth 100000 in
set_option maxHeartbeats 4000000 in
theorem lsB_st (rec : (List DBlock) → List DBlock) (l : List DBlock) (hl : wl wBlock l ≤ 1073741824) (hrec : ∀ (l' : List DBlock), wl wBlock l' < wl wBlock l → wl wBlock l' ≤ 1073741824 → CallTo Tryz.prog 28 [(jL ((l').map aBlock))] [] [] (jL ((rec l').map aBlock)) [] []) (hrb : ∀ (l' : List DBlock), wl wBlock l' < wl wBlock l → wl wBlock l' ≤ 1073741824 → (rec l').length ≤ wl wBlock l') : CallTo Tryz.prog 28 [(jL (l.map aBlock))] [] [] (jL ((lsBS rec l).map aBlock)) [] [] := by
  have hw_0 := wl_len (w := wBlock) wBlock_pos l
  refine BEG (fun r : List DBlock => (jL (r.map aBlock))) (lsBS rec l) Tryz.func28 (by kernel_rfl) ?_
  refine UF (lsBS.eq_1 ..) ?_
  refine GO (tn 3 z) (by kernel_rfl) ?_
  refine LP (fun N M S => ∃ gv3 : Nat, ∃ v3 : List DBlock, ∃ v4 : Nat, (v3.length ≤ wl wBlock (l.take v4)) ∧ (List.length l - v4 < N) ∧ M = lsBS_L0 rec l N v3 v4 ∧ S = (sx 27 [(0, (jL (l.map aBlock))), (3, (.own (203, 66) (gv3) 11 (v3.map aBlock))), (4, (jI (((v4 : Nat) : Int))))] [] [((203, 66), gv3)])) (by kernel_rfl) ⟨0, _, _, by first | omega | assumption | (simp only [lenM_eq]; omega) | (simp; done) | (simp; omega), by omega, rfl, rfl⟩ (WKf [(3, (.own (203, 66) ((0)) 11 (([]).map aBlock)))] (ac (show ((([]).map aBlock) : List AV) = [] ∧ 0 < 66 ∧ ((0) : Nat) = (0) from ⟨rfl, by decide, rfl⟩) an) (by kernel_rfl)) ?_
  rintro n0 M S ⟨gv3, v3, v4, hv, hF0, rfl, rfl⟩
  obtain ⟨n0, rfl⟩ : ∃ k, n0 = k + 1 := ⟨n0 - 1, by omega⟩
  refine UF (lsBS_L0.eq_2 ..) ?_
  refine GO (tn 4 z) (by kernel_rfl) ?_
  refine CSd (fun h1p h1 => ?_) (fun h1p h1 => ?_)
  · have := lenM_eq aBlock l
    have hce := wl_el (w := wBlock) (l := l) (i := v4) (by omega)
    have hcw := wBlock_eq (el l v4)
    simp only [wStr, w1] at hcw
    have htk := wl_take (w := wBlock) (l := l) (i := v4) (by omega)
    have := hrb ((el l v4).fKids) (by first | assumption | omega | decide | (simp; done) | (simp; omega)) (by first | assumption | omega | decide | (simp; done) | (simp; omega))
    refine GO (kb h1 (tn 3 (ke (el_aBlock l v4 (by first | omega | (simp only [lenM_eq, true_and]; omega))) (tn 1 (kp (show Uni 11 [(cBlock (el l v4))] from (uni_one rfl rfl)) (kp (show (gv3 : Nat) = gv3 ∧ Uni 11 [(cBlock (el l v4))] ∧ (((v3.map aBlock) : List AV).length + ([(cBlock (el l v4))] : List AV).length) * 192 ≤ 140737488355328 from ⟨rfl, uni_one rfl rfl, by first | omega | (simp; done) | (simp; omega)⟩) (kw (ap1_aBlock v3 (el l v4)) (tn 4 (ke (el_aBlock l v4 (by first | omega | (simp only [lenM_eq, true_and]; omega))) (tn 2 (kc (hrec ((el l v4).fKids) (by first | assumption | omega | decide | (simp; done) | (simp; omega)) (by first | assumption | omega | decide | (simp; done) | (simp; omega))) (kp (show (gv3 + 1 : Nat) = gv3 + 1 ∧ Uni 11 ((rec ((el l v4).fKids)).map aBlock) ∧ ((((v3 ++ ([el l v4])).map aBlock) : List AV).length + (((rec ((el l v4).fKids)).map aBlock) : List AV).length) * 192 ≤ 140737488355328 from ⟨rfl, uni_aBlock _, by first | omega | (simp; done) | (simp; omega)⟩) (kw (apL aBlock (v3 ++ ([el l v4])) (rec ((el l v4).fKids))) (tn 2 (kn (wrE ((((v4 : Nat) : Int)) + 1) (((v4 + 1 : Nat) : Int)) (by omega)) (tn 1 z)))))))))))))))) (by kernel_rfl) ?_
    exact AG ⟨gv3 + 1 + 1, _, _, by first | omega | assumption | (simp only [lenM_eq]; omega) | (simp; done) | (simp; omega), by omega, rfl, rfl⟩ (WK (by kernel_rfl)) (by kernel_rfl) (Nat.lt_succ_self _)
  · have := lenM_eq aBlock l
    refine GO (kb h1 z) (by kernel_rfl) ?_
    refine OUT (tn 2 z) (by kernel_rfl) ?_
    exact EN (by kernel_rfl)
def lsBN : Nat → (List DBlock) → List DBlock
  | 0, _ => default
  | n + 1, l => lsBS (lsBN n) l
theorem lsBS_eq (rec : (List DBlock) → List DBlock) (l : List DBlock) : lsBS rec l = l.flatMap (fun x => x :: rec x.fKids) := by
  have := loop_flat aBlock l (fun x => x :: rec x.fKids) (lsBS_L0 rec l) (fun n acc i => by rw [lsBS_L0]; simp) ((List.length l - (0)) + 1) [] 0 (by omega)
  rw [lsBS, this]; simp
theorem lsBN_bd : ∀ (n : Nat) (l : List DBlock), wl wBlock l < n → wl wBlock l ≤ 1073741824 → (lsBN n l).length ≤ wl wBlock l
  | 0, l, h, _ => by omega
  | n + 1, l, h, hl => by
    rw [lsBN, lsBS_eq]
    refine flat_len (fun x hx => ?_)
    have h1 := wl_mem (w := wBlock) hx
    have h2 := wBlock_eq x
    have h3 := lsBN_bd n x.fKids (by omega) (by omega)
    simp only [List.length_cons]; omega
theorem lsBN_to : ∀ (n : Nat) (l : List DBlock), wl wBlock l < n → wl wBlock l ≤ 1073741824 → CallTo Tryz.prog 28 [(jL (l.map aBlock))] [] [] (jL ((lsBN n l).map aBlock)) [] []
  | 0, l, h0, _ => absurd h0 (Nat.not_lt_zero _)
  | n + 1, l, h0, hl => by
    exact lsB_st (lsBN n) l hl (fun l' q1 hl' => lsBN_to n l' (by omega) hl') (fun l' q1 hl' => lsBN_bd n l' (by omega) hl')
def lsB (l : List DBlock) : List DBlock := lsBN (wl wBlock l + 1) l
theorem lsB_to (l : List DBlock) (hl : wl wBlock l ≤ 1073741824) : CallTo Tryz.prog 28 [(jL (l.map aBlock))] [] [] (jL ((lsB l).map aBlock)) [] [] := lsBN_to _ l (Nat.lt_succ_self _) hl
theorem lsB_bd (l : List DBlock) (hl : wl wBlock l ≤ 1073741824) : (lsB l).length ≤ wl wBlock l := lsBN_bd _ l (Nat.lt_succ_self _) hl
end Go.Proofs.YtdaglbjgdakmcaaGreat
namespace Go.Proofs.YtdaglbjgdakmcaaGreat
open Go Go.Eng
def sepB (c : Int) : Bool := c == 32 || c == 40 || c == 41
def wendN (s : ByteArray) : Nat → Nat → Nat
  | 0, k => k
  | n + 1, k => if sepB (byt s k) then k else wendN s n (k + 1)
def wend (s : ByteArray) (k : Nat) : Nat := wendN s (s.size - k) k
def toksN (s : ByteArray) : Nat → Nat → List ByteArray
  | 0, _ => []
  | n + 1, i => if s.size ≤ i then [] else if byt s i == 32 then toksN s n (i + 1)
    else if byt s i == 40 || byt s i == 41 then s.extract i (i + 1) :: toksN s n (i + 1)
    else s.extract i (wend s i) :: toksN s n (wend s i)
def toks (s : ByteArray) (i : Nat) : List ByteArray := toksN s (s.size - i) i
theorem wend_stop (s : ByteArray) (k : Nat) (h : s.size ≤ k) : wend s k = k := by
  unfold wend; rw [show s.size - k = 0 by omega]; rfl
theorem wend_sep (s : ByteArray) (k : Nat) (h : sepB ((byt s k : Nat) : Int) = true) : wend s k = k := by
  unfold wend
  cases hn : s.size - k with
  | zero => rfl
  | succ n => rw [wendN, if_pos h]
theorem wend_step (s : ByteArray) (k : Nat) (h : k < s.size) (hb : sepB ((byt s k : Nat) : Int) = false) : wend s k = wend s (k + 1) := by
  unfold wend
  rw [show s.size - k = s.size - (k + 1) + 1 by omega, wendN, if_neg (by simp [hb])]
theorem wend_le (s : ByteArray) : ∀ (n k : Nat), s.size - k = n → k ≤ s.size → wend s k ≤ s.size ∧ k ≤ wend s k := by
  intro n
  induction n with
  | zero => intro k h1 h2; rw [wend_stop s k (by omega)]; omega
  | succ n ih =>
    intro k h1 h2
    cases hb : sepB ((byt s k : Nat) : Int) with
    | true => rw [wend_sep s k hb]; omega
    | false => rw [wend_step s k (by omega) hb]; have := ih (k + 1) (by omega) (by omega); omega
theorem wend_gt (s : ByteArray) (k : Nat) (h : k < s.size) (hb : sepB ((byt s k : Nat) : Int) = false) : wend s k ≤ s.size ∧ k < wend s k := by
  rw [wend_step s k h hb]; have := wend_le s (s.size - (k + 1)) (k + 1) rfl (by omega); omega
theorem sep_false {c : Nat} (h : sepB (c : Int) = false) : (c == 32) = false ∧ (c == 40) = false ∧ (c == 41) = false := by
  simp only [sepB, Bool.or_eq_false_iff] at h
  obtain ⟨⟨h1, h2⟩, h3⟩ := h
  have f : ∀ n : Nat, (((c : Nat) : Int) == (n : Int)) = false → (c == n) = false := fun n hn => by rw [← natbeq]; exact hn
  exact ⟨f 32 h1, f 40 h2, f 41 h3⟩
/-- More than enough rounds change nothing. -/
theorem toksN_eq (s : ByteArray) : ∀ (n m i : Nat), s.size - i ≤ n → s.size - i ≤ m → toksN s n i = toksN s m i := by
  intro n
  induction n with
  | zero =>
    intro m i h1 h2
    cases m with
    | zero => rfl
    | succ m => rw [toksN, toksN, if_pos (by omega)]
  | succ n ih =>
    intro m i h1 h2
    cases m with
    | zero => rw [toksN, toksN, if_pos (by omega)]
    | succ m =>
      rw [toksN, toksN]
      by_cases hi : s.size ≤ i
      · rw [if_pos hi, if_pos hi]
      · rw [if_neg hi, if_neg hi]
        split
        · exact ih m (i + 1) (by omega) (by omega)
        · split
          · rw [ih m (i + 1) (by omega) (by omega)]
          · rename_i h3 h4
            have hs : sepB ((byt s i : Nat) : Int) = false := by
              simp only [sepB]
              have e : ∀ n : Nat, (((byt s i : Nat) : Int) == (n : Int)) = (byt s i == n) := fun n => natbeq _ _
              rw [show (32 : Int) = ((32 : Nat) : Int) from rfl, show (40 : Int) = ((40 : Nat) : Int) from rfl, show (41 : Int) = ((41 : Nat) : Int) from rfl, e, e, e]
              simp_all
            have := wend_gt s i (by omega) hs
            rw [ih m (wend s i) (by omega) (by omega)]
theorem toks_end (s : ByteArray) (i : Nat) (h : s.size ≤ i) : toks s i = [] := by
  unfold toks; rw [show s.size - i = 0 by omega]; rfl
theorem toks_sp (s : ByteArray) (i : Nat) (h : i < s.size) (hb : ((byt s i : Nat) : Int) = 32) : toks s i = toks s (i + 1) := by
  unfold toks
  rw [show s.size - i = s.size - (i + 1) + 1 by omega, toksN, if_neg (by omega), if_pos (by simp; omega)]
theorem toks_par (s : ByteArray) (i : Nat) (h : i < s.size) (hb : ((byt s i : Nat) : Int) = 40 ∨ ((byt s i : Nat) : Int) = 41) : toks s i = s.extract i (i + 1) :: toks s (i + 1) := by
  unfold toks
  rw [show s.size - i = s.size - (i + 1) + 1 by omega, toksN, if_neg (by omega), if_neg (by simp; omega), if_pos (by simp; omega)]
theorem toks_word (s : ByteArray) (i : Nat) (h : i < s.size) (hb : sepB ((byt s i : Nat) : Int) = false) : toks s i = s.extract i (wend s i) :: toks s (wend s i) := by
  have hw := wend_gt s i h hb
  obtain ⟨h1, h2, h3⟩ := sep_false hb
  unfold toks
  rw [show s.size - i = s.size - (i + 1) + 1 by omega, toksN, if_neg (by omega), if_neg (by simp [h1]), if_neg (by simp [h2, h3]), toksN_eq s _ (s.size - wend s i) _ (by omega) (by omega)]
/-- Whether a list has a string, from the i-th on. -/
def hasI (l : List ByteArray) (s : ByteArray) (i : Nat) : Bool := (l.drop i).any (fun x => eqs x s)
inductive Nd where
  | mk (kind : Int) (name : ByteArray) (kids : List Nd)
def Nd.kind : Nd → Int | .mk k _ _ => k
def Nd.name : Nd → ByteArray | .mk _ n _ => n
def Nd.kids : Nd → List Nd | .mk _ _ l => l
def nd0 : Nd := .mk 0 ⟨#[]⟩ []
mutual
def av1 : Nd → AV
  | .mk k n l => .agg [.val (.int .i64 k), .val (.string n), .sl (av2 l)]
def av2 : List Nd → List AV
  | [] => []
  | x :: l => av1 x :: av2 l
end
def nav (x : Nd) : AV := .agg [.val (.int .i64 x.kind), .val (.string x.name), .sl (av2 x.kids)]
theorem av1_eq (x : Nd) : av1 x = nav x := by cases x; simp only [av1, nav, Nd.kind, Nd.name, Nd.kids]
theorem av2_eq : ∀ l : List Nd, av2 l = l.map nav
  | [] => by simp only [av2]; rfl
  | x :: l => by simp only [av2, av1_eq, av2_eq l]; rfl
theorem av2_len (l : List Nd) : (av2 l).length = l.length := by rw [av2_eq]; simp
theorem av2_app (l : List Nd) (x : Nd) : av2 l ++ [nav x] = av2 (l ++ [x]) := by rw [av2_eq, av2_eq]; simp
theorem av2_cat (l m : List Nd) : av2 l ++ av2 m = av2 (l ++ m) := by rw [av2_eq, av2_eq, av2_eq]; simp
def ndth (l : List Nd) (i : Nat) : Nd := l.getD i nd0
theorem av2_at {l : List Nd} {i : Nat} (h : i < l.length) : 0 ≤ (i : Int) ∧ (av2 l)[i]? = some (nav (ndth l i)) := by
  refine ⟨by omega, ?_⟩
  rw [av2_eq]; simp [ndth, List.getElem?_map, List.getElem?_eq_getElem h]
theorem av2_uni (l : List Nd) : Uni 3 (av2 l) := by
  rw [av2_eq]
  intro x hx
  simp only [List.mem_map] at hx
  obtain ⟨y, _, rfl⟩ := hx
  simp [nav, AV.cells, AV.isTup]
end Go.Proofs.YtdaglbjgdakmcaaGreat
namespace Go.Proofs.YtdaglbjgdakmcaaGreat
open Go Go.Eng
set_option maxRecDepth 100000 in
set_option maxHeartbeats 2000000 in
theorem tokens_to (s : ByteArray) (hs : s.size ≤ 4096) : CallTo Tryz.prog 40 [(jS (s))] [] [] (.av (.sl ((toks s 0).map strAV))) [] [] := by
  refine CallTo_of_body (n := 63) Tryz.func40 rfl (by kernel_rfl) Tryz.ntmps40 (by simp) (by simp) (by simp) (by simp [OkSV, SV.keys, ABox.svs, PV.keys]) (by simp [OkSV, SV.keys, ABox.svs, PV.keys]) (by simp [OkSV, SV.keys, ABox.svs, PV.keys]) (by simp [OkSV, SV.keys, ABox.svs, PV.keys]) rfl rfl ?_
  refine W_eq (sx 63 [(0, (jS (s)))] [] []) (by kernel_rfl) ?_
  refine WN ?_
  refine GO (tn 3 z) (by kernel_rfl) ?_
  refine LP (I := fun N M S => ∃ i : Nat, ∃ g : Nat, ∃ acc : List ByteArray, (i ≤ s.size) ∧ (acc.length ≤ i) ∧ (acc ++ toks s i = toks s 0) ∧ N = s.size - i ∧ M = () ∧ S = (sx 63 [(0, (jS (s))), (3, (.own (200, 10) (g) 1 (acc.map strAV))), (4, (jI (((i : Nat) : Int))))] [] [((200, 10), g)])) (n := s.size - (0)) (by kernel_rfl) ⟨0, 0, [], Nat.zero_le _, Nat.le_refl _, rfl, rfl, rfl, rfl⟩ (wtr (S' := (sx 63 [(0, (jS (s))), (3, .nil), (4, (jI (0)))] [] [])) (WK (by kernel_rfl)) (weak_sx (show WkX _ _ _ from ⟨rfl, ⟨rfl, by decide, rfl⟩, (by first | rfl | (congr 3; omega) | simp), trivial⟩) (show WkBx _ _ from trivial) (show WkG _ _ _ from ⟨(by first | rfl | (simp; done) | (simp; omega)), trivial⟩))) ?_
  rintro N M S ⟨i, g, acc, hi, hl, hE, rfl, rfl, rfl⟩
  refine GO (tn 4 z) (by kernel_rfl) ?_
  rcases Bool.eq_false_or_eq_true (decide ((((i : Nat) : Int) : Int) < ((ByteArray.size (s) : Nat) : Int))) with hb1 | hb1
  · have hb1p := of_decide_eq_true hb1
    refine GO (kb hb1 (tn 2 (kp (ib (s) (((i : Nat) : Int)) (by omega)) (tn 2 z)))) (by kernel_rfl) ?_
    rcases Bool.eq_false_or_eq_true (((((byt (s) (i) : Nat) : Int) : Int) == 32)) with hb2 | hb2
    · have hb2p := eq_of_beq hb2
      refine GO (kb hb2 (tn 1 (kn (wrE ((((i : Nat) : Int)) + 1) (((i + 1 : Nat) : Int)) (by omega)) (tn 1 z)))) (by kernel_rfl) ?_
      exact AG (m := s.size - (i + 1)) ⟨i + 1, g, acc, by omega, by first | omega | (simp; omega), by rw [← hE]; first | (rw [toks_sp s i (by omega) (by assumption)]; done) | (rw [toks_par s i (by omega) (by first | (left; assumption) | (right; assumption))]; simp; done) | (rw [toks_word s i (by omega) hsep, hw]; simp; done), rfl, rfl, rfl⟩ (wtr (S' := (sx 63 [(0, (jS (s))), (3, (.own (200, 10) (g) 1 (acc.map strAV))), (4, (jI (((i + 1 : Nat) : Int))))] [] [((200, 10), g)])) (WK (by kernel_rfl)) (weak_sx (show WkX _ _ _ from ⟨rfl, ⟨rfl, (by omega), rfl, (by simp [strAV])⟩, (by first | rfl | (congr 3; omega) | simp), trivial⟩) (show WkBx _ _ from trivial) (show WkG _ _ _ from ⟨(by first | rfl | (simp; done) | (simp; omega)), (by first | rfl | (simp; done) | (simp; omega)), trivial⟩))) (by kernel_rfl) (by omega)
    · have hb2p := ne_of_beq_false hb2
      refine GO (kb hb2 (tn 2 z)) (by kernel_rfl) ?_
      rcases Bool.eq_false_or_eq_true (((((byt (s) (i) : Nat) : Int) : Int) == 40)) with hb3 | hb3
      · have hb3p := eq_of_beq hb3
        refine GO (kb hb3 (kb hb3 (tn 4 (kn (wrE ((((i : Nat) : Int)) + 1) (((i + 1 : Nat) : Int)) (by omega)) (kp (show 0 ≤ (((i : Nat) : Int) : Int) ∧ (((i : Nat) : Int) : Int) ≤ ((i + 1 : Nat) : Int) ∧ ((i + 1 : Nat) : Int) ≤ ((ByteArray.size (s) : Nat) : Int) from (by omega)) (kp (show Uni 1 [(vS (ByteArray.extract (s) (i) (i + 1)))] from (by simp [Uni, AV.cells, AV.isTup])) (kp (show (g : Nat) = g ∧ Uni 1 [(vS (ByteArray.extract (s) (i) (i + 1)))] ∧ (((acc.map strAV) : List AV).length + ([(vS (ByteArray.extract (s) (i) (i + 1)))] : List AV).length) * 16 ≤ 140737488355328 from ⟨rfl, by simp [Uni, AV.cells, AV.isTup], by simp; omega⟩) (kw (show (((acc.map strAV) ++ [(vS (ByteArray.extract (s) (i) (i + 1)))]) : List AV) = _ from rfl) (tn 2 (kn (wrE ((((i : Nat) : Int)) + 1) (((i + 1 : Nat) : Int)) (by omega)) (tn 1 z))))))))))) (by kernel_rfl) ?_
        exact AG (m := s.size - (i + 1)) ⟨i + 1, g + 1, acc ++ [ByteArray.extract (s) (i) (i + 1)], by omega, by first | omega | (simp; omega), by rw [← hE]; first | (rw [toks_sp s i (by omega) (by assumption)]; done) | (rw [toks_par s i (by omega) (by first | (left; assumption) | (right; assumption))]; simp; done) | (rw [toks_word s i (by omega) hsep, hw]; simp; done), rfl, rfl, rfl⟩ (wtr (S' := (sx 63 [(0, (jS (s))), (3, (.own (200, 10) (g + 1) 1 ((acc.map strAV) ++ [(vS (ByteArray.extract (s) (i) (i + 1)))]))), (4, (jI (((i + 1 : Nat) : Int))))] [] [((200, 10), g + 1)])) (WK (by kernel_rfl)) (weak_sx (show WkX _ _ _ from ⟨rfl, ⟨rfl, (by omega), rfl, (by simp [strAV])⟩, (by first | rfl | (congr 3; omega) | simp), trivial⟩) (show WkBx _ _ from trivial) (show WkG _ _ _ from ⟨(by first | rfl | (simp; done) | (simp; omega)), (by first | rfl | (simp; done) | (simp; omega)), trivial⟩))) (by kernel_rfl) (by omega)
      · have hb3p := ne_of_beq_false hb3
        refine GO (kb hb3 (tn 2 z)) (by kernel_rfl) ?_
        rcases Bool.eq_false_or_eq_true (((((byt (s) (i) : Nat) : Int) : Int) == 41)) with hb4 | hb4
        · have hb4p := eq_of_beq hb4
          refine GO (kb hb4 (tn 4 (kn (wrE ((((i : Nat) : Int)) + 1) (((i + 1 : Nat) : Int)) (by omega)) (kp (show 0 ≤ (((i : Nat) : Int) : Int) ∧ (((i : Nat) : Int) : Int) ≤ ((i + 1 : Nat) : Int) ∧ ((i + 1 : Nat) : Int) ≤ ((ByteArray.size (s) : Nat) : Int) from (by omega)) (kp (show Uni 1 [(vS (ByteArray.extract (s) (i) (i + 1)))] from (by simp [Uni, AV.cells, AV.isTup])) (kp (show (g : Nat) = g ∧ Uni 1 [(vS (ByteArray.extract (s) (i) (i + 1)))] ∧ (((acc.map strAV) : List AV).length + ([(vS (ByteArray.extract (s) (i) (i + 1)))] : List AV).length) * 16 ≤ 140737488355328 from ⟨rfl, by simp [Uni, AV.cells, AV.isTup], by simp; omega⟩) (kw (show (((acc.map strAV) ++ [(vS (ByteArray.extract (s) (i) (i + 1)))]) : List AV) = _ from rfl) (tn 2 (kn (wrE ((((i : Nat) : Int)) + 1) (((i + 1 : Nat) : Int)) (by omega)) (tn 1 z)))))))))) (by kernel_rfl) ?_
          exact AG (m := s.size - (i + 1)) ⟨i + 1, g + 1, acc ++ [ByteArray.extract (s) (i) (i + 1)], by omega, by first | omega | (simp; omega), by rw [← hE]; first | (rw [toks_sp s i (by omega) (by assumption)]; done) | (rw [toks_par s i (by omega) (by first | (left; assumption) | (right; assumption))]; simp; done) | (rw [toks_word s i (by omega) hsep, hw]; simp; done), rfl, rfl, rfl⟩ (wtr (S' := (sx 63 [(0, (jS (s))), (3, (.own (200, 10) (g + 1) 1 ((acc.map strAV) ++ [(vS (ByteArray.extract (s) (i) (i + 1)))]))), (4, (jI (((i + 1 : Nat) : Int))))] [] [((200, 10), g + 1)])) (WK (by kernel_rfl)) (weak_sx (show WkX _ _ _ from ⟨rfl, ⟨rfl, (by omega), rfl, (by simp [strAV])⟩, (by first | rfl | (congr 3; omega) | simp), trivial⟩) (show WkBx _ _ from trivial) (show WkG _ _ _ from ⟨(by first | rfl | (simp; done) | (simp; omega)), (by first | rfl | (simp; done) | (simp; omega)), trivial⟩))) (by kernel_rfl) (by omega)
        · have hb4p := ne_of_beq_false hb4
          refine GO (kb hb4 (tn 2 z)) (by kernel_rfl) ?_
          refine LP (I := fun N M S => ∃ k : Nat, (i ≤ k) ∧ (k ≤ s.size) ∧ (wend s k = wend s i) ∧ N = s.size - k ∧ M = () ∧ S = (sx 63 [(0, (jS (s))), (3, (.own (200, 10) (g) 1 (acc.map strAV))), (4, (jI (((k : Nat) : Int)))), (5, (jI (((i : Nat) : Int))))] [] [((200, 10), g)])) (n := s.size - (i)) (by kernel_rfl) ⟨i, Nat.le_refl _, by omega, rfl, rfl, rfl, rfl⟩ (wtr (S' := (sx 63 [(0, (jS (s))), (3, (.own (200, 10) (g) 1 (acc.map strAV))), (4, (jI (((i : Nat) : Int)))), (5, (jI (((i : Nat) : Int))))] [] [((200, 10), g)])) (WK (by kernel_rfl)) (weak_sx (show WkX _ _ _ from ⟨rfl, ⟨rfl, rfl, rfl, rfl⟩, (by first | rfl | (congr 3; omega) | simp), rfl, trivial⟩) (show WkBx _ _ from trivial) (show WkG _ _ _ from ⟨rfl, rfl, trivial⟩))) ?_
          rintro N M S ⟨k, hk1, hk2, hW, rfl, rfl, rfl⟩
          have hsep : sepB ((byt s i : Nat) : Int) = false := by simp [sepB]; omega
          have hgt := wend_gt s i (by omega) hsep
          rcases Bool.eq_false_or_eq_true (decide ((((k : Nat) : Int) : Int) < ((ByteArray.size (s) : Nat) : Int))) with hb5 | hb5
          · have hb5p := of_decide_eq_true hb5
            rcases Bool.eq_false_or_eq_true (((((byt (s) (k) : Nat) : Int) : Int) != 32)) with hb6 | hb6
            · have hb6p := bne_iff_ne.1 hb6
              rcases Bool.eq_false_or_eq_true (((((byt (s) (k) : Nat) : Int) : Int) != 40)) with hb7 | hb7
              · have hb7p := bne_iff_ne.1 hb7
                refine GO (tn 5 (kb hb5 (tn 1 (kb hb5 (tn 1 (kb hb5 (kp (ib (s) (((k : Nat) : Int)) (by omega)) (kb hb5 (tn 1 (kb hb5 (tn 1 (kb hb6 (tn 1 (kb hb6 (tn 1 (kb hb6 (kp (ib (s) (((k : Nat) : Int)) (by omega)) (kb hb6 (tn 1 (kb hb6 (tn 1 (kb hb7 (tn 1 (kb hb7 (tn 1 (kb hb7 (kp (ib (s) (((k : Nat) : Int)) (by omega)) (kb hb7 (tn 1 (kb hb7 z)))))))))))))))))))))))))))))) (by kernel_rfl) ?_
                rcases Bool.eq_false_or_eq_true (((((byt (s) (k) : Nat) : Int) : Int) != 41)) with hb8 | hb8
                · have hb8p := bne_iff_ne.1 hb8
                  refine GO (kb hb8 (tn 1 (kn (wrE ((((k : Nat) : Int)) + 1) (((k + 1 : Nat) : Int)) (by omega)) (tn 1 z)))) (by kernel_rfl) ?_
                  exact AG (m := s.size - (k + 1)) ⟨k + 1, by omega, by omega, by rw [← hW, wend_step s k (by omega) (by simp [sepB]; omega)], rfl, rfl, rfl⟩ (wtr (S' := (sx 63 [(0, (jS (s))), (3, (.own (200, 10) (g) 1 (acc.map strAV))), (4, (jI (((k + 1 : Nat) : Int)))), (5, (jI (((i : Nat) : Int))))] [] [((200, 10), g)])) (WK (by kernel_rfl)) (weak_sx (show WkX _ _ _ from ⟨rfl, ⟨rfl, rfl, rfl, rfl⟩, (by first | rfl | (congr 3; omega) | simp), rfl, trivial⟩) (show WkBx _ _ from trivial) (show WkG _ _ _ from ⟨rfl, rfl, trivial⟩))) (by kernel_rfl) (by omega)
                · have hb8p := eq_of_bne_false hb8
                  refine GO (kb hb8 z) (by kernel_rfl) ?_
                  refine OUT (tn 4 (kp (show 0 ≤ (((i : Nat) : Int) : Int) ∧ (((i : Nat) : Int) : Int) ≤ ((k : Nat) : Int) ∧ ((k : Nat) : Int) ≤ ((ByteArray.size (s) : Nat) : Int) from (by omega)) (kp (show Uni 1 [(vS (ByteArray.extract (s) (i) (k)))] from (by simp [Uni, AV.cells, AV.isTup])) (kp (show (g : Nat) = g ∧ Uni 1 [(vS (ByteArray.extract (s) (i) (k)))] ∧ (((acc.map strAV) : List AV).length + ([(vS (ByteArray.extract (s) (i) (k)))] : List AV).length) * 16 ≤ 140737488355328 from ⟨rfl, by simp [Uni, AV.cells, AV.isTup], by simp; omega⟩) (kw (show (((acc.map strAV) ++ [(vS (ByteArray.extract (s) (i) (k)))]) : List AV) = _ from rfl) (tn 1 z)))))) (by kernel_rfl) ?_
                  have hw : wend s i = k := by rw [← hW]; first | exact wend_stop s k (by omega) | exact wend_sep s k (by simp [sepB]; omega)
                  exact AG (m := s.size - (k)) ⟨k, g + 1, acc ++ [ByteArray.extract (s) (i) (k)], by omega, by first | omega | (simp; omega), by rw [← hE]; first | (rw [toks_sp s i (by omega) (by assumption)]; done) | (rw [toks_par s i (by omega) (by first | (left; assumption) | (right; assumption))]; simp; done) | (rw [toks_word s i (by omega) hsep, hw]; simp; done), rfl, rfl, rfl⟩ (wtr (S' := (sx 63 [(0, (jS (s))), (3, (.own (200, 10) (g + 1) 1 ((acc.map strAV) ++ [(vS (ByteArray.extract (s) (i) (k)))]))), (4, (jI (((k : Nat) : Int))))] [] [((200, 10), g + 1)])) (WK (by kernel_rfl)) (weak_sx (show WkX _ _ _ from ⟨rfl, ⟨rfl, (by omega), rfl, (by simp [strAV])⟩, (by first | rfl | (congr 3; omega) | simp), trivial⟩) (show WkBx _ _ from trivial) (show WkG _ _ _ from ⟨(by first | rfl | (simp; done) | (simp; omega)), (by first | rfl | (simp; done) | (simp; omega)), trivial⟩))) (by kernel_rfl) (by omega)
              · have hb7p := eq_of_bne_false hb7
                refine GO (tn 5 (kb hb5 (tn 1 (kb hb5 (tn 1 (kb hb5 (kp (ib (s) (((k : Nat) : Int)) (by omega)) (kb hb5 (tn 1 (kb hb5 (tn 1 (kb hb6 (tn 1 (kb hb6 (tn 1 (kb hb6 (kp (ib (s) (((k : Nat) : Int)) (by omega)) (kb hb6 (tn 1 (kb hb6 (tn 1 (kb hb7 (kb hb7 (kb hb7 (kb hb7 (kb hb7 (kb ff z))))))))))))))))))))))))))) (by kernel_rfl) ?_
                refine OUT (tn 4 (kp (show 0 ≤ (((i : Nat) : Int) : Int) ∧ (((i : Nat) : Int) : Int) ≤ ((k : Nat) : Int) ∧ ((k : Nat) : Int) ≤ ((ByteArray.size (s) : Nat) : Int) from (by omega)) (kp (show Uni 1 [(vS (ByteArray.extract (s) (i) (k)))] from (by simp [Uni, AV.cells, AV.isTup])) (kp (show (g : Nat) = g ∧ Uni 1 [(vS (ByteArray.extract (s) (i) (k)))] ∧ (((acc.map strAV) : List AV).length + ([(vS (ByteArray.extract (s) (i) (k)))] : List AV).length) * 16 ≤ 140737488355328 from ⟨rfl, by simp [Uni, AV.cells, AV.isTup], by simp; omega⟩) (kw (show (((acc.map strAV) ++ [(vS (ByteArray.extract (s) (i) (k)))]) : List AV) = _ from rfl) (tn 1 z)))))) (by kernel_rfl) ?_
                have hw : wend s i = k := by rw [← hW]; first | exact wend_stop s k (by omega) | exact wend_sep s k (by simp [sepB]; omega)
                exact AG (m := s.size - (k)) ⟨k, g + 1, acc ++ [ByteArray.extract (s) (i) (k)], by omega, by first | omega | (simp; omega), by rw [← hE]; first | (rw [toks_sp s i (by omega) (by assumption)]; done) | (rw [toks_par s i (by omega) (by first | (left; assumption) | (right; assumption))]; simp; done) | (rw [toks_word s i (by omega) hsep, hw]; simp; done), rfl, rfl, rfl⟩ (wtr (S' := (sx 63 [(0, (jS (s))), (3, (.own (200, 10) (g + 1) 1 ((acc.map strAV) ++ [(vS (ByteArray.extract (s) (i) (k)))]))), (4, (jI (((k : Nat) : Int))))] [] [((200, 10), g + 1)])) (WK (by kernel_rfl)) (weak_sx (show WkX _ _ _ from ⟨rfl, ⟨rfl, (by omega), rfl, (by simp [strAV])⟩, (by first | rfl | (congr 3; omega) | simp), trivial⟩) (show WkBx _ _ from trivial) (show WkG _ _ _ from ⟨(by first | rfl | (simp; done) | (simp; omega)), (by first | rfl | (simp; done) | (simp; omega)), trivial⟩))) (by kernel_rfl) (by omega)
            · have hb6p := eq_of_bne_false hb6
              refine GO (tn 5 (kb hb5 (tn 1 (kb hb5 (tn 1 (kb hb5 (kp (ib (s) (((k : Nat) : Int)) (by omega)) (kb hb5 (tn 1 (kb hb5 (tn 1 (kb hb6 (kb hb6 (kb hb6 (kb hb6 (kb hb6 (tn 1 (kb ff (kb ff (kb ff (kb ff (kb ff (kb ff z))))))))))))))))))))))) (by kernel_rfl) ?_
              refine OUT (tn 4 (kp (show 0 ≤ (((i : Nat) : Int) : Int) ∧ (((i : Nat) : Int) : Int) ≤ ((k : Nat) : Int) ∧ ((k : Nat) : Int) ≤ ((ByteArray.size (s) : Nat) : Int) from (by omega)) (kp (show Uni 1 [(vS (ByteArray.extract (s) (i) (k)))] from (by simp [Uni, AV.cells, AV.isTup])) (kp (show (g : Nat) = g ∧ Uni 1 [(vS (ByteArray.extract (s) (i) (k)))] ∧ (((acc.map strAV) : List AV).length + ([(vS (ByteArray.extract (s) (i) (k)))] : List AV).length) * 16 ≤ 140737488355328 from ⟨rfl, by simp [Uni, AV.cells, AV.isTup], by simp; omega⟩) (kw (show (((acc.map strAV) ++ [(vS (ByteArray.extract (s) (i) (k)))]) : List AV) = _ from rfl) (tn 1 z)))))) (by kernel_rfl) ?_
              have hw : wend s i = k := by rw [← hW]; first | exact wend_stop s k (by omega) | exact wend_sep s k (by simp [sepB]; omega)
              exact AG (m := s.size - (k)) ⟨k, g + 1, acc ++ [ByteArray.extract (s) (i) (k)], by omega, by first | omega | (simp; omega), by rw [← hE]; first | (rw [toks_sp s i (by omega) (by assumption)]; done) | (rw [toks_par s i (by omega) (by first | (left; assumption) | (right; assumption))]; simp; done) | (rw [toks_word s i (by omega) hsep, hw]; simp; done), rfl, rfl, rfl⟩ (wtr (S' := (sx 63 [(0, (jS (s))), (3, (.own (200, 10) (g + 1) 1 ((acc.map strAV) ++ [(vS (ByteArray.extract (s) (i) (k)))]))), (4, (jI (((k : Nat) : Int))))] [] [((200, 10), g + 1)])) (WK (by kernel_rfl)) (weak_sx (show WkX _ _ _ from ⟨rfl, ⟨rfl, (by omega), rfl, (by simp [strAV])⟩, (by first | rfl | (congr 3; omega) | simp), trivial⟩) (show WkBx _ _ from trivial) (show WkG _ _ _ from ⟨(by first | rfl | (simp; done) | (simp; omega)), (by first | rfl | (simp; done) | (simp; omega)), trivial⟩))) (by kernel_rfl) (by omega)
          · have hb5p := of_decide_eq_false hb5
            refine GO (tn 5 (kb hb5 (kb hb5 (kb hb5 (kb hb5 (kb hb5 (tn 1 (kb ff (kb ff (kb ff (kb ff (kb ff (tn 1 (kb ff (kb ff (kb ff (kb ff (kb ff (kb ff z))))))))))))))))))) (by kernel_rfl) ?_
            refine OUT (tn 4 (kp (show 0 ≤ (((i : Nat) : Int) : Int) ∧ (((i : Nat) : Int) : Int) ≤ ((k : Nat) : Int) ∧ ((k : Nat) : Int) ≤ ((ByteArray.size (s) : Nat) : Int) from (by omega)) (kp (show Uni 1 [(vS (ByteArray.extract (s) (i) (k)))] from (by simp [Uni, AV.cells, AV.isTup])) (kp (show (g : Nat) = g ∧ Uni 1 [(vS (ByteArray.extract (s) (i) (k)))] ∧ (((acc.map strAV) : List AV).length + ([(vS (ByteArray.extract (s) (i) (k)))] : List AV).length) * 16 ≤ 140737488355328 from ⟨rfl, by simp [Uni, AV.cells, AV.isTup], by simp; omega⟩) (kw (show (((acc.map strAV) ++ [(vS (ByteArray.extract (s) (i) (k)))]) : List AV) = _ from rfl) (tn 1 z)))))) (by kernel_rfl) ?_
            have hw : wend s i = k := by rw [← hW]; first | exact wend_stop s k (by omega) | exact wend_sep s k (by simp [sepB]; omega)
            exact AG (m := s.size - (k)) ⟨k, g + 1, acc ++ [ByteArray.extract (s) (i) (k)], by omega, by first | omega | (simp; omega), by rw [← hE]; first | (rw [toks_sp s i (by omega) (by assumption)]; done) | (rw [toks_par s i (by omega) (by first | (left; assumption) | (right; assumption))]; simp; done) | (rw [toks_word s i (by omega) hsep, hw]; simp; done), rfl, rfl, rfl⟩ (wtr (S' := (sx 63 [(0, (jS (s))), (3, (.own (200, 10) (g + 1) 1 ((acc.map strAV) ++ [(vS (ByteArray.extract (s) (i) (k)))]))), (4, (jI (((k : Nat) : Int))))] [] [((200, 10), g + 1)])) (WK (by kernel_rfl)) (weak_sx (show WkX _ _ _ from ⟨rfl, ⟨rfl, (by omega), rfl, (by simp [strAV])⟩, (by first | rfl | (congr 3; omega) | simp), trivial⟩) (show WkBx _ _ from trivial) (show WkG _ _ _ from ⟨(by first | rfl | (simp; done) | (simp; omega)), (by first | rfl | (simp; done) | (simp; omega)), trivial⟩))) (by kernel_rfl) (by omega)
  · have hb1p := of_decide_eq_false hb1
    refine GO (kb hb1 z) (by kernel_rfl) ?_
    refine OUT (tn 2 z) (by kernel_rfl) ?_
    exact LEAF .ret (S2 := (sx 63 [(2, (.own (200, 10) (g) 1 (acc.map strAV)))] [] [((200, 10), g)])) (by kernel_rfl) (WK (by kernel_rfl)) (ends (r := (jL (acc.map strAV))) (by simp) (by kernel_rfl) (by rw [← hE, toks_end s i (by omega)]; simp) (by simp) (by simp))
end Go.Proofs.YtdaglbjgdakmcaaGreat
namespace Go.Proofs.YtdaglbjgdakmcaaGreat
open Go Go.Eng
def wt (x : Nd) : Nat := max 1 x.kids.length
structure RR where
  nd : Nd
  to : Nat
  most : Int
  ok : Bool
def RR.av (r : RR) : SV := .av (.tup [nav r.nd, .val (.int .i64 (r.to : Int)), .val (.int .i64 r.most), .val (.bool r.ok)])
end Go.Proofs.YtdaglbjgdakmcaaGreat
namespace Go.Proofs.YtdaglbjgdakmcaaGreat
open Go Go.Eng
theorem toks_len (s : ByteArray) : ∀ (n i : Nat), s.size - i = n → (toks s i).length ≤ s.size - i := by
  intro n
  induction n using Nat.strongRecOn with
  | _ n ih =>
    intro i hn
    by_cases hi : s.size ≤ i
    · rw [toks_end s i hi]; simp
    · have hlt : i < s.size := by omega
      cases hb : sepB ((byt s i : Nat) : Int) with
      | true =>
        by_cases h32 : ((byt s i : Nat) : Int) = 32
        · rw [toks_sp s i hlt h32]; have := ih (s.size - (i + 1)) (by omega) (i + 1) rfl; omega
        · have : ((byt s i : Nat) : Int) = 40 ∨ ((byt s i : Nat) : Int) = 41 := by
            simp only [sepB, Bool.or_eq_true, beq_iff_eq] at hb
            rcases hb with (hb | hb) | hb
            · exact absurd hb h32
            · exact .inl hb
            · exact .inr hb
          rw [toks_par s i hlt this]; have := ih (s.size - (i + 1)) (by omega) (i + 1) rfl
          simp only [List.length_cons]; omega
      | false =>
        have hw := wend_gt s i hlt hb
        rw [toks_word s i hlt hb]
        have := ih (s.size - wend s i) (by omega) (wend s i) rfl
        simp only [List.length_cons]; omega
theorem toks_size (s : ByteArray) : ∀ (n i : Nat), s.size - i = n → ∀ x ∈ toks s i, x.size ≤ s.size := by
  intro n
  induction n using Nat.strongRecOn with
  | _ n ih =>
    intro i hn x hx
    have hex : ∀ a b, (s.extract a b).size ≤ s.size := by intro a b; rw [ByteArray.size_extract]; omega
    by_cases hi : s.size ≤ i
    · rw [toks_end s i hi] at hx; simp at hx
    · have hlt : i < s.size := by omega
      cases hb : sepB ((byt s i : Nat) : Int) with
      | true =>
        by_cases h32 : ((byt s i : Nat) : Int) = 32
        · rw [toks_sp s i hlt h32] at hx; exact ih (s.size - (i + 1)) (by omega) (i + 1) rfl x hx
        · have : ((byt s i : Nat) : Int) = 40 ∨ ((byt s i : Nat) : Int) = 41 := by
            simp only [sepB, Bool.or_eq_true, beq_iff_eq] at hb
            rcases hb with (hb | hb) | hb
            · exact absurd hb h32
            · exact .inl hb
            · exact .inr hb
          rw [toks_par s i hlt this] at hx
          rcases List.mem_cons.1 hx with rfl | hx
          · exact hex _ _
          · exact ih (s.size - (i + 1)) (by omega) (i + 1) rfl x hx
      | false =>
        have hw := wend_gt s i hlt hb
        rw [toks_word s i hlt hb] at hx
        rcases List.mem_cons.1 hx with rfl | hx
        · exact hex _ _
        · exact ih (s.size - wend s i) (by omega) (wend s i) rfl x hx
theorem nth_mem {t : List ByteArray} {i : Nat} (h : i < t.length) : nth t i ∈ t := by
  simp [nth, List.getElem?_eq_getElem h]
def badF (x : ByteArray) : Bool := !specB x && !nameB x
def badI (t : List ByteArray) (i : Nat) : Bool := (t.drop i).any badF
theorem badI_end (t : List ByteArray) (i : Nat) (h : t.length ≤ i) : badI t i = false := by
  simp [badI, List.drop_eq_nil_of_le h]
theorem badI_step (t : List ByteArray) (i : Nat) (h : i < t.length) : badI t i = (badF (nth t i) || badI t (i + 1)) := by
  simp only [badI]
  rw [List.drop_eq_getElem_cons h, List.any_cons]
  simp only [nth, List.getD_eq_getElem?_getD, List.getElem?_eq_getElem h, Option.getD_some]
def NE (x : Nd × Int) : SV := .av (.tup [nav x.1, .val (.int .i64 x.2)])
end Go.Proofs.YtdaglbjgdakmcaaGreat
namespace Go.Proofs.YtdaglbjgdakmcaaGreat
open Go Go.Eng
/-- The flags among tokens, each once, in the order of the text. -/
def namesL : List ByteArray → List ByteArray → List ByteArray
  | [], acc => acc
  | x :: l, acc => if !specB x && !hasI acc x 0 then namesL l (acc ++ [x]) else namesL l acc
theorem namesL_step (t acc : List ByteArray) (i : Nat) (h : i < t.length) : namesL (t.drop i) acc = if !specB (nth t i) && !hasI acc (nth t i) 0 then namesL (t.drop (i + 1)) (acc ++ [nth t i]) else namesL (t.drop (i + 1)) acc := by
  rw [List.drop_eq_getElem_cons h, namesL]
  simp only [nth, List.getD_eq_getElem?_getD, List.getElem?_eq_getElem h, Option.getD_some]
theorem namesL_end (t acc : List ByteArray) (i : Nat) (h : t.length ≤ i) : namesL (t.drop i) acc = acc := by
  rw [List.drop_eq_nil_of_le h]; rfl
end Go.Proofs.YtdaglbjgdakmcaaGreat
namespace Go.Proofs.YtdaglbjgdakmcaaGreat
open Go Go.Eng
structure PR where
  nd : Nd
  pos : Nat
  deep : Int
  ok : Bool
def PR.av (r : PR) : SV := .av (.tup [nav r.nd, .val (.bool r.ok)])
theorem accP_t {t : List ByteArray} {p : Nat} {x : ByteArray} (h : accB t p x = true) : accP t p x = p + 1 ∧ p < t.length := by
  refine ⟨by simp [accP, h], ?_⟩
  simp only [accB, Bool.and_eq_true, decide_eq_true_eq] at h; exact h.1
theorem accP_f {t : List ByteArray} {p : Nat} {x : ByteArray} (h : accB t p x = false) : accP t p x = p := by simp [accP, h]
theorem accP_le (t : List ByteArray) (p : Nat) (x : ByteArray) (h : p ≤ t.length) : p ≤ accP t p x ∧ accP t p x ≤ t.length := by
  cases hb : accB t p x with
  | true => have := accP_t hb; omega
  | false => rw [accP_f hb]; omega
def oneP (rec cnd : Nat → Int → Nat → PR) (t : List ByteArray) (p : Nat) (d : Int) (l : Nat) : PR :=
  if accB t p ⟨#[110, 111, 116]⟩ then ⟨.mk 3 ⟨#[]⟩ [(rec (p + 1) (max d (l : Int)) (l + 1)).nd], (rec (p + 1) (max d (l : Int)) (l + 1)).pos, (rec (p + 1) (max d (l : Int)) (l + 1)).deep, (rec (p + 1) (max d (l : Int)) (l + 1)).ok⟩
  else if accB t p ⟨#[40]⟩ then
    if (cnd (p + 1) (max d (l : Int)) (l + 1)).ok then ⟨(cnd (p + 1) (max d (l : Int)) (l + 1)).nd, accP t (cnd (p + 1) (max d (l : Int)) (l + 1)).pos ⟨#[41]⟩, (cnd (p + 1) (max d (l : Int)) (l + 1)).deep, accB t (cnd (p + 1) (max d (l : Int)) (l + 1)).pos ⟨#[41]⟩⟩
    else ⟨(cnd (p + 1) (max d (l : Int)) (l + 1)).nd, (cnd (p + 1) (max d (l : Int)) (l + 1)).pos, (cnd (p + 1) (max d (l : Int)) (l + 1)).deep, false⟩
  else if accB t p ⟨#[116, 114, 117, 101]⟩ then ⟨.mk 4 ⟨#[]⟩ [], p + 1, max d (l : Int), true⟩
  else if accB t p ⟨#[102, 97, 108, 115, 101]⟩ then ⟨.mk 5 ⟨#[]⟩ [], p + 1, max d (l : Int), true⟩
  else if t.length ≤ p then ⟨nd0, p, max d (l : Int), false⟩
  else if specB (nth t p) then ⟨nd0, p, max d (l : Int), false⟩
  else ⟨.mk 6 (nth t p) [], p + 1, max d (l : Int), true⟩
def mkP (k : Int) (l : List Nd) : Nd := if l.length = 1 then ndth l 0 else .mk k ⟨#[]⟩ l
def listP (opnd : Nat → Int → PR) (word : ByteArray) (k : Int) (t : List ByteArray) : Nat → Nat → Int → List Nd → PR
  | 0, p, d, _ => ⟨nd0, p, d, false⟩
  | m + 1, p, d, acc => if (opnd p d).ok = false then ⟨nd0, (opnd p d).pos, (opnd p d).deep, false⟩
    else if accB t (opnd p d).pos word then listP opnd word k t m ((opnd p d).pos + 1) (opnd p d).deep (acc ++ [(opnd p d).nd])
    else ⟨mkP k (acc ++ [(opnd p d).nd]), (opnd p d).pos, (opnd p d).deep, true⟩
def allP (one : Nat → Int → Nat → PR) (t : List ByteArray) (p : Nat) (d : Int) (l : Nat) : PR := listP (fun p d => one p d l) ⟨#[97, 110, 100]⟩ 2 t (t.length + 1) p d []
def cndP (one : Nat → Int → Nat → PR) (t : List ByteArray) (p : Nat) (d : Int) (l : Nat) : PR := listP (fun p d => allP one t p d l) ⟨#[111, 114]⟩ 1 t (t.length + 1) p d []
def pone (t : List ByteArray) : Nat → Nat → Int → Nat → PR
  | 0 => oneP (fun p d _ => ⟨nd0, p, d, false⟩) (fun p d _ => ⟨nd0, p, d, false⟩) t
  | n + 1 => oneP (pone t n) (cndP (pone t n) t) t
/-- Where what was read ends. -/
def FairP (t : List ByteArray) (p : Nat) (r : PR) : Prop := p ≤ r.pos ∧ r.pos ≤ t.length ∧ (r.ok = true → p < r.pos)
theorem fairP_one {rec cnd : Nat → Int → Nat → PR} {t : List ByteArray} (hr : ∀ p d l, p ≤ t.length → FairP t p (rec p d l)) (hc : ∀ p d l, p ≤ t.length → FairP t p (cnd p d l)) (p : Nat) (d : Int) (l : Nat) (hp : p ≤ t.length) : FairP t p (oneP rec cnd t p d l) := by
  unfold oneP
  split
  · rename_i h
    have h1 := (accP_t h).2
    obtain ⟨a, b, c⟩ := hr (p + 1) (max d (l : Int)) (l + 1) (by omega)
    exact ⟨by simp only; omega, b, fun _ => by simp only; omega⟩
  split
  · rename_i h
    have h1 := (accP_t h).2
    obtain ⟨a, b, c⟩ := hc (p + 1) (max d (l : Int)) (l + 1) (by omega)
    have := accP_le t (cnd (p + 1) (max d (l : Int)) (l + 1)).pos ⟨#[41]⟩ b
    split
    · exact ⟨by simp only; omega, by simp only; omega, fun _ => by simp only; omega⟩
    · exact ⟨by simp only; omega, b, fun h => by simp at h⟩
  split
  · rename_i h; have h1 := (accP_t h).2; exact ⟨by simp only; omega, by simp only; omega, fun _ => by simp only; omega⟩
  split
  · rename_i h; have h1 := (accP_t h).2; exact ⟨by simp only; omega, by simp only; omega, fun _ => by simp only; omega⟩
  split
  · exact ⟨by simp only; omega, by simp only; omega, fun h => by simp at h⟩
  split
  · exact ⟨by simp only; omega, by simp only; omega, fun h => by simp at h⟩
  · exact ⟨by simp only; omega, by simp only; omega, fun _ => by simp only; omega⟩
theorem fairP_list {opnd : Nat → Int → PR} {word : ByteArray} {k : Int} {t : List ByteArray} (ho : ∀ p d, p ≤ t.length → FairP t p (opnd p d)) (p0 : Nat) : ∀ (m p : Nat) (d : Int) (acc : List Nd), p ≤ t.length → p0 ≤ p → FairP t p0 (listP opnd word k t m p d acc)
  | 0, p, d, acc, hp, h0 => by simp only [listP]; exact ⟨h0, hp, fun h => by simp at h⟩
  | m + 1, p, d, acc, hp, h0 => by
    simp only [listP]
    obtain ⟨a, b, c⟩ := ho p d hp
    split
    · exact ⟨by simp only; omega, b, fun h => by simp at h⟩
    · rename_i h1
      have h2 := c (by simpa using h1)
      split
      · rename_i h3
        have := (accP_t h3).2
        exact fairP_list ho p0 m _ _ _ (by omega) (by omega)
      · exact ⟨by simp only; omega, b, fun _ => by simp only; omega⟩
theorem fairP_all {one : Nat → Int → Nat → PR} {t : List ByteArray} (h : ∀ p d l, p ≤ t.length → FairP t p (one p d l)) (p : Nat) (d : Int) (l : Nat) (hp : p ≤ t.length) : FairP t p (allP one t p d l) :=
  fairP_list (fun p d hp => h p d l hp) p _ p d [] hp (Nat.le_refl _)
theorem fairP_cnd {one : Nat → Int → Nat → PR} {t : List ByteArray} (h : ∀ p d l, p ≤ t.length → FairP t p (one p d l)) (p : Nat) (d : Int) (l : Nat) (hp : p ≤ t.length) : FairP t p (cndP one t p d l) :=
  fairP_list (fun p d hp => fairP_all h p d l hp) p _ p d [] hp (Nat.le_refl _)
theorem fairP_pone (t : List ByteArray) : ∀ (n p : Nat) (d : Int) (l : Nat), p ≤ t.length → FairP t p (pone t n p d l)
  | 0, p, d, l, hp => fairP_one (fun p d _ hp => ⟨Nat.le_refl _, hp, fun h => by simp at h⟩) (fun p d _ hp => ⟨Nat.le_refl _, hp, fun h => by simp at h⟩) p d l hp
  | n + 1, p, d, l, hp => fairP_one (fairP_pone t n) (fairP_cnd (fairP_pone t n)) p d l hp
end Go.Proofs.YtdaglbjgdakmcaaGreat
namespace Go.Proofs.YtdaglbjgdakmcaaGreat
open Go Go.Eng
set_option maxRecDepth 100000 in
set_option maxHeartbeats 2000000 in
theorem accept_to (t : List ByteArray) (p : Nat) (d : Int) (x : ByteArray) (ht : t.length ≤ maxLen) : CallTo Tryz.prog 108 [(.ptr 1000 0), (jS (x))] [(1000, (.cells 107 [(jL (t.map strAV)), (jI (((p : Nat) : Int))), (jI (d))]))] [] (.av (.val (.bool (accB t p x)))) [(1000, (.cells 107 [(jL (t.map strAV)), (jI (((accP t p x : Nat) : Int))), (jI (d))]))] [] := by
  unfold maxLen at ht
  have hml := mlen t
  refine CallTo_of_body (n := 36) Tryz.func108 rfl (by kernel_rfl) Tryz.ntmps108 (by simp) (by simp) (by simp) (by simp [OkSV, SV.keys, ABox.svs, PV.keys]) (by simp [OkSV, SV.keys, ABox.svs, PV.keys]) (by simp [OkSV, SV.keys, ABox.svs, PV.keys]) (by simp [OkSV, SV.keys, ABox.svs, PV.keys]) rfl rfl ?_
  refine W_eq (sx 36 [(0, (.ptr 1000 0)), (1, (jS (x)))] [(1000, (.cells 107 [(jL (t.map strAV)), (jI (((p : Nat) : Int))), (jI (d))]))] []) (by kernel_rfl) ?_
  refine WN ?_
  refine GO (tn 1 z) (by kernel_rfl) ?_
  rcases Bool.eq_false_or_eq_true (decide ((((p : Nat) : Int) : Int) < (((t.map strAV).length : Nat) : Int))) with hb1 | hb1
  · have hb1p := of_decide_eq_true hb1
    have d2 := (show 0 ≤ (((p : Nat) : Int) : Int) ∧ ((t.map strAV) : List AV)[p]? = some (vS (nth t (p))) from (nth_at (by assumption)))
    refine DR3 (tn 11 (ko (.b true) (kp (show decide ((((p : Nat) : Int) : Int) < (((t.map strAV).length : Nat) : Int)) = true from hb1) (tn 1 (ko (.b true) (kp (show decide ((((p : Nat) : Int) : Int) < (((t.map strAV).length : Nat) : Int)) = true from hb1) (tn 1 (ko (.b true) (kp (show decide ((((p : Nat) : Int) : Int) < (((t.map strAV).length : Nat) : Int)) = true from hb1) (tn 1 (ko (.b true) (kp (show decide ((((p : Nat) : Int) : Int) < (((t.map strAV).length : Nat) : Int)) = true from hb1) (tn 1 (ko (.b true) (kp (show decide ((((p : Nat) : Int) : Int) < (((t.map strAV).length : Nat) : Int)) = true from hb1) (tn 1 (ko (.b true) (kp (show decide ((((p : Nat) : Int) : Int) < (((t.map strAV).length : Nat) : Int)) = true from hb1) (tn 1 (ko (.b true) (kp (show decide ((((p : Nat) : Int) : Int) < (((t.map strAV).length : Nat) : Int)) = true from hb1) (tn 1 (ko (.b true) (kp (show decide ((((p : Nat) : Int) : Int) < (((t.map strAV).length : Nat) : Int)) = true from hb1) (tn 1 (ko (.b true) (kp (show decide ((((p : Nat) : Int) : Int) < (((t.map strAV).length : Nat) : Int)) = true from hb1) (ko (eO d2) (kp d2 (ko (.b true) (kp (show decide ((((p : Nat) : Int) : Int) < (((t.map strAV).length : Nat) : Int)) = true from hb1) (tn 1 (ko (.b true) (kp (show decide ((((p : Nat) : Int) : Int) < (((t.map strAV).length : Nat) : Int)) = true from hb1) (tn 1 (ko (.b true) (kp (show decide ((((p : Nat) : Int) : Int) < (((t.map strAV).length : Nat) : Int)) = true from hb1) (tn 1 (ko (.b true) (kp hb1 z)))))))))))))))))))))))))))))))))))))))) (by kernel_rfl) (by kernel_rfl) (by kernel_rfl) ?_
    rcases Bool.eq_false_or_eq_true (eqs (nth t (p)) (x)) with hb3 | hb3
    · refine GO (kb hb3 (tn 4 (kn (wrE ((((p : Nat) : Int)) + 1) (((p + 1 : Nat) : Int)) (by omega)) (tn 4 z)))) (by kernel_rfl) ?_
      exact LEAF .ret (S2 := (sx 36 [(4, (jB (true)))] [(1000, (.cells 107 [(jL (t.map strAV)), (jI (((p + 1 : Nat) : Int))), (jI (d))]))] [])) (by kernel_rfl) (WK (by kernel_rfl)) (ends (r := (jB (true))) (by simp) (by kernel_rfl) (bres (by first | rw [accB_out x (by omega)] | (rw [accB_in x (by omega)]; simp_all))) (by first | (simp [sx, accP, accB_out x (show ¬ p < t.length by omega)]; done) | (simp_all [sx, accP, accB_in x (show p < t.length by omega)]; done)) (by simp))
    · refine GO (kb hb3 (tn 1 z)) (by kernel_rfl) ?_
      exact LEAF .ret (S2 := (sx 36 [(4, (jB (false)))] [(1000, (.cells 107 [(jL (t.map strAV)), (jI (((p : Nat) : Int))), (jI (d))]))] [])) (by kernel_rfl) (WK (by kernel_rfl)) (ends (r := (jB (false))) (by simp) (by kernel_rfl) (bres (by first | rw [accB_out x (by omega)] | (rw [accB_in x (by omega)]; simp_all))) (by first | (simp [sx, accP, accB_out x (show ¬ p < t.length by omega)]; done) | (simp_all [sx, accP, accB_in x (show p < t.length by omega)]; done)) (by simp))
  · have hb1p := of_decide_eq_false hb1
    refine DR3 (tn 11 (ko (.b false) (kp (show decide ((((p : Nat) : Int) : Int) < (((t.map strAV).length : Nat) : Int)) = false from hb1) (ko (.b false) (kp (show decide ((((p : Nat) : Int) : Int) < (((t.map strAV).length : Nat) : Int)) = false from hb1) (ko (.b false) (kp (show decide ((((p : Nat) : Int) : Int) < (((t.map strAV).length : Nat) : Int)) = false from hb1) (ko (.b false) (kp (show decide ((((p : Nat) : Int) : Int) < (((t.map strAV).length : Nat) : Int)) = false from hb1) (ko (.b false) (kp (show decide ((((p : Nat) : Int) : Int) < (((t.map strAV).length : Nat) : Int)) = false from hb1) (ko (.b false) (kp (show decide ((((p : Nat) : Int) : Int) < (((t.map strAV).length : Nat) : Int)) = false from hb1) (ko (.b false) (kp (show decide ((((p : Nat) : Int) : Int) < (((t.map strAV).length : Nat) : Int)) = false from hb1) (ko (.b false) (kp (show decide ((((p : Nat) : Int) : Int) < (((t.map strAV).length : Nat) : Int)) = false from hb1) (ko (.b false) (kp (show decide ((((p : Nat) : Int) : Int) < (((t.map strAV).length : Nat) : Int)) = false from hb1) (ko (.b false) (kp (show decide ((((p : Nat) : Int) : Int) < (((t.map strAV).length : Nat) : Int)) = false from hb1) (ko (.b false) (kp (show decide ((((p : Nat) : Int) : Int) < (((t.map strAV).length : Nat) : Int)) = false from hb1) (ko (.b false) (kp (show decide ((((p : Nat) : Int) : Int) < (((t.map strAV).length : Nat) : Int)) = false from hb1) (ko (.b false) (kp hb1 (kb ff (tn 1 z))))))))))))))))))))))))))))) (by kernel_rfl) (by kernel_rfl) (by kernel_rfl) ?_
    exact LEAF .ret (S2 := (sx 36 [(4, (jB (false)))] [(1000, (.cells 107 [(jL (t.map strAV)), (jI (((p : Nat) : Int))), (jI (d))]))] [])) (by kernel_rfl) (WK (by kernel_rfl)) (ends (r := (jB (false))) (by simp) (by kernel_rfl) (bres (by first | rw [accB_out x (by omega)] | (rw [accB_in x (by omega)]; simp_all))) (by first | (simp [sx, accP, accB_out x (show ¬ p < t.length by omega)]; done) | (simp_all [sx, accP, accB_in x (show p < t.length by omega)]; done)) (by simp))
theorem accept_t (t : List ByteArray) (p : Nat) (d : Int) (x : ByteArray) (ht : t.length ≤ maxLen) (h : accB t p x = true) : CallTo Tryz.prog 108 [(jP 1000 0), (jS x)] [(1000, (.cells 107 [(jL (t.map strAV)), (jI ((p : Nat) : Int)), (jI (d))]))] [] (jB true) [(1000, (.cells 107 [(jL (t.map strAV)), (jI ((p + 1 : Nat) : Int)), (jI (d))]))] [] := by
  have h1 := accept_to t p d x ht
  rw [h, (accP_t h).1] at h1; exact h1
theorem accept_f (t : List ByteArray) (p : Nat) (d : Int) (x : ByteArray) (ht : t.length ≤ maxLen) (h : accB t p x = false) : CallTo Tryz.prog 108 [(jP 1000 0), (jS x)] [(1000, (.cells 107 [(jL (t.map strAV)), (jI ((p : Nat) : Int)), (jI (d))]))] [] (jB false) [(1000, (.cells 107 [(jL (t.map strAV)), (jI ((p : Nat) : Int)), (jI (d))]))] [] := by
  have h1 := accept_to t p d x ht
  rw [h, accP_f h] at h1; exact h1
set_option maxRecDepth 100000 in
set_option maxHeartbeats 2000000 in
theorem plistA_to (t : List ByteArray) (ht : t.length ≤ 4096) (opnd : Nat → Int → PR) (w : ByteArray) (k : Int) (p0 : Nat) (d0 : Int) (l : Nat) (hp0 : p0 ≤ t.length) (hop : ∀ p d, p ≤ t.length → FairP t p (opnd p d)) (hcall : ∀ p d, p0 ≤ p → p ≤ t.length → CallTo Tryz.prog 86 [(jP 1000 0), (jI ((l : Nat) : Int))] [(1000, (.cells 107 [(jL (t.map strAV)), (jI ((p : Nat) : Int)), (jI (d))]))] [] (PR.av (opnd p d)) [(1000, (.cells 107 [(jL (t.map strAV)), (jI (((opnd p d).pos : Nat) : Int)), (jI ((opnd p d).deep))]))] []) : CallTo Tryz.prog 85 [(.ptr 1000 0), (jS (w)), (jI (k)), (jI (((l : Nat) : Int))), (.fn 86 [(.ptr 1000 0)] [])] [(1000, (.cells 107 [(jL (t.map strAV)), (jI (((p0 : Nat) : Int))), (jI (d0))]))] [] (PR.av (listP opnd w k t (t.length + 1) (p0) (d0) ([]))) [(1000, (.cells 107 [(jL (t.map strAV)), (jI ((((listP opnd w k t (t.length + 1) (p0) (d0) ([])).pos : Nat) : Int))), (jI ((listP opnd w k t (t.length + 1) (p0) (d0) ([])).deep))]))] [] := by
  have hml := mlen t
  refine CallTo_of_body (n := 41) Tryz.func85 rfl (by kernel_rfl) Tryz.ntmps85 (by simp) (by simp) (by simp) (by simp [OkSV, SV.keys, ABox.svs, PV.keys, PR.av]) (by simp [OkSV, SV.keys, ABox.svs, PV.keys, PR.av]) (by simp [OkSV, SV.keys, ABox.svs, PV.keys, PR.av]) (by simp [OkSV, SV.keys, ABox.svs, PV.keys, PR.av]) rfl rfl ?_
  refine W_eq (sx 41 [(0, (.ptr 1000 0)), (1, (jS (w))), (2, (jI (k))), (3, (jI (((l : Nat) : Int)))), (4, (.fn 86 [(.ptr 1000 0)] []))] [(1000, (.cells 107 [(jL (t.map strAV)), (jI (((p0 : Nat) : Int))), (jI (d0))]))] []) (by kernel_rfl) ?_
  refine WN ?_
  refine GO (tn 3 z) (by kernel_rfl) ?_
  refine LP (I := fun N M S => ∃ p : Nat, ∃ d : Int, ∃ n : Nat, ∃ g : Nat, ∃ acc : List Nd, (p0 ≤ p) ∧ (p ≤ t.length) ∧ (n ≤ p) ∧ (acc.length ≤ n) ∧ (listP opnd w k t (t.length + 1 - n) (p) (d) (acc) = listP opnd w k t (t.length + 1) (p0) (d0) ([])) ∧ N = t.length - p ∧ M = () ∧ S = (sx 41 [(0, (.ptr 1000 0)), (1, (jS (w))), (2, (jI (k))), (3, (jI (((l : Nat) : Int)))), (4, (.fn 86 [(.ptr 1000 0)] [])), (10, (.ptr 10 0)), (12, (.own (200, 78) (g) 3 (av2 acc)))] [(10, (.cells 77 [(jI (0)), (jS (⟨#[]⟩)), .nil])), (1000, (.cells 107 [(jL (t.map strAV)), (jI (((p : Nat) : Int))), (jI (d))]))] [((200, 78), g)])) (n := t.length - (p0)) (by kernel_rfl) ⟨p0, d0, 0, 0, [], Nat.le_refl _, by omega, Nat.zero_le _, Nat.le_refl _, by rw [Nat.sub_zero], rfl, rfl, rfl⟩ (wtr (S' := (sx 41 [(0, (.ptr 1000 0)), (1, (jS (w))), (2, (jI (k))), (3, (jI (((l : Nat) : Int)))), (4, (.fn 86 [(.ptr 1000 0)] [])), (10, (.ptr 10 0)), (12, .nil)] [(10, (.cells 77 [(jI (0)), (jS (⟨#[]⟩)), .nil])), (1000, (.cells 107 [(jL (t.map strAV)), (jI (((p0 : Nat) : Int))), (jI (d0))]))] [])) (WK (by kernel_rfl)) (weak_sx (show WkX _ _ _ from ⟨rfl, rfl, rfl, rfl, rfl, rfl, ⟨rfl, by decide, rfl⟩, trivial⟩) (show WkBx _ _ from ⟨⟨rfl, ⟨rfl, rfl, rfl, trivial⟩⟩, ⟨rfl, ⟨rfl, (by first | rfl | (congr 3; omega) | simp), (by first | rfl | (congr 3; omega) | simp), trivial⟩⟩, trivial⟩) (show WkG _ _ _ from ⟨(by first | rfl | omega | (simp; done) | (simp; omega)), trivial⟩))) ?_
  rintro N M S ⟨p, d, n, g, acc, hp0, hp, hn, hA, hE, rfl, rfl, rfl⟩
  obtain ⟨hf1, hf2, hf3⟩ := hop p d hp
  refine GO (tn 2 (kg (hcall (p) (d) (by omega) (by omega)) trivial (tn 8 z))) (by kernel_rfl) ?_
  rcases Bool.eq_false_or_eq_true ((!PR.ok (opnd (p) (d)))) with hb1 | hb1
  · have hb1n : PR.ok (opnd (p) (d)) = false := by simpa using hb1
    refine GO (kb hb1 (tn 3 z)) (by kernel_rfl) ?_
    refine OUT z (by kernel_rfl) ?_
    exact LEAF .ret (S2 := (sx 41 [(10, (.ptr 10 0)), (11, (jB (false)))] [(10, (.cells 77 [(jI (0)), (jS (⟨#[]⟩)), .nil])), (1000, (.cells 107 [(jL (t.map strAV)), (jI ((((opnd (p) (d)).pos : Nat) : Int))), (jI ((opnd (p) (d)).deep))]))] [((200, 78), g)])) (by kernel_rfl) (WK (by kernel_rfl)) (ends (r := (.av (.tup [(.agg [(vI (0)), (vS (⟨#[]⟩)), (.sl [])]), (vB (false))]))) (by simp) (by kernel_rfl) (by rw [← hE, show t.length + 1 - n = t.length + 1 - (n + 1) + 1 by omega, listP]; rw [if_pos (by simp [*])]; rfl) (by rw [← hE, show t.length + 1 - n = t.length + 1 - (n + 1) + 1 by omega, listP]; rw [if_pos hb1n]; simp [sx, List.lookup_cons]) (by simp))
  · have hb1n : PR.ok (opnd (p) (d)) = true := by simpa using hb1
    have hf4 := hf3 hb1n
    rcases Bool.eq_false_or_eq_true (accB t ((opnd (p) (d)).pos) (w)) with hb2 | hb2
    · have hb2l := (accP_t hb2).2
      refine GO (kb hb1 (tn 2 (kp (show Uni 3 [(.agg [(vI (Nd.kind (PR.nd (opnd (p) (d))))), (vS (Nd.name (PR.nd (opnd (p) (d))))), (.sl (av2 (Nd.kids (PR.nd (opnd (p) (d))))))])] from (by simp [Uni, AV.cells, AV.isTup])) (kp (show (g : Nat) = g ∧ Uni 3 [(.agg [(vI (Nd.kind (PR.nd (opnd (p) (d))))), (vS (Nd.name (PR.nd (opnd (p) (d))))), (.sl (av2 (Nd.kids (PR.nd (opnd (p) (d))))))])] ∧ (((av2 acc) : List AV).length + ([(.agg [(vI (Nd.kind (PR.nd (opnd (p) (d))))), (vS (Nd.name (PR.nd (opnd (p) (d))))), (.sl (av2 (Nd.kids (PR.nd (opnd (p) (d))))))])] : List AV).length) * 48 ≤ 140737488355328 from ⟨rfl, (by first | exact av2_uni _ | simp [Uni, AV.cells, AV.isTup]), by simp only [List.length_append, List.length_cons, List.length_nil, av2_len]; omega⟩) (kw (show (((av2 acc) ++ [(.agg [(vI (Nd.kind (PR.nd (opnd (p) (d))))), (vS (Nd.name (PR.nd (opnd (p) (d))))), (.sl (av2 (Nd.kids (PR.nd (opnd (p) (d))))))])]) : List AV) = _ from rfl) (tn 3 (kg (accept_t t ((opnd (p) (d)).pos) ((opnd (p) (d)).deep) (w) (by unfold maxLen; omega) hb2) trivial (tn 1 (kb ff z))))))))) (by kernel_rfl) ?_
      exact AG (m := t.length - ((opnd (p) (d)).pos + 1)) ⟨(opnd (p) (d)).pos + 1, (opnd (p) (d)).deep, n + 1, g + 1, acc ++ [PR.nd (opnd (p) (d))], by omega, by omega, by omega, by simp; omega, by rw [← hE, show t.length + 1 - n = t.length + 1 - (n + 1) + 1 by omega, listP, if_neg (by simp [*]), if_pos (by simp [*])], rfl, rfl, rfl⟩ (wtr (S' := (sx 41 [(0, (.ptr 1000 0)), (1, (jS (w))), (2, (jI (k))), (3, (jI (((l : Nat) : Int)))), (4, (.fn 86 [(.ptr 1000 0)] [])), (10, (.ptr 10 0)), (12, (.own (200, 78) (g + 1) 3 ((av2 acc) ++ [(.agg [(vI (Nd.kind (PR.nd (opnd (p) (d))))), (vS (Nd.name (PR.nd (opnd (p) (d))))), (.sl (av2 (Nd.kids (PR.nd (opnd (p) (d))))))])])))] [(10, (.cells 77 [(jI (0)), (jS (⟨#[]⟩)), .nil])), (1000, (.cells 107 [(jL (t.map strAV)), (jI ((((opnd (p) (d)).pos + 1 : Nat) : Int))), (jI ((opnd (p) (d)).deep))]))] [((200, 78), g + 1)])) (WK (by kernel_rfl)) (weak_sx (show WkX _ _ _ from ⟨rfl, rfl, rfl, rfl, rfl, rfl, ⟨rfl, (by first | rfl | omega | (simp; done) | (simp; omega)), rfl, (by first | exact av2_cat _ _ | exact av2_app _ _ | rfl)⟩, trivial⟩) (show WkBx _ _ from ⟨⟨rfl, ⟨rfl, rfl, rfl, trivial⟩⟩, ⟨rfl, ⟨rfl, (by first | rfl | (congr 3; omega) | simp), (by first | rfl | (congr 3; omega) | simp), trivial⟩⟩, trivial⟩) (show WkG _ _ _ from ⟨(by first | rfl | omega | (simp; done) | (simp; omega)), (by first | rfl | omega | (simp; done) | (simp; omega)), trivial⟩))) (by kernel_rfl) (by omega)
    · refine GO (kb hb1 (tn 2 (kp (show Uni 3 [(.agg [(vI (Nd.kind (PR.nd (opnd (p) (d))))), (vS (Nd.name (PR.nd (opnd (p) (d))))), (.sl (av2 (Nd.kids (PR.nd (opnd (p) (d))))))])] from (by simp [Uni, AV.cells, AV.isTup])) (kp (show (g : Nat) = g ∧ Uni 3 [(.agg [(vI (Nd.kind (PR.nd (opnd (p) (d))))), (vS (Nd.name (PR.nd (opnd (p) (d))))), (.sl (av2 (Nd.kids (PR.nd (opnd (p) (d))))))])] ∧ (((av2 acc) : List AV).length + ([(.agg [(vI (Nd.kind (PR.nd (opnd (p) (d))))), (vS (Nd.name (PR.nd (opnd (p) (d))))), (.sl (av2 (Nd.kids (PR.nd (opnd (p) (d))))))])] : List AV).length) * 48 ≤ 140737488355328 from ⟨rfl, (by first | exact av2_uni _ | simp [Uni, AV.cells, AV.isTup]), by simp only [List.length_append, List.length_cons, List.length_nil, av2_len]; omega⟩) (kw (show (((av2 acc) ++ [(.agg [(vI (Nd.kind (PR.nd (opnd (p) (d))))), (vS (Nd.name (PR.nd (opnd (p) (d))))), (.sl (av2 (Nd.kids (PR.nd (opnd (p) (d))))))])]) : List AV) = _ from rfl) (tn 3 (kg (accept_f t ((opnd (p) (d)).pos) ((opnd (p) (d)).deep) (w) (by unfold maxLen; omega) hb2) trivial (tn 1 (kb tt z))))))))) (by kernel_rfl) ?_
      refine OUT (tn 3 z) (by kernel_rfl) ?_
      rcases Bool.eq_false_or_eq_true (((((((av2 acc) ++ [(.agg [(vI (Nd.kind (PR.nd (opnd (p) (d))))), (vS (Nd.name (PR.nd (opnd (p) (d))))), (.sl (av2 (Nd.kids (PR.nd (opnd (p) (d))))))])] : List AV).length : Nat) : Int) : Int) == 1)) with hb3 | hb3
      · have hb3p := eq_of_beq hb3
        have hLn :  (acc ++ [PR.nd (opnd (p) (d))]).length = 1 := by have h1 := hb3p; simp only [List.length_append, List.length_cons, List.length_nil, av2_len] at h1 ⊢; omega
        refine GO (kb hb3 (tn 1 (ke (show 0 ≤ (0 : Int) ∧ (((av2 acc) ++ [(.agg [(vI (Nd.kind (PR.nd (opnd (p) (d))))), (vS (Nd.name (PR.nd (opnd (p) (d))))), (.sl (av2 (Nd.kids (PR.nd (opnd (p) (d))))))])]) : List AV)[0]? = some (.agg [(vI (Nd.kind (ndth (acc ++ [PR.nd (opnd (p) (d))]) (0)))), (vS (Nd.name (ndth (acc ++ [PR.nd (opnd (p) (d))]) (0)))), (.sl (av2 (Nd.kids (ndth (acc ++ [PR.nd (opnd (p) (d))]) (0)))))]) from (by rw [show (((av2 acc) ++ [(.agg [(vI (Nd.kind (PR.nd (opnd (p) (d))))), (vS (Nd.name (PR.nd (opnd (p) (d))))), (.sl (av2 (Nd.kids (PR.nd (opnd (p) (d))))))])]) : List AV) = av2 (acc ++ [PR.nd (opnd (p) (d))]) from (by first | exact av2_cat _ _ | exact av2_app _ _ | rfl)]; exact av2_at (i := 0) (by omega))) (tn 3 z)))) (by kernel_rfl) ?_
        exact LEAF .ret (S2 := (sx 41 [(10, (.ptr 10 0)), (11, (jB (true)))] [(10, (.cells 77 [(jI (Nd.kind (ndth (acc ++ [PR.nd (opnd (p) (d))]) (0)))), (jS (Nd.name (ndth (acc ++ [PR.nd (opnd (p) (d))]) (0)))), (jL (av2 (Nd.kids (ndth (acc ++ [PR.nd (opnd (p) (d))]) (0)))))])), (1000, (.cells 107 [(jL (t.map strAV)), (jI ((((opnd (p) (d)).pos : Nat) : Int))), (jI ((opnd (p) (d)).deep))]))] [((200, 78), g + 1)])) (by kernel_rfl) (WK (by kernel_rfl)) (ends (r := (.av (.tup [(.agg [(vI (Nd.kind (ndth (acc ++ [PR.nd (opnd (p) (d))]) (0)))), (vS (Nd.name (ndth (acc ++ [PR.nd (opnd (p) (d))]) (0)))), (.sl (av2 (Nd.kids (ndth (acc ++ [PR.nd (opnd (p) (d))]) (0)))))]), (vB (true))]))) (by simp) (by kernel_rfl) (by rw [← hE, show t.length + 1 - n = t.length + 1 - (n + 1) + 1 by omega, listP]; rw [if_neg (by simp [*]), if_neg (by simp [*])]; simp only [PR.av, mkP]; first | (rw [if_pos hLn]; rfl) | (rw [if_neg hLn, if_neg hLn]; rfl)) (by rw [← hE, show t.length + 1 - n = t.length + 1 - (n + 1) + 1 by omega, listP]; rw [if_neg (by rw [hb1n]; simp), if_neg (by simp [*])]; simp [sx, List.lookup_cons, *]) (by simp))
      · have hb3p := ne_of_beq_false hb3
        have hLn : ¬ (acc ++ [PR.nd (opnd (p) (d))]).length = 1 := by have h1 := hb3p; simp only [List.length_append, List.length_cons, List.length_nil, av2_len] at h1 ⊢; omega
        refine GO (kb hb3 (tn 5 z)) (by kernel_rfl) ?_
        exact LEAF .ret (S2 := (sx 41 [(10, (.ptr 10 0)), (11, (jB (true)))] [(10, (.cells 77 [(jI (k)), (jS (⟨#[]⟩)), (jL ((av2 acc) ++ [(.agg [(vI (Nd.kind (PR.nd (opnd (p) (d))))), (vS (Nd.name (PR.nd (opnd (p) (d))))), (.sl (av2 (Nd.kids (PR.nd (opnd (p) (d))))))])]))])), (1000, (.cells 107 [(jL (t.map strAV)), (jI ((((opnd (p) (d)).pos : Nat) : Int))), (jI ((opnd (p) (d)).deep))]))] [((200, 78), g + 1)])) (by kernel_rfl) (WK (by kernel_rfl)) (ends (r := (.av (.tup [(.agg [(vI (k)), (vS (⟨#[]⟩)), (.sl ((av2 acc) ++ [(.agg [(vI (Nd.kind (PR.nd (opnd (p) (d))))), (vS (Nd.name (PR.nd (opnd (p) (d))))), (.sl (av2 (Nd.kids (PR.nd (opnd (p) (d))))))])]))]), (vB (true))]))) (by simp) (by kernel_rfl) (by rw [← hE, show t.length + 1 - n = t.length + 1 - (n + 1) + 1 by omega, listP]; rw [if_neg (by simp [*]), if_neg (by simp [*])]; simp only [PR.av, mkP]; first | (rw [if_pos hLn]; rfl) | (rw [if_neg hLn, show (((av2 acc) ++ [(.agg [(vI (Nd.kind (PR.nd (opnd (p) (d))))), (vS (Nd.name (PR.nd (opnd (p) (d))))), (.sl (av2 (Nd.kids (PR.nd (opnd (p) (d))))))])]) : List AV) = av2 (acc ++ [PR.nd (opnd (p) (d))]) from (by first | exact av2_cat _ _ | exact av2_app _ _ | rfl)]; rfl)) (by rw [← hE, show t.length + 1 - n = t.length + 1 - (n + 1) + 1 by omega, listP]; rw [if_neg (by rw [hb1n]; simp), if_neg (by simp [*])]; simp [sx, List.lookup_cons, *]) (by simp))
set_option maxRecDepth 100000 in
set_option maxHeartbeats 2000000 in
theorem plistO_to (t : List ByteArray) (ht : t.length ≤ 4096) (opnd : Nat → Int → PR) (w : ByteArray) (k : Int) (p0 : Nat) (d0 : Int) (l : Nat) (hp0 : p0 ≤ t.length) (hop : ∀ p d, p ≤ t.length → FairP t p (opnd p d)) (hcall : ∀ p d, p0 ≤ p → p ≤ t.length → CallTo Tryz.prog 109 [(jP 1000 0), (jI ((l : Nat) : Int))] [(1000, (.cells 107 [(jL (t.map strAV)), (jI ((p : Nat) : Int)), (jI (d))]))] [] (PR.av (opnd p d)) [(1000, (.cells 107 [(jL (t.map strAV)), (jI (((opnd p d).pos : Nat) : Int)), (jI ((opnd p d).deep))]))] []) : CallTo Tryz.prog 85 [(.ptr 1000 0), (jS (w)), (jI (k)), (jI (((l : Nat) : Int))), (.fn 109 [(.ptr 1000 0)] [])] [(1000, (.cells 107 [(jL (t.map strAV)), (jI (((p0 : Nat) : Int))), (jI (d0))]))] [] (PR.av (listP opnd w k t (t.length + 1) (p0) (d0) ([]))) [(1000, (.cells 107 [(jL (t.map strAV)), (jI ((((listP opnd w k t (t.length + 1) (p0) (d0) ([])).pos : Nat) : Int))), (jI ((listP opnd w k t (t.length + 1) (p0) (d0) ([])).deep))]))] [] := by
  have hml := mlen t
  refine CallTo_of_body (n := 41) Tryz.func85 rfl (by kernel_rfl) Tryz.ntmps85 (by simp) (by simp) (by simp) (by simp [OkSV, SV.keys, ABox.svs, PV.keys, PR.av]) (by simp [OkSV, SV.keys, ABox.svs, PV.keys, PR.av]) (by simp [OkSV, SV.keys, ABox.svs, PV.keys, PR.av]) (by simp [OkSV, SV.keys, ABox.svs, PV.keys, PR.av]) rfl rfl ?_
  refine W_eq (sx 41 [(0, (.ptr 1000 0)), (1, (jS (w))), (2, (jI (k))), (3, (jI (((l : Nat) : Int)))), (4, (.fn 109 [(.ptr 1000 0)] []))] [(1000, (.cells 107 [(jL (t.map strAV)), (jI (((p0 : Nat) : Int))), (jI (d0))]))] []) (by kernel_rfl) ?_
  refine WN ?_
  refine GO (tn 3 z) (by kernel_rfl) ?_
  refine LP (I := fun N M S => ∃ p : Nat, ∃ d : Int, ∃ n : Nat, ∃ g : Nat, ∃ acc : List Nd, (p0 ≤ p) ∧ (p ≤ t.length) ∧ (n ≤ p) ∧ (acc.length ≤ n) ∧ (listP opnd w k t (t.length + 1 - n) (p) (d) (acc) = listP opnd w k t (t.length + 1) (p0) (d0) ([])) ∧ N = t.length - p ∧ M = () ∧ S = (sx 41 [(0, (.ptr 1000 0)), (1, (jS (w))), (2, (jI (k))), (3, (jI (((l : Nat) : Int)))), (4, (.fn 109 [(.ptr 1000 0)] [])), (10, (.ptr 10 0)), (12, (.own (200, 78) (g) 3 (av2 acc)))] [(10, (.cells 77 [(jI (0)), (jS (⟨#[]⟩)), .nil])), (1000, (.cells 107 [(jL (t.map strAV)), (jI (((p : Nat) : Int))), (jI (d))]))] [((200, 78), g)])) (n := t.length - (p0)) (by kernel_rfl) ⟨p0, d0, 0, 0, [], Nat.le_refl _, by omega, Nat.zero_le _, Nat.le_refl _, by rw [Nat.sub_zero], rfl, rfl, rfl⟩ (wtr (S' := (sx 41 [(0, (.ptr 1000 0)), (1, (jS (w))), (2, (jI (k))), (3, (jI (((l : Nat) : Int)))), (4, (.fn 109 [(.ptr 1000 0)] [])), (10, (.ptr 10 0)), (12, .nil)] [(10, (.cells 77 [(jI (0)), (jS (⟨#[]⟩)), .nil])), (1000, (.cells 107 [(jL (t.map strAV)), (jI (((p0 : Nat) : Int))), (jI (d0))]))] [])) (WK (by kernel_rfl)) (weak_sx (show WkX _ _ _ from ⟨rfl, rfl, rfl, rfl, rfl, rfl, ⟨rfl, by decide, rfl⟩, trivial⟩) (show WkBx _ _ from ⟨⟨rfl, ⟨rfl, rfl, rfl, trivial⟩⟩, ⟨rfl, ⟨rfl, (by first | rfl | (congr 3; omega) | simp), (by first | rfl | (congr 3; omega) | simp), trivial⟩⟩, trivial⟩) (show WkG _ _ _ from ⟨(by first | rfl | omega | (simp; done) | (simp; omega)), trivial⟩))) ?_
  rintro N M S ⟨p, d, n, g, acc, hp0, hp, hn, hA, hE, rfl, rfl, rfl⟩
  obtain ⟨hf1, hf2, hf3⟩ := hop p d hp
  refine GO (tn 2 (kg (hcall (p) (d) (by omega) (by omega)) trivial (tn 8 z))) (by kernel_rfl) ?_
  rcases Bool.eq_false_or_eq_true ((!PR.ok (opnd (p) (d)))) with hb1 | hb1
  · have hb1n : PR.ok (opnd (p) (d)) = false := by simpa using hb1
    refine GO (kb hb1 (tn 3 z)) (by kernel_rfl) ?_
    refine OUT z (by kernel_rfl) ?_
    exact LEAF .ret (S2 := (sx 41 [(10, (.ptr 10 0)), (11, (jB (false)))] [(10, (.cells 77 [(jI (0)), (jS (⟨#[]⟩)), .nil])), (1000, (.cells 107 [(jL (t.map strAV)), (jI ((((opnd (p) (d)).pos : Nat) : Int))), (jI ((opnd (p) (d)).deep))]))] [((200, 78), g)])) (by kernel_rfl) (WK (by kernel_rfl)) (ends (r := (.av (.tup [(.agg [(vI (0)), (vS (⟨#[]⟩)), (.sl [])]), (vB (false))]))) (by simp) (by kernel_rfl) (by rw [← hE, show t.length + 1 - n = t.length + 1 - (n + 1) + 1 by omega, listP]; rw [if_pos (by simp [*])]; rfl) (by rw [← hE, show t.length + 1 - n = t.length + 1 - (n + 1) + 1 by omega, listP]; rw [if_pos hb1n]; simp [sx, List.lookup_cons]) (by simp))
  · have hb1n : PR.ok (opnd (p) (d)) = true := by simpa using hb1
    have hf4 := hf3 hb1n
    rcases Bool.eq_false_or_eq_true (accB t ((opnd (p) (d)).pos) (w)) with hb2 | hb2
    · have hb2l := (accP_t hb2).2
      refine GO (kb hb1 (tn 2 (kp (show Uni 3 [(.agg [(vI (Nd.kind (PR.nd (opnd (p) (d))))), (vS (Nd.name (PR.nd (opnd (p) (d))))), (.sl (av2 (Nd.kids (PR.nd (opnd (p) (d))))))])] from (by simp [Uni, AV.cells, AV.isTup])) (kp (show (g : Nat) = g ∧ Uni 3 [(.agg [(vI (Nd.kind (PR.nd (opnd (p) (d))))), (vS (Nd.name (PR.nd (opnd (p) (d))))), (.sl (av2 (Nd.kids (PR.nd (opnd (p) (d))))))])] ∧ (((av2 acc) : List AV).length + ([(.agg [(vI (Nd.kind (PR.nd (opnd (p) (d))))), (vS (Nd.name (PR.nd (opnd (p) (d))))), (.sl (av2 (Nd.kids (PR.nd (opnd (p) (d))))))])] : List AV).length) * 48 ≤ 140737488355328 from ⟨rfl, (by first | exact av2_uni _ | simp [Uni, AV.cells, AV.isTup]), by simp only [List.length_append, List.length_cons, List.length_nil, av2_len]; omega⟩) (kw (show (((av2 acc) ++ [(.agg [(vI (Nd.kind (PR.nd (opnd (p) (d))))), (vS (Nd.name (PR.nd (opnd (p) (d))))), (.sl (av2 (Nd.kids (PR.nd (opnd (p) (d))))))])]) : List AV) = _ from rfl) (tn 3 (kg (accept_t t ((opnd (p) (d)).pos) ((opnd (p) (d)).deep) (w) (by unfold maxLen; omega) hb2) trivial (tn 1 (kb ff z))))))))) (by kernel_rfl) ?_
      exact AG (m := t.length - ((opnd (p) (d)).pos + 1)) ⟨(opnd (p) (d)).pos + 1, (opnd (p) (d)).deep, n + 1, g + 1, acc ++ [PR.nd (opnd (p) (d))], by omega, by omega, by omega, by simp; omega, by rw [← hE, show t.length + 1 - n = t.length + 1 - (n + 1) + 1 by omega, listP, if_neg (by simp [*]), if_pos (by simp [*])], rfl, rfl, rfl⟩ (wtr (S' := (sx 41 [(0, (.ptr 1000 0)), (1, (jS (w))), (2, (jI (k))), (3, (jI (((l : Nat) : Int)))), (4, (.fn 109 [(.ptr 1000 0)] [])), (10, (.ptr 10 0)), (12, (.own (200, 78) (g + 1) 3 ((av2 acc) ++ [(.agg [(vI (Nd.kind (PR.nd (opnd (p) (d))))), (vS (Nd.name (PR.nd (opnd (p) (d))))), (.sl (av2 (Nd.kids (PR.nd (opnd (p) (d))))))])])))] [(10, (.cells 77 [(jI (0)), (jS (⟨#[]⟩)), .nil])), (1000, (.cells 107 [(jL (t.map strAV)), (jI ((((opnd (p) (d)).pos + 1 : Nat) : Int))), (jI ((opnd (p) (d)).deep))]))] [((200, 78), g + 1)])) (WK (by kernel_rfl)) (weak_sx (show WkX _ _ _ from ⟨rfl, rfl, rfl, rfl, rfl, rfl, ⟨rfl, (by first | rfl | omega | (simp; done) | (simp; omega)), rfl, (by first | exact av2_cat _ _ | exact av2_app _ _ | rfl)⟩, trivial⟩) (show WkBx _ _ from ⟨⟨rfl, ⟨rfl, rfl, rfl, trivial⟩⟩, ⟨rfl, ⟨rfl, (by first | rfl | (congr 3; omega) | simp), (by first | rfl | (congr 3; omega) | simp), trivial⟩⟩, trivial⟩) (show WkG _ _ _ from ⟨(by first | rfl | omega | (simp; done) | (simp; omega)), (by first | rfl | omega | (simp; done) | (simp; omega)), trivial⟩))) (by kernel_rfl) (by omega)
    · refine GO (kb hb1 (tn 2 (kp (show Uni 3 [(.agg [(vI (Nd.kind (PR.nd (opnd (p) (d))))), (vS (Nd.name (PR.nd (opnd (p) (d))))), (.sl (av2 (Nd.kids (PR.nd (opnd (p) (d))))))])] from (by simp [Uni, AV.cells, AV.isTup])) (kp (show (g : Nat) = g ∧ Uni 3 [(.agg [(vI (Nd.kind (PR.nd (opnd (p) (d))))), (vS (Nd.name (PR.nd (opnd (p) (d))))), (.sl (av2 (Nd.kids (PR.nd (opnd (p) (d))))))])] ∧ (((av2 acc) : List AV).length + ([(.agg [(vI (Nd.kind (PR.nd (opnd (p) (d))))), (vS (Nd.name (PR.nd (opnd (p) (d))))), (.sl (av2 (Nd.kids (PR.nd (opnd (p) (d))))))])] : List AV).length) * 48 ≤ 140737488355328 from ⟨rfl, (by first | exact av2_uni _ | simp [Uni, AV.cells, AV.isTup]), by simp only [List.length_append, List.length_cons, List.length_nil, av2_len]; omega⟩) (kw (show (((av2 acc) ++ [(.agg [(vI (Nd.kind (PR.nd (opnd (p) (d))))), (vS (Nd.name (PR.nd (opnd (p) (d))))), (.sl (av2 (Nd.kids (PR.nd (opnd (p) (d))))))])]) : List AV) = _ from rfl) (tn 3 (kg (accept_f t ((opnd (p) (d)).pos) ((opnd (p) (d)).deep) (w) (by unfold maxLen; omega) hb2) trivial (tn 1 (kb tt z))))))))) (by kernel_rfl) ?_
      refine OUT (tn 3 z) (by kernel_rfl) ?_
      rcases Bool.eq_false_or_eq_true (((((((av2 acc) ++ [(.agg [(vI (Nd.kind (PR.nd (opnd (p) (d))))), (vS (Nd.name (PR.nd (opnd (p) (d))))), (.sl (av2 (Nd.kids (PR.nd (opnd (p) (d))))))])] : List AV).length : Nat) : Int) : Int) == 1)) with hb3 | hb3
      · have hb3p := eq_of_beq hb3
        have hLn :  (acc ++ [PR.nd (opnd (p) (d))]).length = 1 := by have h1 := hb3p; simp only [List.length_append, List.length_cons, List.length_nil, av2_len] at h1 ⊢; omega
        refine GO (kb hb3 (tn 1 (ke (show 0 ≤ (0 : Int) ∧ (((av2 acc) ++ [(.agg [(vI (Nd.kind (PR.nd (opnd (p) (d))))), (vS (Nd.name (PR.nd (opnd (p) (d))))), (.sl (av2 (Nd.kids (PR.nd (opnd (p) (d))))))])]) : List AV)[0]? = some (.agg [(vI (Nd.kind (ndth (acc ++ [PR.nd (opnd (p) (d))]) (0)))), (vS (Nd.name (ndth (acc ++ [PR.nd (opnd (p) (d))]) (0)))), (.sl (av2 (Nd.kids (ndth (acc ++ [PR.nd (opnd (p) (d))]) (0)))))]) from (by rw [show (((av2 acc) ++ [(.agg [(vI (Nd.kind (PR.nd (opnd (p) (d))))), (vS (Nd.name (PR.nd (opnd (p) (d))))), (.sl (av2 (Nd.kids (PR.nd (opnd (p) (d))))))])]) : List AV) = av2 (acc ++ [PR.nd (opnd (p) (d))]) from (by first | exact av2_cat _ _ | exact av2_app _ _ | rfl)]; exact av2_at (i := 0) (by omega))) (tn 3 z)))) (by kernel_rfl) ?_
        exact LEAF .ret (S2 := (sx 41 [(10, (.ptr 10 0)), (11, (jB (true)))] [(10, (.cells 77 [(jI (Nd.kind (ndth (acc ++ [PR.nd (opnd (p) (d))]) (0)))), (jS (Nd.name (ndth (acc ++ [PR.nd (opnd (p) (d))]) (0)))), (jL (av2 (Nd.kids (ndth (acc ++ [PR.nd (opnd (p) (d))]) (0)))))])), (1000, (.cells 107 [(jL (t.map strAV)), (jI ((((opnd (p) (d)).pos : Nat) : Int))), (jI ((opnd (p) (d)).deep))]))] [((200, 78), g + 1)])) (by kernel_rfl) (WK (by kernel_rfl)) (ends (r := (.av (.tup [(.agg [(vI (Nd.kind (ndth (acc ++ [PR.nd (opnd (p) (d))]) (0)))), (vS (Nd.name (ndth (acc ++ [PR.nd (opnd (p) (d))]) (0)))), (.sl (av2 (Nd.kids (ndth (acc ++ [PR.nd (opnd (p) (d))]) (0)))))]), (vB (true))]))) (by simp) (by kernel_rfl) (by rw [← hE, show t.length + 1 - n = t.length + 1 - (n + 1) + 1 by omega, listP]; rw [if_neg (by simp [*]), if_neg (by simp [*])]; simp only [PR.av, mkP]; first | (rw [if_pos hLn]; rfl) | (rw [if_neg hLn, if_neg hLn]; rfl)) (by rw [← hE, show t.length + 1 - n = t.length + 1 - (n + 1) + 1 by omega, listP]; rw [if_neg (by rw [hb1n]; simp), if_neg (by simp [*])]; simp [sx, List.lookup_cons, *]) (by simp))
      · have hb3p := ne_of_beq_false hb3
        have hLn : ¬ (acc ++ [PR.nd (opnd (p) (d))]).length = 1 := by have h1 := hb3p; simp only [List.length_append, List.length_cons, List.length_nil, av2_len] at h1 ⊢; omega
        refine GO (kb hb3 (tn 5 z)) (by kernel_rfl) ?_
        exact LEAF .ret (S2 := (sx 41 [(10, (.ptr 10 0)), (11, (jB (true)))] [(10, (.cells 77 [(jI (k)), (jS (⟨#[]⟩)), (jL ((av2 acc) ++ [(.agg [(vI (Nd.kind (PR.nd (opnd (p) (d))))), (vS (Nd.name (PR.nd (opnd (p) (d))))), (.sl (av2 (Nd.kids (PR.nd (opnd (p) (d))))))])]))])), (1000, (.cells 107 [(jL (t.map strAV)), (jI ((((opnd (p) (d)).pos : Nat) : Int))), (jI ((opnd (p) (d)).deep))]))] [((200, 78), g + 1)])) (by kernel_rfl) (WK (by kernel_rfl)) (ends (r := (.av (.tup [(.agg [(vI (k)), (vS (⟨#[]⟩)), (.sl ((av2 acc) ++ [(.agg [(vI (Nd.kind (PR.nd (opnd (p) (d))))), (vS (Nd.name (PR.nd (opnd (p) (d))))), (.sl (av2 (Nd.kids (PR.nd (opnd (p) (d))))))])]))]), (vB (true))]))) (by simp) (by kernel_rfl) (by rw [← hE, show t.length + 1 - n = t.length + 1 - (n + 1) + 1 by omega, listP]; rw [if_neg (by simp [*]), if_neg (by simp [*])]; simp only [PR.av, mkP]; first | (rw [if_pos hLn]; rfl) | (rw [if_neg hLn, show (((av2 acc) ++ [(.agg [(vI (Nd.kind (PR.nd (opnd (p) (d))))), (vS (Nd.name (PR.nd (opnd (p) (d))))), (.sl (av2 (Nd.kids (PR.nd (opnd (p) (d))))))])]) : List AV) = av2 (acc ++ [PR.nd (opnd (p) (d))]) from (by first | exact av2_cat _ _ | exact av2_app _ _ | rfl)]; rfl)) (by rw [← hE, show t.length + 1 - n = t.length + 1 - (n + 1) + 1 by omega, listP]; rw [if_neg (by rw [hb1n]; simp), if_neg (by simp [*])]; simp [sx, List.lookup_cons, *]) (by simp))
end Go.Proofs.YtdaglbjgdakmcaaGreat
namespace Go.Proofs.YtdaglbjgdakmcaaGreat
open Go Go.Eng
set_option maxRecDepth 100000 in
set_option maxHeartbeats 2000000 in
theorem all_to (t : List ByteArray) (ht : t.length ≤ 4096) (one : Nat → Int → Nat → PR) (p0 : Nat) (d0 : Int) (l : Nat) (hp0 : p0 ≤ t.length) (hl : l ≤ p0) (hf : ∀ p d l, p ≤ t.length → FairP t p (one p d l)) (hone : ∀ p d m, p0 ≤ p → p ≤ t.length → m ≤ p → CallTo Tryz.prog 109 [(jP 1000 0), (jI ((m : Nat) : Int))] [(1000, (.cells 107 [(jL (t.map strAV)), (jI ((p : Nat) : Int)), (jI (d))]))] [] (PR.av (one p d m)) [(1000, (.cells 107 [(jL (t.map strAV)), (jI (((one p d m).pos : Nat) : Int)), (jI ((one p d m).deep))]))] []) : CallTo Tryz.prog 86 [(.ptr 1000 0), (jI (((l : Nat) : Int)))] [(1000, (.cells 107 [(jL (t.map strAV)), (jI (((p0 : Nat) : Int))), (jI (d0))]))] [] (PR.av (allP one t (p0) (d0) (l))) [(1000, (.cells 107 [(jL (t.map strAV)), (jI ((((allP one t (p0) (d0) (l)).pos : Nat) : Int))), (jI ((allP one t (p0) (d0) (l)).deep))]))] [] := by
  refine CallTo_of_body (n := 13) Tryz.func86 rfl (by kernel_rfl) Tryz.ntmps86 (by simp) (by simp) (by simp) (by simp [OkSV, SV.keys, ABox.svs, PV.keys, PR.av]) (by simp [OkSV, SV.keys, ABox.svs, PV.keys, PR.av]) (by simp [OkSV, SV.keys, ABox.svs, PV.keys, PR.av]) (by simp [OkSV, SV.keys, ABox.svs, PV.keys, PR.av]) rfl rfl ?_
  refine W_eq (sx 13 [(0, (.ptr 1000 0)), (1, (jI (((l : Nat) : Int))))] [(1000, (.cells 107 [(jL (t.map strAV)), (jI (((p0 : Nat) : Int))), (jI (d0))]))] []) (by kernel_rfl) ?_
  refine WN ?_
  refine GO (tn 6 (kg (plistO_to t ht (fun p d => one p d l) ⟨#[97, 110, 100]⟩ 2 p0 d0 l hp0 (fun p d h => hf p d l h) (fun p d h1 h2 => hone p d l h1 h2 (by omega))) trivial (tn 4 z))) (by kernel_rfl) ?_
  exact LEAF .ret (S2 := (sx 13 [(4, (.ptr 4 0)), (5, (jB (PR.ok (allP one t (p0) (d0) (l)))))] [(4, (.cells 77 [(jI (Nd.kind (PR.nd (allP one t (p0) (d0) (l))))), (jS (Nd.name (PR.nd (allP one t (p0) (d0) (l))))), (jL (av2 (Nd.kids (PR.nd (allP one t (p0) (d0) (l))))))])), (1000, (.cells 107 [(jL (t.map strAV)), (jI ((((allP one t (p0) (d0) (l)).pos : Nat) : Int))), (jI ((allP one t (p0) (d0) (l)).deep))]))] [])) (by kernel_rfl) (WK (by kernel_rfl)) (ends (r := (.av (.tup [(.agg [(vI (Nd.kind (PR.nd (allP one t (p0) (d0) (l))))), (vS (Nd.name (PR.nd (allP one t (p0) (d0) (l))))), (.sl (av2 (Nd.kids (PR.nd (allP one t (p0) (d0) (l))))))]), (vB (PR.ok (allP one t (p0) (d0) (l))))]))) (by simp) (by kernel_rfl) rfl (by simp [sx, List.lookup_cons]) (by simp))
set_option maxRecDepth 100000 in
set_option maxHeartbeats 2000000 in
theorem cnd_to (t : List ByteArray) (ht : t.length ≤ 4096) (one : Nat → Int → Nat → PR) (p0 : Nat) (d0 : Int) (l : Nat) (hp0 : p0 ≤ t.length) (hl : l ≤ p0) (hf : ∀ p d l, p ≤ t.length → FairP t p (one p d l)) (hone : ∀ p d m, p0 ≤ p → p ≤ t.length → m ≤ p → CallTo Tryz.prog 109 [(jP 1000 0), (jI ((m : Nat) : Int))] [(1000, (.cells 107 [(jL (t.map strAV)), (jI ((p : Nat) : Int)), (jI (d))]))] [] (PR.av (one p d m)) [(1000, (.cells 107 [(jL (t.map strAV)), (jI (((one p d m).pos : Nat) : Int)), (jI ((one p d m).deep))]))] []) : CallTo Tryz.prog 61 [(.ptr 1000 0), (jI (((l : Nat) : Int)))] [(1000, (.cells 107 [(jL (t.map strAV)), (jI (((p0 : Nat) : Int))), (jI (d0))]))] [] (PR.av (cndP one t (p0) (d0) (l))) [(1000, (.cells 107 [(jL (t.map strAV)), (jI ((((cndP one t (p0) (d0) (l)).pos : Nat) : Int))), (jI ((cndP one t (p0) (d0) (l)).deep))]))] [] := by
  refine CallTo_of_body (n := 13) Tryz.func61 rfl (by kernel_rfl) Tryz.ntmps61 (by simp) (by simp) (by simp) (by simp [OkSV, SV.keys, ABox.svs, PV.keys, PR.av]) (by simp [OkSV, SV.keys, ABox.svs, PV.keys, PR.av]) (by simp [OkSV, SV.keys, ABox.svs, PV.keys, PR.av]) (by simp [OkSV, SV.keys, ABox.svs, PV.keys, PR.av]) rfl rfl ?_
  refine W_eq (sx 13 [(0, (.ptr 1000 0)), (1, (jI (((l : Nat) : Int))))] [(1000, (.cells 107 [(jL (t.map strAV)), (jI (((p0 : Nat) : Int))), (jI (d0))]))] []) (by kernel_rfl) ?_
  refine WN ?_
  refine GO (tn 6 (kg (plistA_to t ht (fun p d => allP one t p d l) ⟨#[111, 114]⟩ 1 p0 d0 l hp0 (fun p d h => fairP_all hf p d l h) (fun p d h1 h2 => all_to t ht one p d l h2 (by omega) hf (fun q e m q1 q2 q3 => hone q e m (by omega) q2 q3))) trivial (tn 4 z))) (by kernel_rfl) ?_
  exact LEAF .ret (S2 := (sx 13 [(4, (.ptr 4 0)), (5, (jB (PR.ok (cndP one t (p0) (d0) (l)))))] [(4, (.cells 77 [(jI (Nd.kind (PR.nd (cndP one t (p0) (d0) (l))))), (jS (Nd.name (PR.nd (cndP one t (p0) (d0) (l))))), (jL (av2 (Nd.kids (PR.nd (cndP one t (p0) (d0) (l))))))])), (1000, (.cells 107 [(jL (t.map strAV)), (jI ((((cndP one t (p0) (d0) (l)).pos : Nat) : Int))), (jI ((cndP one t (p0) (d0) (l)).deep))]))] [])) (by kernel_rfl) (WK (by kernel_rfl)) (ends (r := (.av (.tup [(.agg [(vI (Nd.kind (PR.nd (cndP one t (p0) (d0) (l))))), (vS (Nd.name (PR.nd (cndP one t (p0) (d0) (l))))), (.sl (av2 (Nd.kids (PR.nd (cndP one t (p0) (d0) (l))))))]), (vB (PR.ok (cndP one t (p0) (d0) (l))))]))) (by simp) (by kernel_rfl) rfl (by simp [sx, List.lookup_cons]) (by simp))
set_option maxRecDepth 100000 in
set_option maxHeartbeats 2000000 in
theorem oneP_to (t : List ByteArray) (ht : t.length ≤ 4096) (rec cnd : Nat → Int → Nat → PR) (p : Nat) (d : Int) (l : Nat) (hl : l ≤ p) (hp : p ≤ t.length) (hrec : ∀ q e m, p < q → q ≤ t.length → m ≤ q → CallTo Tryz.prog 109 [(jP 1000 0), (jI ((m : Nat) : Int))] [(1000, (.cells 107 [(jL (t.map strAV)), (jI ((q : Nat) : Int)), (jI (e))]))] [] (PR.av (rec q e m)) [(1000, (.cells 107 [(jL (t.map strAV)), (jI (((rec q e m).pos : Nat) : Int)), (jI ((rec q e m).deep))]))] []) (hcnd : ∀ q e m, p < q → q ≤ t.length → m ≤ q → CallTo Tryz.prog 61 [(jP 1000 0), (jI ((m : Nat) : Int))] [(1000, (.cells 107 [(jL (t.map strAV)), (jI ((q : Nat) : Int)), (jI (e))]))] [] (PR.av (cnd q e m)) [(1000, (.cells 107 [(jL (t.map strAV)), (jI (((cnd q e m).pos : Nat) : Int)), (jI ((cnd q e m).deep))]))] []) : CallTo Tryz.prog 109 [(.ptr 1000 0), (jI (((l : Nat) : Int)))] [(1000, (.cells 107 [(jL (t.map strAV)), (jI (((p : Nat) : Int))), (jI (d))]))] [] (PR.av (oneP rec cnd t p d l)) [(1000, (.cells 107 [(jL (t.map strAV)), (jI ((((oneP rec cnd t p d l).pos : Nat) : Int))), (jI ((oneP rec cnd t p d l).deep))]))] [] := by
  have hml := mlen t
  refine CallTo_of_body (n := 102) Tryz.func109 rfl (by kernel_rfl) Tryz.ntmps109 (by simp) (by simp) (by simp) (by simp [OkSV, SV.keys, ABox.svs, PV.keys, PR.av]) (by simp [OkSV, SV.keys, ABox.svs, PV.keys, PR.av]) (by simp [OkSV, SV.keys, ABox.svs, PV.keys, PR.av]) (by simp [OkSV, SV.keys, ABox.svs, PV.keys, PR.av]) rfl rfl ?_
  refine W_eq (sx 102 [(0, (.ptr 1000 0)), (1, (jI (((l : Nat) : Int))))] [(1000, (.cells 107 [(jL (t.map strAV)), (jI (((p : Nat) : Int))), (jI (d))]))] []) (by kernel_rfl) ?_
  refine WN ?_
  rcases Bool.eq_false_or_eq_true (accB t (p) (⟨#[110, 111, 116]⟩)) with hb1 | hb1
  · have hb1l := (accP_t hb1).2
    refine GO (tn 13 (kg (accept_t t (p) (max (d) (((l : Nat) : Int))) (⟨#[110, 111, 116]⟩) (by unfold maxLen; omega) hb1) trivial (tn 1 (kb tt (tn 2 (kn (wrE ((((l : Nat) : Int)) + 1) (((l + 1 : Nat) : Int)) (by omega)) (kg (hrec (p + 1) (max (d) (((l : Nat) : Int))) (l + 1) (by omega) (by omega) (by omega)) trivial (tn 7 (kp (show Uni 3 [(.agg [(vI (Nd.kind (PR.nd (rec (p + 1) (max (d) (((l : Nat) : Int))) (l + 1))))), (vS (Nd.name (PR.nd (rec (p + 1) (max (d) (((l : Nat) : Int))) (l + 1))))), (.sl (av2 (Nd.kids (PR.nd (rec (p + 1) (max (d) (((l : Nat) : Int))) (l + 1))))))])] from (by simp [Uni, AV.cells, AV.isTup])) (tn 4 z)))))))))) (by kernel_rfl) ?_
    exact LEAF .ret (S2 := (sx 102 [(4, (.ptr 4 0)), (5, (jB (PR.ok (rec (p + 1) (max (d) (((l : Nat) : Int))) (l + 1)))))] [(4, (.cells 77 [(jI (3)), (jS (⟨#[]⟩)), (jL [(.agg [(vI (Nd.kind (PR.nd (rec (p + 1) (max (d) (((l : Nat) : Int))) (l + 1))))), (vS (Nd.name (PR.nd (rec (p + 1) (max (d) (((l : Nat) : Int))) (l + 1))))), (.sl (av2 (Nd.kids (PR.nd (rec (p + 1) (max (d) (((l : Nat) : Int))) (l + 1))))))])])])), (1000, (.cells 107 [(jL (t.map strAV)), (jI ((((rec (p + 1) (max (d) (((l : Nat) : Int))) (l + 1)).pos : Nat) : Int))), (jI ((rec (p + 1) (max (d) (((l : Nat) : Int))) (l + 1)).deep))]))] [])) (by kernel_rfl) (WK (by kernel_rfl)) (ends (r := (.av (.tup [(.agg [(vI (3)), (vS (⟨#[]⟩)), (.sl [(.agg [(vI (Nd.kind (PR.nd (rec (p + 1) (max (d) (((l : Nat) : Int))) (l + 1))))), (vS (Nd.name (PR.nd (rec (p + 1) (max (d) (((l : Nat) : Int))) (l + 1))))), (.sl (av2 (Nd.kids (PR.nd (rec (p + 1) (max (d) (((l : Nat) : Int))) (l + 1))))))])])]), (vB (PR.ok (rec (p + 1) (max (d) (((l : Nat) : Int))) (l + 1))))]))) (by simp) (by kernel_rfl) (by rw [oneP]; simp only [hb1, Bool.false_eq_true, if_false, if_true, reduceCtorEq]; first | rfl | (simp only [PR.av, nav, Nd.kind, Nd.name, Nd.kids, av2, av1_eq]; done) | (rw [if_pos (by omega)]; rfl) | (rw [if_neg (by omega)]; rfl)) (by rw [oneP]; simp only [hb1, Bool.false_eq_true, if_false, if_true, reduceCtorEq]; first | (simp [sx, List.lookup_cons, accP, *]; done) | (rw [if_pos (by omega)]; simp [sx, List.lookup_cons]; done) | (rw [if_neg (by omega)]; simp [sx, List.lookup_cons]; done)) (by simp))
  · rcases Bool.eq_false_or_eq_true (accB t (p) (⟨#[40]⟩)) with hb2 | hb2
    · have hb2l := (accP_t hb2).2
      refine GO (tn 13 (kg (accept_f t (p) (max (d) (((l : Nat) : Int))) (⟨#[110, 111, 116]⟩) (by unfold maxLen; omega) hb1) trivial (tn 1 (kb ff (tn 1 (kg (accept_t t (p) (max (d) (((l : Nat) : Int))) (⟨#[40]⟩) (by unfold maxLen; omega) hb2) trivial (tn 1 (kb tt (tn 2 (kn (wrE ((((l : Nat) : Int)) + 1) (((l + 1 : Nat) : Int)) (by omega)) (kg (hcnd (p + 1) (max (d) (((l : Nat) : Int))) (l + 1) (by omega) (by omega) (by omega)) trivial (tn 6 z)))))))))))) (by kernel_rfl) ?_
      rcases Bool.eq_false_or_eq_true (PR.ok (cnd (p + 1) (max (d) (((l : Nat) : Int))) (l + 1))) with hb3 | hb3
      · rcases Bool.eq_false_or_eq_true (accB t ((cnd (p + 1) (max (d) (((l : Nat) : Int))) (l + 1)).pos) (⟨#[41]⟩)) with hb4 | hb4
        · have hb4l := (accP_t hb4).2
          have d5 := (accept_t t ((cnd (p + 1) (max (d) (((l : Nat) : Int))) (l + 1)).pos) ((cnd (p + 1) (max (d) (((l : Nat) : Int))) (l + 1)).deep) (⟨#[41]⟩) (by unfold maxLen; omega) hb4)
          refine DR3 (tn 4 (ko (.b true) (kp (show PR.ok (cnd (p + 1) (max (d) (((l : Nat) : Int))) (l + 1)) = true from hb3) (tn 1 (ko (.b true) (kp (show PR.ok (cnd (p + 1) (max (d) (((l : Nat) : Int))) (l + 1)) = true from hb3) (ko (cO d5) (kp d5 (tn 1 (ko (.b true) (kp hb3 (kp hb3 (tn 2 z))))))))))))) (by kernel_rfl) (by kernel_rfl) (by kernel_rfl) ?_
          exact LEAF .ret (S2 := (sx 102 [(4, (.ptr 4 0)), (5, (jB (true)))] [(4, (.cells 77 [(jI (Nd.kind (PR.nd (cnd (p + 1) (max (d) (((l : Nat) : Int))) (l + 1))))), (jS (Nd.name (PR.nd (cnd (p + 1) (max (d) (((l : Nat) : Int))) (l + 1))))), (jL (av2 (Nd.kids (PR.nd (cnd (p + 1) (max (d) (((l : Nat) : Int))) (l + 1))))))])), (1000, (.cells 107 [(jL (t.map strAV)), (jI ((((cnd (p + 1) (max (d) (((l : Nat) : Int))) (l + 1)).pos + 1 : Nat) : Int))), (jI ((cnd (p + 1) (max (d) (((l : Nat) : Int))) (l + 1)).deep))]))] [])) (by kernel_rfl) (WK (by kernel_rfl)) (ends (r := (.av (.tup [(.agg [(vI (Nd.kind (PR.nd (cnd (p + 1) (max (d) (((l : Nat) : Int))) (l + 1))))), (vS (Nd.name (PR.nd (cnd (p + 1) (max (d) (((l : Nat) : Int))) (l + 1))))), (.sl (av2 (Nd.kids (PR.nd (cnd (p + 1) (max (d) (((l : Nat) : Int))) (l + 1))))))]), (vB (true))]))) (by simp) (by kernel_rfl) (by rw [oneP]; simp only [hb1, hb2, hb3, hb4, Bool.false_eq_true, if_false, if_true, reduceCtorEq]; first | rfl | (simp only [PR.av, nav, Nd.kind, Nd.name, Nd.kids, av2, av1_eq]; done) | (rw [if_pos (by omega)]; rfl) | (rw [if_neg (by omega)]; rfl)) (by rw [oneP]; simp only [hb1, hb2, hb3, hb4, Bool.false_eq_true, if_false, if_true, reduceCtorEq]; first | (simp [sx, List.lookup_cons, accP, *]; done) | (rw [if_pos (by omega)]; simp [sx, List.lookup_cons]; done) | (rw [if_neg (by omega)]; simp [sx, List.lookup_cons]; done)) (by simp))
        · have d6 := (accept_f t ((cnd (p + 1) (max (d) (((l : Nat) : Int))) (l + 1)).pos) ((cnd (p + 1) (max (d) (((l : Nat) : Int))) (l + 1)).deep) (⟨#[41]⟩) (by unfold maxLen; omega) hb4)
          refine DR3 (tn 4 (ko (.b true) (kp (show PR.ok (cnd (p + 1) (max (d) (((l : Nat) : Int))) (l + 1)) = true from hb3) (tn 1 (ko (.b true) (kp (show PR.ok (cnd (p + 1) (max (d) (((l : Nat) : Int))) (l + 1)) = true from hb3) (ko (cO d6) (kp d6 (tn 1 (ko (.b true) (kp hb3 (kp hb3 (tn 2 z))))))))))))) (by kernel_rfl) (by kernel_rfl) (by kernel_rfl) ?_
          exact LEAF .ret (S2 := (sx 102 [(4, (.ptr 4 0)), (5, (jB (false)))] [(4, (.cells 77 [(jI (Nd.kind (PR.nd (cnd (p + 1) (max (d) (((l : Nat) : Int))) (l + 1))))), (jS (Nd.name (PR.nd (cnd (p + 1) (max (d) (((l : Nat) : Int))) (l + 1))))), (jL (av2 (Nd.kids (PR.nd (cnd (p + 1) (max (d) (((l : Nat) : Int))) (l + 1))))))])), (1000, (.cells 107 [(jL (t.map strAV)), (jI ((((cnd (p + 1) (max (d) (((l : Nat) : Int))) (l + 1)).pos : Nat) : Int))), (jI ((cnd (p + 1) (max (d) (((l : Nat) : Int))) (l + 1)).deep))]))] [])) (by kernel_rfl) (WK (by kernel_rfl)) (ends (r := (.av (.tup [(.agg [(vI (Nd.kind (PR.nd (cnd (p + 1) (max (d) (((l : Nat) : Int))) (l + 1))))), (vS (Nd.name (PR.nd (cnd (p + 1) (max (d) (((l : Nat) : Int))) (l + 1))))), (.sl (av2 (Nd.kids (PR.nd (cnd (p + 1) (max (d) (((l : Nat) : Int))) (l + 1))))))]), (vB (false))]))) (by simp) (by kernel_rfl) (by rw [oneP]; simp only [hb1, hb2, hb3, hb4, Bool.false_eq_true, if_false, if_true, reduceCtorEq]; first | rfl | (simp only [PR.av, nav, Nd.kind, Nd.name, Nd.kids, av2, av1_eq]; done) | (rw [if_pos (by omega)]; rfl) | (rw [if_neg (by omega)]; rfl)) (by rw [oneP]; simp only [hb1, hb2, hb3, hb4, Bool.false_eq_true, if_false, if_true, reduceCtorEq]; first | (simp [sx, List.lookup_cons, accP, *]; done) | (rw [if_pos (by omega)]; simp [sx, List.lookup_cons]; done) | (rw [if_neg (by omega)]; simp [sx, List.lookup_cons]; done)) (by simp))
      · refine DR3 (tn 3 (ko (.b false) (kp (show PR.ok (cnd (p + 1) (max (d) (((l : Nat) : Int))) (l + 1)) = false from hb3) (ko (.b false) (kp (show PR.ok (cnd (p + 1) (max (d) (((l : Nat) : Int))) (l + 1)) = false from hb3) (ko (.b false) (kp hb3 (kp hb3 (tn 2 z))))))))) (by kernel_rfl) (by kernel_rfl) (by kernel_rfl) ?_
        exact LEAF .ret (S2 := (sx 102 [(4, (.ptr 4 0)), (5, (jB (false)))] [(4, (.cells 77 [(jI (Nd.kind (PR.nd (cnd (p + 1) (max (d) (((l : Nat) : Int))) (l + 1))))), (jS (Nd.name (PR.nd (cnd (p + 1) (max (d) (((l : Nat) : Int))) (l + 1))))), (jL (av2 (Nd.kids (PR.nd (cnd (p + 1) (max (d) (((l : Nat) : Int))) (l + 1))))))])), (1000, (.cells 107 [(jL (t.map strAV)), (jI ((((cnd (p + 1) (max (d) (((l : Nat) : Int))) (l + 1)).pos : Nat) : Int))), (jI ((cnd (p + 1) (max (d) (((l : Nat) : Int))) (l + 1)).deep))]))] [])) (by kernel_rfl) (WK (by kernel_rfl)) (ends (r := (.av (.tup [(.agg [(vI (Nd.kind (PR.nd (cnd (p + 1) (max (d) (((l : Nat) : Int))) (l + 1))))), (vS (Nd.name (PR.nd (cnd (p + 1) (max (d) (((l : Nat) : Int))) (l + 1))))), (.sl (av2 (Nd.kids (PR.nd (cnd (p + 1) (max (d) (((l : Nat) : Int))) (l + 1))))))]), (vB (false))]))) (by simp) (by kernel_rfl) (by rw [oneP]; simp only [hb1, hb2, hb3, Bool.false_eq_true, if_false, if_true, reduceCtorEq]; first | rfl | (simp only [PR.av, nav, Nd.kind, Nd.name, Nd.kids, av2, av1_eq]; done) | (rw [if_pos (by omega)]; rfl) | (rw [if_neg (by omega)]; rfl)) (by rw [oneP]; simp only [hb1, hb2, hb3, Bool.false_eq_true, if_false, if_true, reduceCtorEq]; first | (simp [sx, List.lookup_cons, accP, *]; done) | (rw [if_pos (by omega)]; simp [sx, List.lookup_cons]; done) | (rw [if_neg (by omega)]; simp [sx, List.lookup_cons]; done)) (by simp))
    · rcases Bool.eq_false_or_eq_true (accB t (p) (⟨#[116, 114, 117, 101]⟩)) with hb7 | hb7
      · have hb7l := (accP_t hb7).2
        refine GO (tn 13 (kg (accept_f t (p) (max (d) (((l : Nat) : Int))) (⟨#[110, 111, 116]⟩) (by unfold maxLen; omega) hb1) trivial (tn 1 (kb ff (tn 1 (kg (accept_f t (p) (max (d) (((l : Nat) : Int))) (⟨#[40]⟩) (by unfold maxLen; omega) hb2) trivial (tn 1 (kb ff (tn 1 (kg (accept_t t (p) (max (d) (((l : Nat) : Int))) (⟨#[116, 114, 117, 101]⟩) (by unfold maxLen; omega) hb7) trivial (tn 1 (kb tt (tn 3 z))))))))))))) (by kernel_rfl) ?_
        exact LEAF .ret (S2 := (sx 102 [(4, (.ptr 4 0)), (5, (jB (true)))] [(4, (.cells 77 [(jI (4)), (jS (⟨#[]⟩)), .nil])), (1000, (.cells 107 [(jL (t.map strAV)), (jI (((p + 1 : Nat) : Int))), (jI (max (d) (((l : Nat) : Int))))]))] [])) (by kernel_rfl) (WK (by kernel_rfl)) (ends (r := (.av (.tup [(.agg [(vI (4)), (vS (⟨#[]⟩)), (.sl [])]), (vB (true))]))) (by simp) (by kernel_rfl) (by rw [oneP]; simp only [hb1, hb2, hb7, Bool.false_eq_true, if_false, if_true, reduceCtorEq]; first | rfl | (simp only [PR.av, nav, Nd.kind, Nd.name, Nd.kids, av2, av1_eq]; done) | (rw [if_pos (by omega)]; rfl) | (rw [if_neg (by omega)]; rfl)) (by rw [oneP]; simp only [hb1, hb2, hb7, Bool.false_eq_true, if_false, if_true, reduceCtorEq]; first | (simp [sx, List.lookup_cons, accP, *]; done) | (rw [if_pos (by omega)]; simp [sx, List.lookup_cons]; done) | (rw [if_neg (by omega)]; simp [sx, List.lookup_cons]; done)) (by simp))
      · rcases Bool.eq_false_or_eq_true (accB t (p) (⟨#[102, 97, 108, 115, 101]⟩)) with hb8 | hb8
        · have hb8l := (accP_t hb8).2
          refine GO (tn 13 (kg (accept_f t (p) (max (d) (((l : Nat) : Int))) (⟨#[110, 111, 116]⟩) (by unfold maxLen; omega) hb1) trivial (tn 1 (kb ff (tn 1 (kg (accept_f t (p) (max (d) (((l : Nat) : Int))) (⟨#[40]⟩) (by unfold maxLen; omega) hb2) trivial (tn 1 (kb ff (tn 1 (kg (accept_f t (p) (max (d) (((l : Nat) : Int))) (⟨#[116, 114, 117, 101]⟩) (by unfold maxLen; omega) hb7) trivial (tn 1 (kb ff (tn 1 (kg (accept_t t (p) (max (d) (((l : Nat) : Int))) (⟨#[102, 97, 108, 115, 101]⟩) (by unfold maxLen; omega) hb8) trivial (tn 1 (kb tt (tn 3 z))))))))))))))))) (by kernel_rfl) ?_
          exact LEAF .ret (S2 := (sx 102 [(4, (.ptr 4 0)), (5, (jB (true)))] [(4, (.cells 77 [(jI (5)), (jS (⟨#[]⟩)), .nil])), (1000, (.cells 107 [(jL (t.map strAV)), (jI (((p + 1 : Nat) : Int))), (jI (max (d) (((l : Nat) : Int))))]))] [])) (by kernel_rfl) (WK (by kernel_rfl)) (ends (r := (.av (.tup [(.agg [(vI (5)), (vS (⟨#[]⟩)), (.sl [])]), (vB (true))]))) (by simp) (by kernel_rfl) (by rw [oneP]; simp only [hb1, hb2, hb7, hb8, Bool.false_eq_true, if_false, if_true, reduceCtorEq]; first | rfl | (simp only [PR.av, nav, Nd.kind, Nd.name, Nd.kids, av2, av1_eq]; done) | (rw [if_pos (by omega)]; rfl) | (rw [if_neg (by omega)]; rfl)) (by rw [oneP]; simp only [hb1, hb2, hb7, hb8, Bool.false_eq_true, if_false, if_true, reduceCtorEq]; first | (simp [sx, List.lookup_cons, accP, *]; done) | (rw [if_pos (by omega)]; simp [sx, List.lookup_cons]; done) | (rw [if_neg (by omega)]; simp [sx, List.lookup_cons]; done)) (by simp))
        · refine GO (tn 13 (kg (accept_f t (p) (max (d) (((l : Nat) : Int))) (⟨#[110, 111, 116]⟩) (by unfold maxLen; omega) hb1) trivial (tn 1 (kb ff (tn 1 (kg (accept_f t (p) (max (d) (((l : Nat) : Int))) (⟨#[40]⟩) (by unfold maxLen; omega) hb2) trivial (tn 1 (kb ff (tn 1 (kg (accept_f t (p) (max (d) (((l : Nat) : Int))) (⟨#[116, 114, 117, 101]⟩) (by unfold maxLen; omega) hb7) trivial (tn 1 (kb ff (tn 1 (kg (accept_f t (p) (max (d) (((l : Nat) : Int))) (⟨#[102, 97, 108, 115, 101]⟩) (by unfold maxLen; omega) hb8) trivial (tn 1 (kb ff z)))))))))))))))) (by kernel_rfl) ?_
          rcases Bool.eq_false_or_eq_true (decide ((((p : Nat) : Int) : Int) < (((t.map strAV).length : Nat) : Int))) with hb9 | hb9
          · have hb9p := of_decide_eq_true hb9
            have d10 := (show 0 ≤ (((p : Nat) : Int) : Int) ∧ ((t.map strAV) : List AV)[p]? = some (vS (nth t (p))) from (nth_at (by first | assumption | (rw [hml]; omega))))
            have d11 := (special_to (nth t (p)))
            refine DR3 (tn 11 (ko (.b true) (kp (show decide ((((p : Nat) : Int) : Int) < (((t.map strAV).length : Nat) : Int)) = true from hb9) (tn 1 (ko (.b true) (kp (show decide ((((p : Nat) : Int) : Int) < (((t.map strAV).length : Nat) : Int)) = true from hb9) (tn 1 (ko (.b true) (kp (show decide ((((p : Nat) : Int) : Int) < (((t.map strAV).length : Nat) : Int)) = true from hb9) (tn 1 (ko (.b true) (kp (show decide ((((p : Nat) : Int) : Int) < (((t.map strAV).length : Nat) : Int)) = true from hb9) (tn 1 (ko (.b true) (kp (show decide ((((p : Nat) : Int) : Int) < (((t.map strAV).length : Nat) : Int)) = true from hb9) (tn 1 (ko (.b true) (kp (show decide ((((p : Nat) : Int) : Int) < (((t.map strAV).length : Nat) : Int)) = true from hb9) (tn 1 (ko (.b true) (kp (show decide ((((p : Nat) : Int) : Int) < (((t.map strAV).length : Nat) : Int)) = true from hb9) (tn 1 (ko (.b true) (kp (show decide ((((p : Nat) : Int) : Int) < (((t.map strAV).length : Nat) : Int)) = true from hb9) (tn 1 (ko (.b true) (kp (show decide ((((p : Nat) : Int) : Int) < (((t.map strAV).length : Nat) : Int)) = true from hb9) (ko (eO d10) (kp d10 (ko (.b true) (kp (show decide ((((p : Nat) : Int) : Int) < (((t.map strAV).length : Nat) : Int)) = true from hb9) (tn 1 (ko (.b true) (kp (show decide ((((p : Nat) : Int) : Int) < (((t.map strAV).length : Nat) : Int)) = true from hb9) (ko (cO d11) (kp d11 (tn 1 (ko (.b true) (kp (show decide ((((p : Nat) : Int) : Int) < (((t.map strAV).length : Nat) : Int)) = true from hb9) (tn 1 (ko (.b true) (kp hb9 (tn 1 z))))))))))))))))))))))))))))))))))))))))))) (by kernel_rfl) (by kernel_rfl) (by kernel_rfl) ?_
            rcases Bool.eq_false_or_eq_true ((!specB (nth t (p)))) with hb12 | hb12
            · have hb12n : specB (nth t (p)) = false := by simpa using hb12
              refine GO (kb hb12 (tn 4 (kn (wrE ((((p : Nat) : Int)) + 1) (((p + 1 : Nat) : Int)) (by omega)) (tn 3 z)))) (by kernel_rfl) ?_
              have d13 := wrE ((((p + 1 : Nat) : Int)) - 1) ((((p + 1 : Nat) : Int)) - 1) (by omega)
              have d14 := (show 0 ≤ ((((p + 1 : Nat) : Int)) - 1 : Int) ∧ ((t.map strAV) : List AV)[Int.toNat ((((p + 1 : Nat) : Int)) - 1)]? = some (vS (nth t (p))) from (by have h := nth_at (t := t) (i := p) (by rw [hml]; omega); rw [show (((((p + 1 : Nat) : Int)) - 1 : Int)).toNat = p by omega]; exact ⟨by omega, h.2⟩))
              refine DR3 (tn 8 (ko (nO d13) (kp d13 (ko (eO d14) (kp d14 (tn 4 z)))))) (by kernel_rfl) (by kernel_rfl) (by kernel_rfl) ?_
              exact LEAF .ret (S2 := (sx 102 [(4, (.ptr 4 0)), (5, (jB (true)))] [(4, (.cells 77 [(jI (6)), (jS (nth t (p))), .nil])), (1000, (.cells 107 [(jL (t.map strAV)), (jI (((p + 1 : Nat) : Int))), (jI (max (d) (((l : Nat) : Int))))]))] [])) (by kernel_rfl) (WK (by kernel_rfl)) (ends (r := (.av (.tup [(.agg [(vI (6)), (vS (nth t (p))), (.sl [])]), (vB (true))]))) (by simp) (by kernel_rfl) (by rw [oneP]; simp only [hb1, hb2, hb7, hb8, hb12n, Bool.false_eq_true, if_false, if_true, reduceCtorEq]; first | rfl | (simp only [PR.av, nav, Nd.kind, Nd.name, Nd.kids, av2, av1_eq]; done) | (rw [if_pos (by omega)]; rfl) | (rw [if_neg (by omega)]; rfl)) (by rw [oneP]; simp only [hb1, hb2, hb7, hb8, hb12n, Bool.false_eq_true, if_false, if_true, reduceCtorEq]; first | (simp [sx, List.lookup_cons, accP, *]; done) | (rw [if_pos (by omega)]; simp [sx, List.lookup_cons]; done) | (rw [if_neg (by omega)]; simp [sx, List.lookup_cons]; done)) (by simp))
            · have hb12n : specB (nth t (p)) = true := by simpa using hb12
              refine GO (kb hb12 (tn 3 z)) (by kernel_rfl) ?_
              exact LEAF .ret (S2 := (sx 102 [(4, (.ptr 4 0)), (5, (jB (false)))] [(4, (.cells 77 [(jI (0)), (jS (⟨#[]⟩)), .nil])), (1000, (.cells 107 [(jL (t.map strAV)), (jI (((p : Nat) : Int))), (jI (max (d) (((l : Nat) : Int))))]))] [])) (by kernel_rfl) (WK (by kernel_rfl)) (ends (r := (.av (.tup [(.agg [(vI (0)), (vS (⟨#[]⟩)), (.sl [])]), (vB (false))]))) (by simp) (by kernel_rfl) (by rw [oneP]; simp only [hb1, hb2, hb7, hb8, hb12n, Bool.false_eq_true, if_false, if_true, reduceCtorEq]; first | rfl | (simp only [PR.av, nav, Nd.kind, Nd.name, Nd.kids, av2, av1_eq]; done) | (rw [if_pos (by omega)]; rfl) | (rw [if_neg (by omega)]; rfl)) (by rw [oneP]; simp only [hb1, hb2, hb7, hb8, hb12n, Bool.false_eq_true, if_false, if_true, reduceCtorEq]; first | (simp [sx, List.lookup_cons, accP, *]; done) | (rw [if_pos (by omega)]; simp [sx, List.lookup_cons]; done) | (rw [if_neg (by omega)]; simp [sx, List.lookup_cons]; done)) (by simp))
          · have hb9p := of_decide_eq_false hb9
            refine DR3 (tn 11 (ko (.b false) (kp (show decide ((((p : Nat) : Int) : Int) < (((t.map strAV).length : Nat) : Int)) = false from hb9) (ko (.b false) (kp (show decide ((((p : Nat) : Int) : Int) < (((t.map strAV).length : Nat) : Int)) = false from hb9) (ko (.b false) (kp (show decide ((((p : Nat) : Int) : Int) < (((t.map strAV).length : Nat) : Int)) = false from hb9) (ko (.b false) (kp (show decide ((((p : Nat) : Int) : Int) < (((t.map strAV).length : Nat) : Int)) = false from hb9) (ko (.b false) (kp (show decide ((((p : Nat) : Int) : Int) < (((t.map strAV).length : Nat) : Int)) = false from hb9) (ko (.b false) (kp (show decide ((((p : Nat) : Int) : Int) < (((t.map strAV).length : Nat) : Int)) = false from hb9) (ko (.b false) (kp (show decide ((((p : Nat) : Int) : Int) < (((t.map strAV).length : Nat) : Int)) = false from hb9) (ko (.b false) (kp (show decide ((((p : Nat) : Int) : Int) < (((t.map strAV).length : Nat) : Int)) = false from hb9) (ko (.b false) (kp (show decide ((((p : Nat) : Int) : Int) < (((t.map strAV).length : Nat) : Int)) = false from hb9) (ko (.b false) (kp (show decide ((((p : Nat) : Int) : Int) < (((t.map strAV).length : Nat) : Int)) = false from hb9) (ko (.b false) (kp (show decide ((((p : Nat) : Int) : Int) < (((t.map strAV).length : Nat) : Int)) = false from hb9) (ko (.b false) (kp (show decide ((((p : Nat) : Int) : Int) < (((t.map strAV).length : Nat) : Int)) = false from hb9) (ko (.b false) (kp hb9 (tn 1 (kb ff (tn 3 z)))))))))))))))))))))))))))))) (by kernel_rfl) (by kernel_rfl) (by kernel_rfl) ?_
            exact LEAF .ret (S2 := (sx 102 [(4, (.ptr 4 0)), (5, (jB (false)))] [(4, (.cells 77 [(jI (0)), (jS (⟨#[]⟩)), .nil])), (1000, (.cells 107 [(jL (t.map strAV)), (jI (((p : Nat) : Int))), (jI (max (d) (((l : Nat) : Int))))]))] [])) (by kernel_rfl) (WK (by kernel_rfl)) (ends (r := (.av (.tup [(.agg [(vI (0)), (vS (⟨#[]⟩)), (.sl [])]), (vB (false))]))) (by simp) (by kernel_rfl) (by rw [oneP]; simp only [hb1, hb2, hb7, hb8, Bool.false_eq_true, if_false, if_true, reduceCtorEq]; first | rfl | (simp only [PR.av, nav, Nd.kind, Nd.name, Nd.kids, av2, av1_eq]; done) | (rw [if_pos (by omega)]; rfl) | (rw [if_neg (by omega)]; rfl)) (by rw [oneP]; simp only [hb1, hb2, hb7, hb8, Bool.false_eq_true, if_false, if_true, reduceCtorEq]; first | (simp [sx, List.lookup_cons, accP, *]; done) | (rw [if_pos (by omega)]; simp [sx, List.lookup_cons]; done) | (rw [if_neg (by omega)]; simp [sx, List.lookup_cons]; done)) (by simp))
theorem pone_to (t : List ByteArray) (ht : t.length ≤ 4096) : ∀ (n p : Nat) (d : Int) (l : Nat), l ≤ p → p ≤ t.length → t.length ≤ p + n → CallTo Tryz.prog 109 [(jP 1000 0), (jI ((l : Nat) : Int))] [(1000, (.cells 107 [(jL (t.map strAV)), (jI ((p : Nat) : Int)), (jI (d))]))] [] (PR.av (pone t n p d l)) [(1000, (.cells 107 [(jL (t.map strAV)), (jI (((pone t n p d l).pos : Nat) : Int)), (jI ((pone t n p d l).deep))]))] []
  | 0, p, d, l, h1, h2, h3 => oneP_to t ht _ _ p d l h1 h2 (fun q e m q1 q2 => by omega) (fun q e m q1 q2 => by omega)
  | n + 1, p, d, l, h1, h2, h3 => oneP_to t ht _ _ p d l h1 h2 (fun q e m q1 q2 q3 => pone_to t ht n q e m q3 q2 (by omega)) (fun q e m q1 q2 q3 =>
      cnd_to t ht (pone t n) q e m q2 q3 (fairP_pone t n) (fun q' e' m' k1 k2 k3 => pone_to t ht n q' e' m' k3 k2 (by omega)))
theorem cond_to (t : List ByteArray) (ht : t.length ≤ 4096) (d : Int) (n : Nat) (hn : t.length ≤ n) : CallTo Tryz.prog 61 [(jP 1000 0), (jI ((0 : Nat) : Int))] [(1000, (.cells 107 [(jL (t.map strAV)), (jI ((0 : Nat) : Int)), (jI (d))]))] [] (PR.av (cndP (pone t n) t 0 d 0)) [(1000, (.cells 107 [(jL (t.map strAV)), (jI (((cndP (pone t n) t 0 d 0).pos : Nat) : Int)), (jI ((cndP (pone t n) t 0 d 0).deep))]))] [] :=
  cnd_to t ht (pone t n) 0 d 0 (Nat.zero_le _) (Nat.le_refl _) (fairP_pone t n) (fun q' e' m' k1 k2 k3 => pone_to t ht n q' e' m' k3 k2 (by omega))
end Go.Proofs.YtdaglbjgdakmcaaGreat
namespace Go.Proofs.YtdaglbjgdakmcaaGreat
open Go Go.Eng
def ptop (t : List ByteArray) : PR := cndP (pone t t.length) t 0 0 0
def parseT (t : List ByteArray) : Nd × Int :=
  if badI t 0 then (nd0, 6) else if (ptop t).ok = false then (nd0, 5) else if (ptop t).pos < t.length then (nd0, 5) else if (ptop t).deep > 16 then (nd0, 11) else ((ptop t).nd, 0)
def parseP (s : ByteArray) : Nd × Int := if s.size > 4096 then (nd0, 3) else parseT (toks s 0)
def anyI (v : Nd → Bool) (l : List Nd) (i : Nat) : Bool := (l.drop i).any v
theorem anyI_end (v : Nd → Bool) (l : List Nd) (i : Nat) (h : l.length ≤ i) : anyI v l i = false := by simp [anyI, List.drop_eq_nil_of_le h]
theorem anyI_step (v : Nd → Bool) (l : List Nd) (i : Nat) (h : i < l.length) : anyI v l i = (v (ndth l i) || anyI v l (i + 1)) := by
  simp only [anyI]
  rw [List.drop_eq_getElem_cons h, List.any_cons]
  simp only [ndth, List.getD_eq_getElem?_getD, List.getElem?_eq_getElem h, Option.getD_some]
def allI (v : Nd → Bool) (l : List Nd) (i : Nat) : Bool := (l.drop i).all v
theorem allI_end (v : Nd → Bool) (l : List Nd) (i : Nat) (h : l.length ≤ i) : allI v l i = true := by simp [allI, List.drop_eq_nil_of_le h]
theorem allI_step (v : Nd → Bool) (l : List Nd) (i : Nat) (h : i < l.length) : allI v l i = (v (ndth l i) && allI v l (i + 1)) := by
  simp only [allI]
  rw [List.drop_eq_getElem_cons h, List.all_cons]
  simp only [ndth, List.getD_eq_getElem?_getD, List.getElem?_eq_getElem h, Option.getD_some]
def valPB (v : Nd → Bool) (fl : List ByteArray) (x : Nd) : Bool :=
  if x.kind == 1 then anyI v x.kids 0 else if x.kind == 2 then allI v x.kids 0 else if x.kind == 3 then !v (ndth x.kids 0) else if x.kind == 6 then hasI fl x.name 0 else x.kind == 4
mutual
def valP (fl : List ByteArray) : Nd → Bool
  | .mk k nm kids => if k == 1 then valPO fl kids else if k == 2 then valPA fl kids else if k == 3 then !valPH fl kids else if k == 6 then hasI fl nm 0 else k == 4
def valPH (fl : List ByteArray) : List Nd → Bool
  | [] => false
  | x :: _ => valP fl x
def valPO (fl : List ByteArray) : List Nd → Bool
  | [] => false
  | x :: l => valP fl x || valPO fl l
def valPA (fl : List ByteArray) : List Nd → Bool
  | [] => true
  | x :: l => valP fl x && valPA fl l
end
theorem valPO_eq (fl : List ByteArray) : ∀ l, valPO fl l = l.any (valP fl)
  | [] => by simp only [valPO, List.any_nil]
  | x :: l => by simp only [valPO, List.any_cons, valPO_eq fl l]
theorem valPA_eq (fl : List ByteArray) : ∀ l, valPA fl l = l.all (valP fl)
  | [] => by simp only [valPA, List.all_nil]
  | x :: l => by simp only [valPA, List.all_cons, valPA_eq fl l]
theorem valP_nd0 (fl : List ByteArray) : valP fl nd0 = false := by simp [nd0, valP]
theorem valPH_eq (fl : List ByteArray) : ∀ l, valPH fl l = valP fl (ndth l 0)
  | [] => by simp only [valPH]; rw [show ndth ([] : List Nd) 0 = nd0 from rfl, valP_nd0]
  | x :: l => by simp [valPH, ndth]
theorem valP_eq (fl : List ByteArray) (x : Nd) : valP fl x = valPB (valP fl) fl x := by
  cases x with
  | mk k nm kids => simp only [valP, valPB, Nd.kind, Nd.name, Nd.kids, valPO_eq, valPA_eq, valPH_eq, anyI, allI, List.drop_zero]; rfl
theorem eqs_iff {a b : ByteArray} : eqs a b = true ↔ a = b := by
  unfold eqs
  constructor
  · intro h
    have h1 := eq_of_beq h
    have h2 : a.data.toList = b.data.toList := h1
    cases a; cases b; simp only at h2; congr; exact Array.toList_inj.1 h2
  · intro h; subst h; simp
theorem eqs_beq (a b : ByteArray) : (a == b) = eqs a b := by
  rw [Bool.eq_iff_iff, bytes_eq, eqs_iff]
theorem eqs_comm (a b : ByteArray) : eqs a b = eqs b a := by
  rw [Bool.eq_iff_iff, eqs_iff, eqs_iff]; exact ⟨Eq.symm, Eq.symm⟩
theorem kpos_has (s : ByteArray) : ∀ ks : List ByteArray, (kpos ks s).isSome = hasI ks s 0
  | [] => rfl
  | k :: ks => by
    have ih := kpos_has s ks
    simp only [kpos, hasI, List.drop_zero, List.any_cons] at ih ⊢
    rw [eqs_beq, eqs_comm s k]
    cases hk : eqs k s with
    | true => simp
    | false => simp [ih]
def trues (ks : List ByteArray) : List AV := ks.map (fun _ => vB true)
theorem mget_has (ks : List ByteArray) (s : ByteArray) : mgetT false (vB false) ks (trues ks) s = vB (hasI ks s 0) := by
  rw [← kpos_has]
  simp only [mgetT, mget, Bool.false_eq_true, if_false]
  cases h : kpos ks s with
  | none => rfl
  | some j =>
    have hj := kpos_get h
    have hlt : j < ks.length := by
      rcases Nat.lt_or_ge j ks.length with h | h
      · exact h
      · simp [List.getElem?_eq_none h] at hj
    simp [trues, hlt]
theorem mput_trues (ks : List ByteArray) (s : ByteArray) : mputV ks (trues ks) s (vB true) = trues (mputK ks s) := by
  unfold mputV mputK
  cases h : kpos ks s with
  | none => simp [trues]
  | some j =>
    simp only [trues]
    apply List.ext_getElem?
    intro i
    simp only [List.getElem?_set, List.getElem?_map, List.length_map]
    split
    · rename_i hij; subst hij
      split
      · rename_i hlt; simp [hlt]
      · rename_i hlt; simp [Nat.le_of_not_lt hlt]
    · rfl
theorem mputK_new {ks : List ByteArray} {s : ByteArray} (h : hasI ks s 0 = false) : mputK ks s = ks ++ [s] := by
  unfold mputK
  rw [← kpos_has] at h
  cases hk : kpos ks s with
  | none => rfl
  | some j => rw [hk] at h; simp at h
theorem map_new {ks : List ByteArray} {s : ByteArray} (h : hasI ks s 0 = false) : ABox.map (mputK ks s) (mputV ks (trues ks) s (vB true)) = ABox.map (ks ++ [s]) (trues (ks ++ [s])) := by
  rw [mput_trues, mputK_new h]
def setF (l ks : List ByteArray) : List ByteArray := l.foldl mputK ks
theorem setF_step (l ks : List ByteArray) (i : Nat) (h : i < l.length) : setF (l.drop i) ks = setF (l.drop (i + 1)) (mputK ks (nth l i)) := by
  rw [List.drop_eq_getElem_cons h]
  simp only [setF, List.foldl_cons, nth, List.getD_eq_getElem?_getD, List.getElem?_eq_getElem h, Option.getD_some]
theorem setF_end (l ks : List ByteArray) (i : Nat) (h : l.length ≤ i) : setF (l.drop i) ks = ks := by
  rw [List.drop_eq_nil_of_le h]; rfl
theorem has_mputK (ks : List ByteArray) (x s : ByteArray) : hasI (mputK ks x) s 0 = (hasI ks s 0 || eqs x s) := by
  cases h : hasI ks x 0 with
  | false => rw [mputK_new h]; simp [hasI]
  | true =>
    have hk : mputK ks x = ks := by
      unfold mputK
      rw [← kpos_has] at h
      cases hk : kpos ks x with
      | none => rw [hk] at h; simp at h
      | some j => rfl
    rw [hk]
    cases he : eqs x s with
    | false => simp
    | true => rw [eqs_iff] at he; subst he; simp [h]
theorem has_setF : ∀ (l ks : List ByteArray) (s : ByteArray), hasI (setF l ks) s 0 = (hasI ks s 0 || hasI l s 0)
  | [], ks, s => by simp [setF, hasI]
  | x :: l, ks, s => by
    have ih := has_setF l (mputK ks x) s
    simp only [setF, List.foldl_cons] at ih ⊢
    rw [ih, has_mputK]
    simp [hasI, Bool.or_assoc]
theorem mget_set (l : List ByteArray) (s : ByteArray) : mgetT false (vB false) (setF l []) (trues (setF l [])) s = vB (hasI l s 0) := by
  rw [mget_has, has_setF]; simp [hasI]
abbrev WS := ByteArray × Nat
def wput (s : ByteArray) (σ : WS) : WS := (σ.1 ++ s, σ.2 + 1)
def opB (w : Nd → WS → WS) (x : Nd) (inside : Bool) (σ : WS) : WS := if inside then wput ⟨#[41]⟩ (w x (wput ⟨#[40]⟩ σ)) else w x σ
def wrOr (w : Nd → WS → WS) : List Nd → Nat → WS → WS
  | [], _, σ => σ
  | x :: l, i, σ => wrOr w l (i + 1) (w x (if 0 < i then wput ⟨#[32, 111, 114, 32]⟩ σ else σ))
def wrAnd (w : Nd → WS → WS) : List Nd → Nat → WS → WS
  | [], _, σ => σ
  | x :: l, i, σ => wrAnd w l (i + 1) (opB w x (x.kind == 1) (if 0 < i then wput ⟨#[32, 97, 110, 100, 32]⟩ σ else σ))
def wrB (w : Nd → WS → WS) (x : Nd) (σ : WS) : WS :=
  if x.kind == 1 then wrOr w x.kids 0 σ else if x.kind == 2 then wrAnd w x.kids 0 σ
  else if x.kind == 3 then opB w (ndth x.kids 0) ((ndth x.kids 0).kind == 1 || (ndth x.kids 0).kind == 2) (wput ⟨#[110, 111, 116, 32]⟩ σ)
  else if x.kind == 4 then wput ⟨#[116, 114, 117, 101]⟩ σ else if x.kind == 5 then wput ⟨#[102, 97, 108, 115, 101]⟩ σ else wput x.name σ
theorem wrOr_step (w : Nd → WS → WS) (l : List Nd) (i : Nat) (σ : WS) (h : i < l.length) : wrOr w (l.drop i) i σ = wrOr w (l.drop (i + 1)) (i + 1) (w (ndth l i) (if 0 < i then wput ⟨#[32, 111, 114, 32]⟩ σ else σ)) := by
  rw [List.drop_eq_getElem_cons h, wrOr]
  simp only [ndth, List.getD_eq_getElem?_getD, List.getElem?_eq_getElem h, Option.getD_some]
theorem wrAnd_step (w : Nd → WS → WS) (l : List Nd) (i : Nat) (σ : WS) (h : i < l.length) : wrAnd w (l.drop i) i σ = wrAnd w (l.drop (i + 1)) (i + 1) (opB w (ndth l i) ((ndth l i).kind == 1) (if 0 < i then wput ⟨#[32, 97, 110, 100, 32]⟩ σ else σ)) := by
  rw [List.drop_eq_getElem_cons h, wrAnd]
  simp only [ndth, List.getD_eq_getElem?_getD, List.getElem?_eq_getElem h, Option.getD_some]
theorem wrOr_end (w : Nd → WS → WS) (l : List Nd) (i j : Nat) (σ : WS) (h : l.length ≤ i) : wrOr w (l.drop i) j σ = σ := by rw [List.drop_eq_nil_of_le h]; rfl
theorem wrAnd_end (w : Nd → WS → WS) (l : List Nd) (i j : Nat) (σ : WS) (h : l.length ≤ i) : wrAnd w (l.drop i) j σ = σ := by rw [List.drop_eq_nil_of_le h]; rfl
/-- Nothing that was written goes. -/
def Grows (w : Nd → WS → WS) : Prop := ∀ x σ, σ.1.size ≤ (w x σ).1.size
theorem wput_size (s : ByteArray) (σ : WS) : (wput s σ).1.size = σ.1.size + s.size := by simp [wput, ByteArray.size_append]
theorem opB_grows {w : Nd → WS → WS} (h : Grows w) (x : Nd) (b : Bool) (σ : WS) : σ.1.size ≤ (opB w x b σ).1.size := by
  unfold opB
  split
  · have h1 := h x (wput ⟨#[40]⟩ σ)
    rw [wput_size] at h1 ⊢; omega
  · exact h x σ
theorem ifput_size (s : ByteArray) (i : Nat) (σ : WS) : σ.1.size ≤ (if 0 < i then wput s σ else σ).1.size := by
  split
  · rw [wput_size]; omega
  · exact Nat.le_refl _
theorem wrOr_grows {w : Nd → WS → WS} (h : Grows w) : ∀ (l : List Nd) (i : Nat) (σ : WS), σ.1.size ≤ (wrOr w l i σ).1.size
  | [], i, σ => Nat.le_refl _
  | x :: l, i, σ => by
    simp only [wrOr]
    exact Nat.le_trans (Nat.le_trans (ifput_size _ i σ) (h x _)) (wrOr_grows h l (i + 1) _)
theorem wrAnd_grows {w : Nd → WS → WS} (h : Grows w) : ∀ (l : List Nd) (i : Nat) (σ : WS), σ.1.size ≤ (wrAnd w l i σ).1.size
  | [], i, σ => Nat.le_refl _
  | x :: l, i, σ => by
    simp only [wrAnd]
    exact Nat.le_trans (Nat.le_trans (ifput_size _ i σ) (opB_grows h x _ _)) (wrAnd_grows h l (i + 1) _)
mutual
def wr : Nd → WS → WS
  | .mk k nm kids, σ => if k == 1 then wrO kids 0 σ else if k == 2 then wrA kids 0 σ
    else if k == 3 then wrH kids (wput ⟨#[110, 111, 116, 32]⟩ σ)
    else if k == 4 then wput ⟨#[116, 114, 117, 101]⟩ σ else if k == 5 then wput ⟨#[102, 97, 108, 115, 101]⟩ σ else wput nm σ
def wrH : List Nd → WS → WS
  | [], σ => wput ⟨#[]⟩ σ
  | x :: _, σ => if x.kind == 1 || x.kind == 2 then wput ⟨#[41]⟩ (wr x (wput ⟨#[40]⟩ σ)) else wr x σ
def wrO : List Nd → Nat → WS → WS
  | [], _, σ => σ
  | x :: l, i, σ => wrO l (i + 1) (wr x (if 0 < i then wput ⟨#[32, 111, 114, 32]⟩ σ else σ))
def wrA : List Nd → Nat → WS → WS
  | [], _, σ => σ
  | x :: l, i, σ => wrA l (i + 1) (if x.kind == 1 then wput ⟨#[41]⟩ (wr x (wput ⟨#[40]⟩ (if 0 < i then wput ⟨#[32, 97, 110, 100, 32]⟩ σ else σ))) else wr x (if 0 < i then wput ⟨#[32, 97, 110, 100, 32]⟩ σ else σ))
end
theorem wrO_eq : ∀ (l : List Nd) (i : Nat) (σ : WS), wrO l i σ = wrOr wr l i σ
  | [], i, σ => by simp only [wrO, wrOr]
  | x :: l, i, σ => by simp only [wrO, wrOr, wrO_eq l]
theorem wrA_eq : ∀ (l : List Nd) (i : Nat) (σ : WS), wrA l i σ = wrAnd wr l i σ
  | [], i, σ => by simp only [wrA, wrAnd]
  | x :: l, i, σ => by simp only [wrA, wrAnd, wrA_eq l, opB]
theorem wrH_eq : ∀ (l : List Nd) (σ : WS), wrH l σ = opB wr (ndth l 0) ((ndth l 0).kind == 1 || (ndth l 0).kind == 2) σ
  | [], σ => by simp [wrH, ndth, nd0, opB, Nd.kind, wr]
  | x :: l, σ => by simp [wrH, ndth, opB]
theorem wr_eq (x : Nd) (σ : WS) : wr x σ = wrB wr x σ := by
  cases x with
  | mk k nm kids => simp only [wr, wrB, Nd.kind, Nd.name, Nd.kids, wrO_eq, wrA_eq, wrH_eq]; rfl
mutual
theorem wr_grows : ∀ (x : Nd) (σ : WS), σ.1.size ≤ (wr x σ).1.size
  | .mk k nm kids, σ => by
    simp only [wr]
    split
    · exact wrO_grows kids 0 σ
    split
    · exact wrA_grows kids 0 σ
    split
    · refine Nat.le_trans ?_ (wrH_grows kids _); rw [wput_size]; omega
    split
    · rw [wput_size]; omega
    split
    · rw [wput_size]; omega
    · rw [wput_size]; omega
theorem wrH_grows : ∀ (l : List Nd) (σ : WS), σ.1.size ≤ (wrH l σ).1.size
  | [], σ => by simp only [wrH, wput_size]; omega
  | x :: l, σ => by
    simp only [wrH]
    split
    · have h1 := wr_grows x (wput ⟨#[40]⟩ σ)
      rw [wput_size] at h1 ⊢; omega
    · exact wr_grows x σ
theorem wrO_grows : ∀ (l : List Nd) (i : Nat) (σ : WS), σ.1.size ≤ (wrO l i σ).1.size
  | [], i, σ => by simp only [wrO]; exact Nat.le_refl _
  | x :: l, i, σ => by
    simp only [wrO]
    exact Nat.le_trans (Nat.le_trans (ifput_size _ i σ) (wr_grows x _)) (wrO_grows l (i + 1) _)
theorem wrA_grows : ∀ (l : List Nd) (i : Nat) (σ : WS), σ.1.size ≤ (wrA l i σ).1.size
  | [], i, σ => by simp only [wrA]; exact Nat.le_refl _
  | x :: l, i, σ => by
    simp only [wrA]
    refine Nat.le_trans ?_ (wrA_grows l (i + 1) _)
    refine Nat.le_trans (ifput_size ⟨#[32, 97, 110, 100, 32]⟩ i σ) ?_
    generalize (if 0 < i then wput ⟨#[32, 97, 110, 100, 32]⟩ σ else σ) = τ
    split
    · have h1 := wr_grows x (wput ⟨#[40]⟩ τ)
      rw [wput_size] at h1 ⊢; omega
    · exact wr_grows x τ
end
end Go.Proofs.YtdaglbjgdakmcaaGreat
namespace Go.Proofs.YtdaglbjgdakmcaaGreat
open Go Go.Eng
mutual
def okP : Nd → Prop
  | .mk k _ kids => (k = 3 → 1 ≤ kids.length) ∧ kids.length ≤ 1000000 ∧ okPs kids
def okPs : List Nd → Prop
  | [] => True
  | x :: l => okP x ∧ okPs l
end
theorem okPs_iff : ∀ l, okPs l ↔ ∀ x ∈ l, okP x
  | [] => by simp [okPs]
  | x :: l => by simp [okPs, okPs_iff l]
theorem okP_nd0 : okP nd0 := by simp [nd0, okP, okPs]
theorem okP_ndth {l : List Nd} (h : ∀ x ∈ l, okP x) (i : Nat) : okP (ndth l i) := by
  unfold ndth
  rw [List.getD_eq_getElem?_getD]
  rcases Nat.lt_or_ge i l.length with hi | hi
  · rw [List.getElem?_eq_getElem hi]; exact h _ (List.getElem_mem hi)
  · rw [List.getElem?_eq_none hi]; exact okP_nd0
theorem okP_mk {k : Int} {l : List Nd} (hk : k ≠ 3) (hl : l.length ≤ 1000000) (h : ∀ x ∈ l, okP x) : okP (mkP k l) := by
  unfold mkP
  split
  · exact okP_ndth h 0
  · simp only [okP]; exact ⟨fun e => absurd e hk, hl, (okPs_iff l).2 h⟩
theorem okP_one {rec cnd : Nat → Int → Nat → PR} {t : List ByteArray} (hr : ∀ p d l, p ≤ t.length → okP (rec p d l).nd) (hc : ∀ p d l, p ≤ t.length → okP (cnd p d l).nd) (p : Nat) (d : Int) (l : Nat) : okP (oneP rec cnd t p d l).nd := by
  unfold oneP
  split
  · rename_i h; have := (accP_t h).2
    simp only [okP, okPs]; exact ⟨fun _ => by simp, by simp, hr _ _ _ (by omega), trivial⟩
  split
  · rename_i h; have := (accP_t h).2
    split
    · exact hc _ _ _ (by omega)
    · exact hc _ _ _ (by omega)
  split
  · simp [okP, okPs]
  split
  · simp [okP, okPs]
  split
  · exact okP_nd0
  split
  · exact okP_nd0
  · simp [okP, okPs]
theorem okP_list {opnd : Nat → Int → PR} {word : ByteArray} {k : Int} (hk : k ≠ 3) {t : List ByteArray} (ht : t.length ≤ 4096) (hf : ∀ p d, p ≤ t.length → FairP t p (opnd p d)) (ho : ∀ p d, p ≤ t.length → okP (opnd p d).nd) :
    ∀ (m p : Nat) (d : Int) (acc : List Nd), p ≤ t.length → acc.length ≤ p → (∀ x ∈ acc, okP x) → okP (listP opnd word k t m p d acc).nd
  | 0, p, d, acc, _, _, _ => by simp only [listP]; exact okP_nd0
  | m + 1, p, d, acc, hp, hl, ha => by
    simp only [listP]
    split
    · exact okP_nd0
    · rename_i h1
      obtain ⟨f1, f2, f3⟩ := hf p d hp
      have f4 := f3 (by simpa using h1)
      have ha' : ∀ x ∈ acc ++ [(opnd p d).nd], okP x := by
        intro x hx
        rcases List.mem_append.1 hx with hx | hx
        · exact ha x hx
        · simp at hx; subst hx; exact ho p d hp
      split
      · rename_i h2
        have := (accP_t h2).2
        exact okP_list hk ht hf ho m _ _ _ (by omega) (by simp; omega) ha'
      · exact okP_mk hk (by simp; omega) ha'
theorem okP_all {one : Nat → Int → Nat → PR} {t : List ByteArray} (ht : t.length ≤ 4096) (hf : ∀ p d l, p ≤ t.length → FairP t p (one p d l)) (h : ∀ p d l, p ≤ t.length → okP (one p d l).nd) (p : Nat) (d : Int) (l : Nat) (hp : p ≤ t.length) : okP (allP one t p d l).nd :=
  okP_list (by decide) ht (fun p d hp => hf p d l hp) (fun p d hp => h p d l hp) _ p d [] hp (by simp) (by simp)
theorem okP_cnd {one : Nat → Int → Nat → PR} {t : List ByteArray} (ht : t.length ≤ 4096) (hf : ∀ p d l, p ≤ t.length → FairP t p (one p d l)) (h : ∀ p d l, p ≤ t.length → okP (one p d l).nd) (p : Nat) (d : Int) (l : Nat) (hp : p ≤ t.length) : okP (cndP one t p d l).nd :=
  okP_list (by decide) ht (fun p d hp => fairP_all hf p d l hp) (fun p d hp => okP_all ht hf h p d l hp) _ p d [] hp (by simp) (by simp)
theorem okP_pone {t : List ByteArray} (ht : t.length ≤ 4096) : ∀ (n p : Nat) (d : Int) (l : Nat), p ≤ t.length → okP (pone t n p d l).nd
  | 0, p, d, l, _ => okP_one (fun _ _ _ _ => okP_nd0) (fun _ _ _ _ => okP_nd0) p d l
  | n + 1, p, d, l, _ => okP_one (okP_pone ht n) (okP_cnd ht (fairP_pone t n) (okP_pone ht n)) p d l
theorem ok_parseP (s : ByteArray) : okP (parseP s).1 := by
  unfold parseP
  split
  · exact okP_nd0
  · rename_i h
    have hl := toks_len s _ 0 rfl
    unfold parseT
    split
    · exact okP_nd0
    split
    · exact okP_nd0
    split
    · exact okP_nd0
    split
    · exact okP_nd0
    · exact okP_cnd (by omega) (fairP_pone _ _) (okP_pone (by omega) _) 0 0 0 (Nat.zero_le _)
def evalP (s : ByteArray) (fl : List ByteArray) : Bool × Int := if (parseP s).2 = 0 then (valP fl (parseP s).1, 0) else (false, (parseP s).2)
def namesP (s : ByteArray) : List ByteArray × Int := if (parseP s).2 = 0 then (namesL (toks s 0) [], 0) else ([], (parseP s).2)
end Go.Proofs.YtdaglbjgdakmcaaGreat
namespace Go.Proofs.YtdaglbjgdakmcaaGreat
open Go Go.Eng
end Go.Proofs.YtdaglbjgdakmcaaGreat
namespace Go.Proofs.YtdaglbjgdakmcaaGreat
open Go Go.Eng
end Go.Proofs.YtdaglbjgdakmcaaGreat
namespace Go.Proofs.YtdaglbjgdakmcaaGreat
open Go Go.Eng
set_option maxRecDepth 100000 in
set_option maxHeartbeats 2000000 in
theorem parse_to (s : ByteArray) (hs : s.size ≤ maxLen) : CallTo Tryz.prog 38 [(jS (s))] [] [] (NE (parseP s)) [] [] := by
  obtain ⟨T, hT⟩ : ∃ T, toks s 0 = T := ⟨_, rfl⟩
  have hml := mlen T
  have hTl : T.length ≤ s.size := by rw [← hT]; exact toks_len s _ 0 rfl
  have hsz : ∀ x ∈ T, x.size ≤ s.size := by rw [← hT]; exact toks_size s _ 0 rfl
  refine CallTo_of_body (n := 53) Tryz.func38 rfl (by kernel_rfl) Tryz.ntmps38 (by simp) (by simp) (by simp) (by simp [OkSV, SV.keys, ABox.svs, PV.keys, NE]) (by simp [OkSV, SV.keys, ABox.svs, PV.keys, NE]) (by simp [OkSV, SV.keys, ABox.svs, PV.keys, NE]) (by simp [OkSV, SV.keys, ABox.svs, PV.keys, NE]) rfl rfl ?_
  refine W_eq (sx 53 [(0, (jS (s)))] [] []) (by kernel_rfl) ?_
  refine WN ?_
  refine GO (tn 5 z) (by kernel_rfl) ?_
  rcases Bool.eq_false_or_eq_true (decide ((((ByteArray.size (s) : Nat) : Int) : Int) > 4096)) with hb1 | hb1
  · have hb1p := of_decide_eq_true hb1
    refine GO (kb hb1 (tn 3 z)) (by kernel_rfl) ?_
    exact LEAF .ret (S2 := (sx 53 [(2, (.ptr 2 0)), (3, (jI (3)))] [(2, (.cells 77 [(jI (0)), (jS (⟨#[]⟩)), .nil]))] [])) (by kernel_rfl) (WK (by kernel_rfl)) (ends (r := (.av (.tup [(.agg [(vI (0)), (vS (⟨#[]⟩)), (.sl [])]), (vI (3))]))) (by simp) (by kernel_rfl) (by rw [parseP, if_pos (by omega)]; rfl) (by simp) (by simp))
  · have hb1p := of_decide_eq_false hb1
    refine GO (kb hb1 (tn 1 (kg (show CallTo Tryz.prog 40 [(jS (s))] [] [] (jL (T.map strAV)) [] [] from (by rw [← hT]; exact tokens_to s (by omega))) trivial (tn 7 z)))) (by kernel_rfl) ?_
    refine LP (I := fun N M S => ∃ i : Nat, (i ≤ T.length) ∧ (badI T i = badI T 0) ∧ N = T.length - i ∧ M = () ∧ S = (sx 53 [(2, (.ptr 2 0)), (4, (.ptr 4 0)), (17, (jL (T.map strAV))), (18, (jI ((((T.map strAV).length : Nat) : Int)))), (19, (jI (((i : Nat) : Int))))] [(4, (.cells 107 [(jL (T.map strAV)), (jI (0)), (jI (0))])), (2, (.cells 77 [(jI (0)), (jS (⟨#[]⟩)), .nil]))] [])) (n := T.length - (0)) (by kernel_rfl) ⟨0, Nat.zero_le _, rfl, rfl, rfl, rfl⟩ (wtr (S' := (sx 53 [(2, (.ptr 2 0)), (4, (.ptr 4 0)), (17, (jL (T.map strAV))), (18, (jI ((((T.map strAV).length : Nat) : Int)))), (19, (jI (0)))] [(4, (.cells 107 [(jL (T.map strAV)), (jI (0)), (jI (0))])), (2, (.cells 77 [(jI (0)), (jS (⟨#[]⟩)), .nil]))] [])) (WK (by kernel_rfl)) (weak_sx (show WkX _ _ _ from ⟨rfl, rfl, rfl, rfl, (by first | rfl | (congr 3; omega) | simp), trivial⟩) (show WkBx _ _ from ⟨⟨rfl, ⟨rfl, rfl, rfl, trivial⟩⟩, ⟨rfl, ⟨rfl, rfl, rfl, trivial⟩⟩, trivial⟩) (show WkG _ _ _ from trivial))) ?_
    rintro N M S ⟨i, hi, hE, rfl, rfl, rfl⟩
    refine GO (tn 1 z) (by kernel_rfl) ?_
    rcases Bool.eq_false_or_eq_true (decide ((((i : Nat) : Int) : Int) < (((T.map strAV).length : Nat) : Int))) with hb2 | hb2
    · have hb2p := of_decide_eq_true hb2
      rcases Bool.eq_false_or_eq_true ((!specB (nth T (i)))) with hb3 | hb3
      · have hb3n : specB (nth T (i)) = false := by simpa using hb3
        refine GO (kb hb2 (ke (show 0 ≤ (((i : Nat) : Int) : Int) ∧ ((T.map strAV) : List AV)[i]? = some (vS (nth T (i))) from (nth_at (by first | assumption | omega))) (tn 3 (kg (special_to (nth T (i))) trivial (tn 2 (kb hb3 (tn 1 (kb hb3 (kg (show CallTo Tryz.prog 60 [(jS (nth T (i)))] [] [] (jB (nameB (nth T (i)))) [] [] from (Name_to (nth T (i)) (by unfold maxLen; have := hsz _ (nth_mem (t := T) (i := i) (by omega)); omega))) trivial (kb hb3 (tn 1 (kb hb3 z)))))))))))) (by kernel_rfl) ?_
        rcases Bool.eq_false_or_eq_true ((!nameB (nth T (i)))) with hb4 | hb4
        · have hb4n : nameB (nth T (i)) = false := by simpa using hb4
          refine GO (kb hb4 (tn 3 z)) (by kernel_rfl) ?_
          refine OUT z (by kernel_rfl) ?_
          exact LEAF .ret (S2 := (sx 53 [(2, (.ptr 2 0)), (3, (jI (6)))] [(2, (.cells 77 [(jI (0)), (jS (⟨#[]⟩)), .nil]))] [])) (by kernel_rfl) (WK (by kernel_rfl)) (ends (r := (.av (.tup [(.agg [(vI (0)), (vS (⟨#[]⟩)), (.sl [])]), (vI (6))]))) (by simp) (by kernel_rfl) (by rw [parseP, if_neg (by omega), hT, parseT]; rw [if_pos (by rw [← hE, badI_step T i (by omega)]; first | (simp [badF, *]; done) | simp [badF, specB, *])]; rfl) (by simp) (by simp))
        · have hb4n : nameB (nth T (i)) = true := by simpa using hb4
          refine GO (kb hb4 (kn (wrE ((((i : Nat) : Int)) + 1) (((i + 1 : Nat) : Int)) (by omega)) (tn 1 z))) (by kernel_rfl) ?_
          exact AG (m := T.length - (i + 1)) ⟨i + 1, by omega, by rw [← hE, badI_step T i (by omega)]; simp [badF, *], rfl, rfl, rfl⟩ (wtr (S' := (sx 53 [(2, (.ptr 2 0)), (4, (.ptr 4 0)), (17, (jL (T.map strAV))), (18, (jI ((((T.map strAV).length : Nat) : Int)))), (19, (jI (((i + 1 : Nat) : Int))))] [(4, (.cells 107 [(jL (T.map strAV)), (jI (0)), (jI (0))])), (2, (.cells 77 [(jI (0)), (jS (⟨#[]⟩)), .nil]))] [])) (WK (by kernel_rfl)) (weak_sx (show WkX _ _ _ from ⟨rfl, rfl, rfl, rfl, (by first | rfl | (congr 3; omega) | simp), trivial⟩) (show WkBx _ _ from ⟨⟨rfl, ⟨rfl, rfl, rfl, trivial⟩⟩, ⟨rfl, ⟨rfl, rfl, rfl, trivial⟩⟩, trivial⟩) (show WkG _ _ _ from trivial))) (by kernel_rfl) (by omega)
      · have hb3n : specB (nth T (i)) = true := by simpa using hb3
        refine GO (kb hb2 (ke (show 0 ≤ (((i : Nat) : Int) : Int) ∧ ((T.map strAV) : List AV)[i]? = some (vS (nth T (i))) from (nth_at (by first | assumption | omega))) (tn 3 (kg (special_to (nth T (i))) trivial (tn 2 (kb hb3 (kb hb3 (kb hb3 (kb hb3 (kb ff (kn (wrE ((((i : Nat) : Int)) + 1) (((i + 1 : Nat) : Int)) (by omega)) (tn 1 z)))))))))))) (by kernel_rfl) ?_
        exact AG (m := T.length - (i + 1)) ⟨i + 1, by omega, by rw [← hE, badI_step T i (by omega)]; simp [badF, *], rfl, rfl, rfl⟩ (wtr (S' := (sx 53 [(2, (.ptr 2 0)), (4, (.ptr 4 0)), (17, (jL (T.map strAV))), (18, (jI ((((T.map strAV).length : Nat) : Int)))), (19, (jI (((i + 1 : Nat) : Int))))] [(4, (.cells 107 [(jL (T.map strAV)), (jI (0)), (jI (0))])), (2, (.cells 77 [(jI (0)), (jS (⟨#[]⟩)), .nil]))] [])) (WK (by kernel_rfl)) (weak_sx (show WkX _ _ _ from ⟨rfl, rfl, rfl, rfl, (by first | rfl | (congr 3; omega) | simp), trivial⟩) (show WkBx _ _ from ⟨⟨rfl, ⟨rfl, rfl, rfl, trivial⟩⟩, ⟨rfl, ⟨rfl, rfl, rfl, trivial⟩⟩, trivial⟩) (show WkG _ _ _ from trivial))) (by kernel_rfl) (by omega)
    · have hb2p := of_decide_eq_false hb2
      refine GO (kb hb2 z) (by kernel_rfl) ?_
      rcases Bool.eq_false_or_eq_true ((!PR.ok (ptop T))) with hb5 | hb5
      · have hb5n : PR.ok (ptop T) = false := by simpa using hb5
        refine OUT (kg (show CallTo Tryz.prog 61 [(.ptr 4 0), (jI (0))] [(4, (.cells 107 [(jL (T.map strAV)), (jI (0)), (jI (0))]))] [] (.av (.tup [(.agg [(vI (Nd.kind (PR.nd (ptop T)))), (vS (Nd.name (PR.nd (ptop T)))), (.sl (av2 (Nd.kids (PR.nd (ptop T)))))]), (vB (PR.ok (ptop T)))])) [(4, (.cells 107 [(jL (T.map strAV)), (jI ((((ptop T).pos : Nat) : Int))), (jI ((ptop T).deep))]))] [] from (by have h := CallTo_ren (swap_inv (4, 0) (1000, 0) rfl) (cond_to T (by omega) 0 T.length (Nat.le_refl _)); exact h)) trivial (tn 9 (kb hb5 (kb hb5 (kb hb5 (kb hb5 (kb hb5 (kb hb5 (kb hb5 (kb tt (tn 3 z))))))))))) (by kernel_rfl) ?_
        exact LEAF .ret (S2 := (sx 53 [(2, (.ptr 2 0)), (3, (jI (5)))] [(2, (.cells 77 [(jI (0)), (jS (⟨#[]⟩)), .nil]))] [])) (by kernel_rfl) (WK (by kernel_rfl)) (ends (r := (.av (.tup [(.agg [(vI (0)), (vS (⟨#[]⟩)), (.sl [])]), (vI (5))]))) (by simp) (by kernel_rfl) (by rw [parseP, if_neg (by omega), hT, parseT]; rw [if_neg (by rw [← hE, badI_end T i (by omega)]; simp)]; rw [if_pos hb5n]; rfl) (by simp) (by simp))
      · have hb5n : PR.ok (ptop T) = true := by simpa using hb5
        refine OUT (kg (show CallTo Tryz.prog 61 [(.ptr 4 0), (jI (0))] [(4, (.cells 107 [(jL (T.map strAV)), (jI (0)), (jI (0))]))] [] (.av (.tup [(.agg [(vI (Nd.kind (PR.nd (ptop T)))), (vS (Nd.name (PR.nd (ptop T)))), (.sl (av2 (Nd.kids (PR.nd (ptop T)))))]), (vB (PR.ok (ptop T)))])) [(4, (.cells 107 [(jL (T.map strAV)), (jI ((((ptop T).pos : Nat) : Int))), (jI ((ptop T).deep))]))] [] from (by have h := CallTo_ren (swap_inv (4, 0) (1000, 0) rfl) (cond_to T (by omega) 0 T.length (Nat.le_refl _)); exact h)) trivial (tn 9 (kb hb5 (tn 1 (kb hb5 (tn 1 (kb hb5 (tn 1 (kb hb5 (tn 1 (kb hb5 (tn 1 (kb hb5 (tn 1 (kb hb5 z))))))))))))))) (by kernel_rfl) ?_
        rcases Bool.eq_false_or_eq_true (decide (((((ptop T).pos : Nat) : Int) : Int) < (((T.map strAV).length : Nat) : Int))) with hb6 | hb6
        · have hb6p := of_decide_eq_true hb6
          refine GO (kb hb6 (tn 3 z)) (by kernel_rfl) ?_
          exact LEAF .ret (S2 := (sx 53 [(2, (.ptr 2 0)), (3, (jI (5)))] [(2, (.cells 77 [(jI (0)), (jS (⟨#[]⟩)), .nil]))] [])) (by kernel_rfl) (WK (by kernel_rfl)) (ends (r := (.av (.tup [(.agg [(vI (0)), (vS (⟨#[]⟩)), (.sl [])]), (vI (5))]))) (by simp) (by kernel_rfl) (by rw [parseP, if_neg (by omega), hT, parseT]; rw [if_neg (by rw [← hE, badI_end T i (by omega)]; simp)]; rw [if_neg (by rw [hb5n]; simp)]; rw [if_pos (by omega)]; rfl) (by simp) (by simp))
        · have hb6p := of_decide_eq_false hb6
          refine GO (kb hb6 (tn 3 z)) (by kernel_rfl) ?_
          rcases Bool.eq_false_or_eq_true (decide (((ptop T).deep : Int) > 16)) with hb7 | hb7
          · have hb7p := of_decide_eq_true hb7
            refine GO (kb hb7 (tn 3 z)) (by kernel_rfl) ?_
            exact LEAF .ret (S2 := (sx 53 [(2, (.ptr 2 0)), (3, (jI (11)))] [(2, (.cells 77 [(jI (0)), (jS (⟨#[]⟩)), .nil]))] [])) (by kernel_rfl) (WK (by kernel_rfl)) (ends (r := (.av (.tup [(.agg [(vI (0)), (vS (⟨#[]⟩)), (.sl [])]), (vI (11))]))) (by simp) (by kernel_rfl) (by rw [parseP, if_neg (by omega), hT, parseT]; rw [if_neg (by rw [← hE, badI_end T i (by omega)]; simp)]; rw [if_neg (by rw [hb5n]; simp)]; rw [if_neg (by omega), if_pos (by omega)]; rfl) (by simp) (by simp))
          · have hb7p := of_decide_eq_false hb7
            refine GO (kb hb7 (tn 3 z)) (by kernel_rfl) ?_
            exact LEAF .ret (S2 := (sx 53 [(2, (.ptr 2 0)), (3, (jI (0)))] [(2, (.cells 77 [(jI (Nd.kind (PR.nd (ptop T)))), (jS (Nd.name (PR.nd (ptop T)))), (jL (av2 (Nd.kids (PR.nd (ptop T)))))]))] [])) (by kernel_rfl) (WK (by kernel_rfl)) (ends (r := (.av (.tup [(.agg [(vI (Nd.kind (PR.nd (ptop T)))), (vS (Nd.name (PR.nd (ptop T)))), (.sl (av2 (Nd.kids (PR.nd (ptop T)))))]), (vI (0))]))) (by simp) (by kernel_rfl) (by rw [parseP, if_neg (by omega), hT, parseT]; rw [if_neg (by rw [← hE, badI_end T i (by omega)]; simp)]; rw [if_neg (by rw [hb5n]; simp)]; rw [if_neg (by omega), if_neg (by omega)]; rfl) (by simp) (by simp))
set_option maxRecDepth 100000 in
set_option maxHeartbeats 2000000 in
theorem valueP_step (v : Nd → Bool) (fl : List ByteArray) (x : Nd) (hk : x.kind = 3 → 1 ≤ x.kids.length) (hl : x.kids.length ≤ 1000000) (hrec : ∀ i, i < x.kids.length → CallTo Tryz.prog 39 [(.av (nav (ndth x.kids i))), (.av (.rm (setF fl []) (trues (setF fl []))))] [] [] (.av (.val (.bool (v (ndth x.kids i))))) [] []) : CallTo Tryz.prog 39 [(.av (.agg [(vI (Nd.kind (x))), (vS (Nd.name (x))), (.sl (av2 (Nd.kids (x))))])), (.av (.rm (setF fl []) (trues (setF fl []))))] [] [] (.av (.val (.bool (valPB v fl x)))) [] [] := by
  have hml := av2_len x.kids
  refine CallTo_of_body (n := 56) Tryz.func39 rfl (by kernel_rfl) Tryz.ntmps39 (by simp) (by simp) (by simp) (by simp [OkSV, SV.keys, ABox.svs, PV.keys]) (by simp [OkSV, SV.keys, ABox.svs, PV.keys]) (by simp [OkSV, SV.keys, ABox.svs, PV.keys]) (by simp [OkSV, SV.keys, ABox.svs, PV.keys]) rfl rfl ?_
  refine W_eq (sx 56 [(0, (.av (.agg [(vI (Nd.kind (x))), (vS (Nd.name (x))), (.sl (av2 (Nd.kids (x))))]))), (1, (.av (.rm (setF fl []) (trues (setF fl [])))))] [] []) (by kernel_rfl) ?_
  refine WN ?_
  refine GO (tn 6 z) (by kernel_rfl) ?_
  rcases Bool.eq_false_or_eq_true (((Nd.kind (x) : Int) == 1)) with hb1 | hb1
  · have hb1p := eq_of_beq hb1
    refine GO (kb hb1 (tn 4 z)) (by kernel_rfl) ?_
    refine LP (I := fun N M S => ∃ i : Nat, (i ≤ x.kids.length) ∧ (anyI v x.kids i = anyI v x.kids 0) ∧ N = x.kids.length - i ∧ M = () ∧ S = (sx 56 [(1, (.av (.rm (setF fl []) (trues (setF fl []))))), (14, (jL (av2 (Nd.kids (x))))), (15, (jI ((((av2 (Nd.kids (x))).length : Nat) : Int)))), (16, (jI (((i : Nat) : Int))))] [] [])) (n := x.kids.length - (0)) (by kernel_rfl) ⟨0, Nat.zero_le _, rfl, rfl, rfl, rfl⟩ (wtr (S' := (sx 56 [(1, (.av (.rm (setF fl []) (trues (setF fl []))))), (14, (jL (av2 (Nd.kids (x))))), (15, (jI ((((av2 (Nd.kids (x))).length : Nat) : Int)))), (16, (jI (0)))] [] [])) (WK (by kernel_rfl)) (weak_sx (show WkX _ _ _ from ⟨rfl, rfl, rfl, (by first | rfl | (congr 3; omega) | simp), trivial⟩) (show WkBx _ _ from trivial) (show WkG _ _ _ from trivial))) ?_
    rintro N M S ⟨i, hi, hE, rfl, rfl, rfl⟩
    refine GO (tn 1 z) (by kernel_rfl) ?_
    rcases Bool.eq_false_or_eq_true (decide ((((i : Nat) : Int) : Int) < (((av2 (Nd.kids (x))).length : Nat) : Int))) with hb2 | hb2
    · have hb2p := of_decide_eq_true hb2
      refine GO (kb hb2 (ke (show 0 ≤ (((i : Nat) : Int) : Int) ∧ ((av2 (Nd.kids (x))) : List AV)[i]? = some (.agg [(vI (Nd.kind (ndth (Nd.kids (x)) (i)))), (vS (Nd.name (ndth (Nd.kids (x)) (i)))), (.sl (av2 (Nd.kids (ndth (Nd.kids (x)) (i)))))]) from (av2_at (i := i) (by omega))) (tn 5 (kg (hrec ((i)) (by omega)) trivial z)))) (by kernel_rfl) ?_
      rcases Bool.eq_false_or_eq_true (v (ndth (Nd.kids (x)) (i))) with hb3 | hb3
      · refine GO (kb hb3 (tn 1 z)) (by kernel_rfl) ?_
        refine OUT z (by kernel_rfl) ?_
        exact LEAF .ret (S2 := (sx 56 [(4, (jB (true)))] [] [])) (by kernel_rfl) (WK (by kernel_rfl)) (ends (r := (jB (true))) (by simp) (by kernel_rfl) (bres (by rw [valPB]; simp only [hb1, Bool.false_eq_true, if_false, if_true]; rw [← hE, anyI_step v x.kids i (by omega), hb3]; simp)) (by simp) (by simp))
      · refine GO (kb hb3 (kn (wrE ((((i : Nat) : Int)) + 1) (((i + 1 : Nat) : Int)) (by omega)) (tn 1 z))) (by kernel_rfl) ?_
        exact AG (m := x.kids.length - (i + 1)) ⟨i + 1, by omega, by rw [← hE, anyI_step v x.kids i (by omega), hb3]; simp, rfl, rfl, rfl⟩ (wtr (S' := (sx 56 [(1, (.av (.rm (setF fl []) (trues (setF fl []))))), (14, (jL (av2 (Nd.kids (x))))), (15, (jI ((((av2 (Nd.kids (x))).length : Nat) : Int)))), (16, (jI (((i + 1 : Nat) : Int))))] [] [])) (WK (by kernel_rfl)) (weak_sx (show WkX _ _ _ from ⟨rfl, rfl, rfl, (by first | rfl | (congr 3; omega) | simp), trivial⟩) (show WkBx _ _ from trivial) (show WkG _ _ _ from trivial))) (by kernel_rfl) (by omega)
    · have hb2p := of_decide_eq_false hb2
      refine GO (kb hb2 z) (by kernel_rfl) ?_
      refine OUT (tn 1 z) (by kernel_rfl) ?_
      exact LEAF .ret (S2 := (sx 56 [(4, (jB (false)))] [] [])) (by kernel_rfl) (WK (by kernel_rfl)) (ends (r := (jB (false))) (by simp) (by kernel_rfl) (bres (by rw [valPB]; simp only [hb1, Bool.false_eq_true, if_false, if_true]; rw [← hE, anyI_end v x.kids i (by omega)])) (by simp) (by simp))
  · have hb1p := ne_of_beq_false hb1
    refine GO (kb hb1 (tn 2 z)) (by kernel_rfl) ?_
    rcases Bool.eq_false_or_eq_true (((Nd.kind (x) : Int) == 2)) with hb4 | hb4
    · have hb4p := eq_of_beq hb4
      refine GO (kb hb4 (tn 4 z)) (by kernel_rfl) ?_
      refine LP (I := fun N M S => ∃ i : Nat, (i ≤ x.kids.length) ∧ (allI v x.kids i = allI v x.kids 0) ∧ N = x.kids.length - i ∧ M = () ∧ S = (sx 56 [(1, (.av (.rm (setF fl []) (trues (setF fl []))))), (27, (jL (av2 (Nd.kids (x))))), (28, (jI ((((av2 (Nd.kids (x))).length : Nat) : Int)))), (29, (jI (((i : Nat) : Int))))] [] [])) (n := x.kids.length - (0)) (by kernel_rfl) ⟨0, Nat.zero_le _, rfl, rfl, rfl, rfl⟩ (wtr (S' := (sx 56 [(1, (.av (.rm (setF fl []) (trues (setF fl []))))), (27, (jL (av2 (Nd.kids (x))))), (28, (jI ((((av2 (Nd.kids (x))).length : Nat) : Int)))), (29, (jI (0)))] [] [])) (WK (by kernel_rfl)) (weak_sx (show WkX _ _ _ from ⟨rfl, rfl, rfl, (by first | rfl | (congr 3; omega) | simp), trivial⟩) (show WkBx _ _ from trivial) (show WkG _ _ _ from trivial))) ?_
      rintro N M S ⟨i, hi, hE, rfl, rfl, rfl⟩
      refine GO (tn 1 z) (by kernel_rfl) ?_
      rcases Bool.eq_false_or_eq_true (decide ((((i : Nat) : Int) : Int) < (((av2 (Nd.kids (x))).length : Nat) : Int))) with hb5 | hb5
      · have hb5p := of_decide_eq_true hb5
        refine GO (kb hb5 (ke (show 0 ≤ (((i : Nat) : Int) : Int) ∧ ((av2 (Nd.kids (x))) : List AV)[i]? = some (.agg [(vI (Nd.kind (ndth (Nd.kids (x)) (i)))), (vS (Nd.name (ndth (Nd.kids (x)) (i)))), (.sl (av2 (Nd.kids (ndth (Nd.kids (x)) (i)))))]) from (av2_at (i := i) (by omega))) (tn 5 (kg (hrec ((i)) (by omega)) trivial (tn 1 z))))) (by kernel_rfl) ?_
        rcases Bool.eq_false_or_eq_true ((!v (ndth (Nd.kids (x)) (i)))) with hb6 | hb6
        · have hb6n : v (ndth (Nd.kids (x)) (i)) = false := by simpa using hb6
          refine GO (kb hb6 (tn 1 z)) (by kernel_rfl) ?_
          refine OUT z (by kernel_rfl) ?_
          exact LEAF .ret (S2 := (sx 56 [(4, (jB (false)))] [] [])) (by kernel_rfl) (WK (by kernel_rfl)) (ends (r := (jB (false))) (by simp) (by kernel_rfl) (bres (by rw [valPB]; simp only [hb1, hb4, Bool.false_eq_true, if_false, if_true]; rw [← hE, allI_step v x.kids i (by omega), hb6n]; simp)) (by simp) (by simp))
        · have hb6n : v (ndth (Nd.kids (x)) (i)) = true := by simpa using hb6
          refine GO (kb hb6 (kn (wrE ((((i : Nat) : Int)) + 1) (((i + 1 : Nat) : Int)) (by omega)) (tn 1 z))) (by kernel_rfl) ?_
          exact AG (m := x.kids.length - (i + 1)) ⟨i + 1, by omega, by rw [← hE, allI_step v x.kids i (by omega), hb6n]; simp, rfl, rfl, rfl⟩ (wtr (S' := (sx 56 [(1, (.av (.rm (setF fl []) (trues (setF fl []))))), (27, (jL (av2 (Nd.kids (x))))), (28, (jI ((((av2 (Nd.kids (x))).length : Nat) : Int)))), (29, (jI (((i + 1 : Nat) : Int))))] [] [])) (WK (by kernel_rfl)) (weak_sx (show WkX _ _ _ from ⟨rfl, rfl, rfl, (by first | rfl | (congr 3; omega) | simp), trivial⟩) (show WkBx _ _ from trivial) (show WkG _ _ _ from trivial))) (by kernel_rfl) (by omega)
      · have hb5p := of_decide_eq_false hb5
        refine GO (kb hb5 z) (by kernel_rfl) ?_
        refine OUT (tn 1 z) (by kernel_rfl) ?_
        exact LEAF .ret (S2 := (sx 56 [(4, (jB (true)))] [] [])) (by kernel_rfl) (WK (by kernel_rfl)) (ends (r := (jB (true))) (by simp) (by kernel_rfl) (bres (by rw [valPB]; simp only [hb1, hb4, Bool.false_eq_true, if_false, if_true]; rw [← hE, allI_end v x.kids i (by omega)])) (by simp) (by simp))
    · have hb4p := ne_of_beq_false hb4
      refine GO (kb hb4 (tn 2 z)) (by kernel_rfl) ?_
      rcases Bool.eq_false_or_eq_true (((Nd.kind (x) : Int) == 3)) with hb7 | hb7
      · have hb7p := eq_of_beq hb7
        refine GO (kb hb7 (tn 2 (ke (show 0 ≤ (0 : Int) ∧ ((av2 (Nd.kids (x))) : List AV)[0]? = some (.agg [(vI (Nd.kind (ndth (Nd.kids (x)) (0)))), (vS (Nd.name (ndth (Nd.kids (x)) (0)))), (.sl (av2 (Nd.kids (ndth (Nd.kids (x)) (0)))))]) from (av2_at (i := 0) (by omega))) (tn 2 (kg (hrec ((0)) (by omega)) trivial (tn 2 z)))))) (by kernel_rfl) ?_
        exact LEAF .ret (S2 := (sx 56 [(4, (jB ((!v (ndth (Nd.kids (x)) (0))))))] [] [])) (by kernel_rfl) (WK (by kernel_rfl)) (ends (r := (jB ((!v (ndth (Nd.kids (x)) (0)))))) (by simp) (by kernel_rfl) (bres (by rw [valPB]; simp only [hb1, hb4, hb7, Bool.false_eq_true, if_false, if_true])) (by simp) (by simp))
      · have hb7p := ne_of_beq_false hb7
        refine GO (kb hb7 (tn 2 z)) (by kernel_rfl) ?_
        rcases Bool.eq_false_or_eq_true (((Nd.kind (x) : Int) == 6)) with hb8 | hb8
        · have hb8p := eq_of_beq hb8
          refine GO (kb hb8 (tn 3 (kl (show mgetT false (vB (false)) (setF fl []) (trues (setF fl [])) (Nd.name (x)) = (vB (hasI fl (Nd.name (x)) 0)) from (mget_set fl _)) (tn 1 z)))) (by kernel_rfl) ?_
          exact LEAF .ret (S2 := (sx 56 [(4, (jB (hasI fl (Nd.name (x)) 0)))] [] [])) (by kernel_rfl) (WK (by kernel_rfl)) (ends (r := (jB (hasI fl (Nd.name (x)) 0))) (by simp) (by kernel_rfl) (bres (by rw [valPB]; simp only [hb1, hb4, hb7, hb8, Bool.false_eq_true, if_false, if_true])) (by simp) (by simp))
        · have hb8p := ne_of_beq_false hb8
          refine GO (kb hb8 (tn 4 z)) (by kernel_rfl) ?_
          exact LEAF .ret (S2 := (sx 56 [(4, (jB (((Nd.kind (x) : Int) == 4))))] [] [])) (by kernel_rfl) (WK (by kernel_rfl)) (ends (r := (jB (((Nd.kind (x) : Int) == 4)))) (by simp) (by kernel_rfl) (bres (by rw [valPB]; simp only [hb1, hb4, hb7, hb8, Bool.false_eq_true, if_false, if_true])) (by simp) (by simp))
mutual
theorem valueP_to (fl : List ByteArray) : ∀ x : Nd, okP x → CallTo Tryz.prog 39 [(.av (nav x)), (.av (.rm (setF fl []) (trues (setF fl []))))] [] [] (.av (.val (.bool (valP fl x)))) [] []
  | .mk k nm kids, h => by
    simp only [okP] at h
    rw [valP_eq]
    exact valueP_step (valP fl) fl (.mk k nm kids) h.1 h.2.1 (fun i hi => valuesP_to fl kids h.2.2 i hi)
theorem valuesP_to (fl : List ByteArray) : ∀ l : List Nd, okPs l → ∀ i, i < l.length → CallTo Tryz.prog 39 [(.av (nav (ndth l i))), (.av (.rm (setF fl []) (trues (setF fl []))))] [] [] (.av (.val (.bool (valP fl (ndth l i))))) [] []
  | [], _, i, hi => by simp at hi
  | x :: l, h, 0, _ => by simp only [okPs] at h; exact valueP_to fl x h.1
  | x :: l, h, i + 1, hi => by simp only [okPs] at h; exact valuesP_to fl l h.2 i (by simpa using hi)
end
set_option maxRecDepth 100000 in
set_option maxHeartbeats 2000000 in
theorem setOf_to (l : List ByteArray) (hl : l.length ≤ maxLen) : CallTo Tryz.prog 23 [(jL (l.map strAV))] [] [] (.av (.rm (setF l []) (trues (setF l [])))) [] [] := by
  unfold maxLen at hl
  have hml := mlen l
  refine CallTo_of_body (n := 19) Tryz.func23 rfl (by kernel_rfl) Tryz.ntmps23 (by simp) (by simp) (by simp) (by simp [OkSV, SV.keys, ABox.svs, PV.keys]) (by simp [OkSV, SV.keys, ABox.svs, PV.keys]) (by simp [OkSV, SV.keys, ABox.svs, PV.keys]) (by simp [OkSV, SV.keys, ABox.svs, PV.keys]) rfl rfl ?_
  refine W_eq (sx 19 [(0, (jL (l.map strAV)))] [] []) (by kernel_rfl) ?_
  refine W_gend ?_
  refine WN ?_
  refine GO (tn 8 z) (by kernel_rfl) ?_
  refine LP (I := fun N M S => ∃ i : Nat, ∃ ks : List ByteArray, (i ≤ l.length) ∧ (setF (l.drop i) ks = setF l []) ∧ N = l.length - i ∧ M = () ∧ S = (sx 19 [(3, (.mp 8)), (9, (jL (l.map strAV))), (10, (jI ((((l.map strAV).length : Nat) : Int)))), (11, (jI (((i : Nat) : Int))))] [(8, (.map (ks) (trues ks)))] [])) (n := l.length - (0)) (by kernel_rfl) ⟨0, [], Nat.zero_le _, rfl, rfl, rfl, rfl⟩ (wtr (S' := (sx 19 [(3, (.mp 8)), (9, (jL (l.map strAV))), (10, (jI ((((l.map strAV).length : Nat) : Int)))), (11, (jI (0)))] [(8, (.map ([]) ([])))] [])) (WK (by kernel_rfl)) (weak_sx (show WkX _ _ _ from ⟨rfl, rfl, rfl, (by first | rfl | (congr 3; omega) | simp), trivial⟩) (show WkBx _ _ from ⟨rfl, trivial⟩) (show WkG _ _ _ from trivial))) ?_
  rintro N M S ⟨i, ks, hi, hE, rfl, rfl, rfl⟩
  refine GO (tn 1 z) (by kernel_rfl) ?_
  rcases Bool.eq_false_or_eq_true (decide ((((i : Nat) : Int) : Int) < (((l.map strAV).length : Nat) : Int))) with hb1 | hb1
  · have hb1p := of_decide_eq_true hb1
    refine GO (kb hb1 (ke (show 0 ≤ (((i : Nat) : Int) : Int) ∧ ((l.map strAV) : List AV)[i]? = some (vS (nth l (i))) from (nth_at (by assumption))) (tn 5 (kn (wrE ((((i : Nat) : Int)) + 1) (((i + 1 : Nat) : Int)) (by omega)) (tn 1 z))))) (by kernel_rfl) ?_
    exact AG (m := l.length - (i + 1)) ⟨i + 1, mputK (ks) (nth l (i)), by omega, by rw [← hE]; exact (setF_step l ks i (by omega)).symm, rfl, rfl, rfl⟩ (wtr (S' := (sx 19 [(3, (.mp 8)), (9, (jL (l.map strAV))), (10, (jI ((((l.map strAV).length : Nat) : Int)))), (11, (jI (((i + 1 : Nat) : Int))))] [(8, (.map (mputK (ks) (nth l (i))) (mputV (ks) (trues ks) (nth l (i)) (vB (true)))))] [])) (WK (by kernel_rfl)) (weak_sx (show WkX _ _ _ from ⟨rfl, rfl, rfl, (by first | rfl | (congr 3; omega) | simp), trivial⟩) (show WkBx _ _ from ⟨(by show ABox.map _ _ = ABox.map _ _; rw [mput_trues]), trivial⟩) (show WkG _ _ _ from trivial))) (by kernel_rfl) (by omega)
  · have hb1p := of_decide_eq_false hb1
    refine GO (kb hb1 z) (by kernel_rfl) ?_
    refine OUT (tn 2 z) (by kernel_rfl) ?_
    exact LEAF .ret (S2 := (sx 19 [(2, (.mp 8))] [(8, (.map (ks) (trues ks)))] [])) (by kernel_rfl) (WK (by kernel_rfl)) ⟨St.frozen _ 8 (ks) (trues ks), ghost_freeze (by kernel_rfl), (ends (r := (.av (.rm (ks) (trues ks)))) (by simp) (by kernel_rfl) (by rw [← hE, setF_end l ks i (by omega)]) (by simp) (by simp))⟩
set_option maxRecDepth 100000 in
set_option maxHeartbeats 2000000 in
theorem Eval_to (s : ByteArray) (hs : s.size ≤ maxLen) (fl : List ByteArray) (hfl : fl.length ≤ maxLen) : CallTo Tryz.prog 20 [(jS (s)), (jL (fl.map strAV))] [] [] (.av (.tup [.val (.bool (evalP s fl).1), .val (.int .i64 (evalP s fl).2)])) [] [] := by
  refine CallTo_of_body (n := 20) Tryz.func20 rfl (by kernel_rfl) Tryz.ntmps20 (by simp) (by simp) (by simp) (by simp [OkSV, SV.keys, ABox.svs, PV.keys]) (by simp [OkSV, SV.keys, ABox.svs, PV.keys]) (by simp [OkSV, SV.keys, ABox.svs, PV.keys]) (by simp [OkSV, SV.keys, ABox.svs, PV.keys]) rfl rfl ?_
  refine W_eq (sx 20 [(0, (jS (s))), (1, (jL (fl.map strAV)))] [] []) (by kernel_rfl) ?_
  refine WN ?_
  refine GO (tn 3 (kg (parse_to (s) hs) trivial (tn 8 z))) (by kernel_rfl) ?_
  rcases Bool.eq_false_or_eq_true ((((parseP (s)).2 : Int) != 0)) with hb1 | hb1
  · have hb1p := bne_iff_ne.1 hb1
    refine GO (kb hb1 (tn 3 z)) (by kernel_rfl) ?_
    exact LEAF .ret (S2 := (sx 20 [(4, (jB (false))), (5, (jI ((parseP (s)).2)))] [] [])) (by kernel_rfl) (WK (by kernel_rfl)) (ends (r := (.av (.tup [(vB (false)), (vI ((parseP (s)).2))]))) (by simp) (by kernel_rfl) (by rw [evalP]; first | (rw [if_pos (by assumption)]; done) | (rw [if_neg (by assumption)]; done)) (by simp) (by simp))
  · have hb1p := eq_of_bne_false hb1
    refine GO (kb hb1 z) (by kernel_rfl) ?_
    have d2 := (setOf_to fl hfl)
    have d3 := (valueP_to fl _ (ok_parseP s))
    refine DR3 (tn 2 (ko (cO d2) (kp d2 (tn 1 (ko (cO d3) (kp d3 (tn 3 z))))))) (by kernel_rfl) (by kernel_rfl) (by kernel_rfl) ?_
    exact LEAF .ret (S2 := (sx 20 [(4, (jB (valP fl ((parseP (s)).1)))), (5, (jI (0)))] [] [])) (by kernel_rfl) (WK (by kernel_rfl)) (ends (r := (.av (.tup [(vB (valP fl ((parseP (s)).1))), (vI (0))]))) (by simp) (by kernel_rfl) (by rw [evalP]; first | (rw [if_pos (by assumption)]; done) | (rw [if_neg (by assumption)]; done)) (by simp) (by simp))
set_option maxRecDepth 100000 in
set_option maxHeartbeats 2000000 in
theorem Names_to (s : ByteArray) (hs : s.size ≤ maxLen) : CallTo Tryz.prog 21 [(jS (s))] [] [] (.av (.tup [.sl ((namesP s).1.map strAV), .val (.int .i64 (namesP s).2)])) [] [] := by
  obtain ⟨T, hT⟩ : ∃ T, toks s 0 = T := ⟨_, rfl⟩
  have hml := mlen T
  have hTl : T.length ≤ s.size := by rw [← hT]; exact toks_len s _ 0 rfl
  have hsz : ∀ x ∈ T, x.size ≤ s.size := by rw [← hT]; exact toks_size s _ 0 rfl
  have h46 : (parseP s).2 = 0 → s.size ≤ 4096 := by intro h; unfold parseP at h; split at h; (simp at h); omega
  refine CallTo_of_body (n := 43) Tryz.func21 rfl (by kernel_rfl) Tryz.ntmps21 (by simp) (by simp) (by simp) (by simp [OkSV, SV.keys, ABox.svs, PV.keys]) (by simp [OkSV, SV.keys, ABox.svs, PV.keys]) (by simp [OkSV, SV.keys, ABox.svs, PV.keys]) (by simp [OkSV, SV.keys, ABox.svs, PV.keys]) rfl rfl ?_
  refine W_eq (sx 43 [(0, (jS (s)))] [] []) (by kernel_rfl) ?_
  refine WN ?_
  refine GO (tn 3 (kg (parse_to (s) hs) trivial (tn 8 z))) (by kernel_rfl) ?_
  rcases Bool.eq_false_or_eq_true ((((parseP (s)).2 : Int) != 0)) with hb1 | hb1
  · have hb1p := bne_iff_ne.1 hb1
    refine GO (kb hb1 (tn 3 z)) (by kernel_rfl) ?_
    exact LEAF .ret (S2 := (sx 43 [(2, .nil), (3, (jI ((parseP (s)).2)))] [] [])) (by kernel_rfl) (WK (by kernel_rfl)) (ends (r := (.av (.tup [(.sl []), (vI ((parseP (s)).2))]))) (by simp) (by kernel_rfl) (by rw [namesP]; first | (rw [if_neg (by assumption)]; rfl) | (rw [if_pos (by assumption), hT, ← hE, namesL_end T acc i (by omega)])) (by simp) (by simp))
  · have hb1p := eq_of_bne_false hb1
    refine GO (kb hb1 (tn 4 (kg (show CallTo Tryz.prog 40 [(jS (s))] [] [] (jL (T.map strAV)) [] [] from (by rw [← hT]; exact tokens_to s (by omega))) trivial (tn 2 z)))) (by kernel_rfl) ?_
    refine LP (I := fun N M S => ∃ i : Nat, ∃ g : Nat, ∃ acc : List ByteArray, (i ≤ T.length) ∧ (acc.length ≤ i) ∧ (namesL (T.drop i) acc = namesL T []) ∧ N = T.length - i ∧ M = () ∧ S = (sx 43 [(6, (.own (200, 10) (g) 1 (acc.map strAV))), (7, (.mp 18)), (20, (jL (T.map strAV))), (21, (jI ((((T.map strAV).length : Nat) : Int)))), (22, (jI (((i : Nat) : Int))))] [(18, (.map (acc) (trues acc)))] [((200, 10), g)])) (n := T.length - (0)) (by kernel_rfl) ⟨0, 0, [], Nat.zero_le _, Nat.le_refl _, rfl, rfl, rfl, rfl⟩ (wtr (S' := (sx 43 [(6, .nil), (7, (.mp 18)), (20, (jL (T.map strAV))), (21, (jI ((((T.map strAV).length : Nat) : Int)))), (22, (jI (0)))] [(18, (.map ([]) ([])))] [])) (WK (by kernel_rfl)) (weak_sx (show WkX _ _ _ from ⟨⟨rfl, by decide, rfl⟩, rfl, rfl, rfl, (by first | rfl | (congr 3; omega) | simp), trivial⟩) (show WkBx _ _ from ⟨rfl, trivial⟩) (show WkG _ _ _ from ⟨(by first | rfl | (simp; done) | (simp; omega)), trivial⟩))) ?_
    rintro N M S ⟨i, g, acc, hi, hA, hE, rfl, rfl, rfl⟩
    refine GO (tn 1 z) (by kernel_rfl) ?_
    rcases Bool.eq_false_or_eq_true (decide ((((i : Nat) : Int) : Int) < (((T.map strAV).length : Nat) : Int))) with hb2 | hb2
    · have hb2p := of_decide_eq_true hb2
      rcases Bool.eq_false_or_eq_true ((!specB (nth T (i)))) with hb3 | hb3
      · have hb3n : specB (nth T (i)) = false := by simpa using hb3
        refine GO (kb hb2 (ke (show 0 ≤ (((i : Nat) : Int) : Int) ∧ ((T.map strAV) : List AV)[i]? = some (vS (nth T (i))) from (nth_at (by first | assumption | omega))) (tn 3 (kg (special_to (nth T (i))) trivial (tn 2 (kb hb3 (tn 1 (kb hb3 (tn 1 (kb hb3 (kl (show mgetT false (vB (false)) (acc) (trues acc) (nth T (i)) = (vB (hasI acc (nth T (i)) 0)) from (mget_has acc _)) (kb hb3 (tn 1 (kb hb3 z)))))))))))))) (by kernel_rfl) ?_
        rcases Bool.eq_false_or_eq_true ((!hasI acc (nth T (i)) 0)) with hb4 | hb4
        · have hb4n : hasI acc (nth T (i)) 0 = false := by simpa using hb4
          refine GO (kb hb4 (tn 5 (kp (show Uni 1 [(vS (nth T (i)))] from (by simp [Uni, AV.cells, AV.isTup])) (kp (show (g : Nat) = g ∧ Uni 1 [(vS (nth T (i)))] ∧ (((acc.map strAV) : List AV).length + ([(vS (nth T (i)))] : List AV).length) * 16 ≤ 140737488355328 from ⟨rfl, by simp [Uni, AV.cells, AV.isTup], by simp; omega⟩) (kw (show (((acc.map strAV) ++ [(vS (nth T (i)))]) : List AV) = _ from rfl) (tn 1 (kn (wrE ((((i : Nat) : Int)) + 1) (((i + 1 : Nat) : Int)) (by omega)) (tn 1 z)))))))) (by kernel_rfl) ?_
          exact AG (m := T.length - (i + 1)) ⟨i + 1, g + 1, acc ++ [nth T (i)], by omega, by first | omega | (simp; omega), by rw [← hE, namesL_step T acc i (by omega)]; simp [*], rfl, rfl, rfl⟩ (wtr (S' := (sx 43 [(6, (.own (200, 10) (g + 1) 1 ((acc.map strAV) ++ [(vS (nth T (i)))]))), (7, (.mp 18)), (20, (jL (T.map strAV))), (21, (jI ((((T.map strAV).length : Nat) : Int)))), (22, (jI (((i + 1 : Nat) : Int))))] [(18, (.map (mputK (acc) (nth T (i))) (mputV (acc) (trues acc) (nth T (i)) (vB (true)))))] [((200, 10), g + 1)])) (WK (by kernel_rfl)) (weak_sx (show WkX _ _ _ from ⟨⟨rfl, (by omega), rfl, (by simp [strAV])⟩, rfl, rfl, rfl, (by first | rfl | (congr 3; omega) | simp), trivial⟩) (show WkBx _ _ from ⟨(map_new (by assumption)), trivial⟩) (show WkG _ _ _ from ⟨(by first | rfl | (simp; done) | (simp; omega)), (by first | rfl | (simp; done) | (simp; omega)), trivial⟩))) (by kernel_rfl) (by omega)
        · have hb4n : hasI acc (nth T (i)) 0 = true := by simpa using hb4
          refine GO (kb hb4 (kn (wrE ((((i : Nat) : Int)) + 1) (((i + 1 : Nat) : Int)) (by omega)) (tn 1 z))) (by kernel_rfl) ?_
          exact AG (m := T.length - (i + 1)) ⟨i + 1, g, acc, by omega, by first | omega | (simp; omega), by rw [← hE, namesL_step T acc i (by omega)]; simp [*], rfl, rfl, rfl⟩ (wtr (S' := (sx 43 [(6, (.own (200, 10) (g) 1 (acc.map strAV))), (7, (.mp 18)), (20, (jL (T.map strAV))), (21, (jI ((((T.map strAV).length : Nat) : Int)))), (22, (jI (((i + 1 : Nat) : Int))))] [(18, (.map (acc) (trues acc)))] [((200, 10), g)])) (WK (by kernel_rfl)) (weak_sx (show WkX _ _ _ from ⟨⟨rfl, (by omega), rfl, (by simp [strAV])⟩, rfl, rfl, rfl, (by first | rfl | (congr 3; omega) | simp), trivial⟩) (show WkBx _ _ from ⟨rfl, trivial⟩) (show WkG _ _ _ from ⟨(by first | rfl | (simp; done) | (simp; omega)), (by first | rfl | (simp; done) | (simp; omega)), trivial⟩))) (by kernel_rfl) (by omega)
      · have hb3n : specB (nth T (i)) = true := by simpa using hb3
        refine GO (kb hb2 (ke (show 0 ≤ (((i : Nat) : Int) : Int) ∧ ((T.map strAV) : List AV)[i]? = some (vS (nth T (i))) from (nth_at (by first | assumption | omega))) (tn 3 (kg (special_to (nth T (i))) trivial (tn 2 (kb hb3 (kb hb3 (kb hb3 (kb hb3 (kb hb3 (kb ff (kn (wrE ((((i : Nat) : Int)) + 1) (((i + 1 : Nat) : Int)) (by omega)) (tn 1 z))))))))))))) (by kernel_rfl) ?_
        exact AG (m := T.length - (i + 1)) ⟨i + 1, g, acc, by omega, by first | omega | (simp; omega), by rw [← hE, namesL_step T acc i (by omega)]; simp [*], rfl, rfl, rfl⟩ (wtr (S' := (sx 43 [(6, (.own (200, 10) (g) 1 (acc.map strAV))), (7, (.mp 18)), (20, (jL (T.map strAV))), (21, (jI ((((T.map strAV).length : Nat) : Int)))), (22, (jI (((i + 1 : Nat) : Int))))] [(18, (.map (acc) (trues acc)))] [((200, 10), g)])) (WK (by kernel_rfl)) (weak_sx (show WkX _ _ _ from ⟨⟨rfl, (by omega), rfl, (by simp [strAV])⟩, rfl, rfl, rfl, (by first | rfl | (congr 3; omega) | simp), trivial⟩) (show WkBx _ _ from ⟨rfl, trivial⟩) (show WkG _ _ _ from ⟨(by first | rfl | (simp; done) | (simp; omega)), (by first | rfl | (simp; done) | (simp; omega)), trivial⟩))) (by kernel_rfl) (by omega)
    · have hb2p := of_decide_eq_false hb2
      refine GO (kb hb2 z) (by kernel_rfl) ?_
      refine OUT (tn 3 z) (by kernel_rfl) ?_
      exact LEAF .ret (S2 := (sx 43 [(2, (.own (200, 10) (g) 1 (acc.map strAV))), (3, (jI (0)))] [] [((200, 10), g)])) (by kernel_rfl) (WK (by kernel_rfl)) (ends (r := (.av (.tup [(.sl (acc.map strAV)), (vI (0))]))) (by simp) (by kernel_rfl) (by rw [namesP]; first | (rw [if_neg (by assumption)]; rfl) | (rw [if_pos (by assumption), hT, ← hE, namesL_end T acc i (by omega)])) (by simp) (by simp))
end Go.Proofs.YtdaglbjgdakmcaaGreat
namespace Go.Proofs.YtdaglbjgdakmcaaGreat
open Go Go.Eng
theorem zNot : ByteArray.size ⟨#[110, 111, 116, 32]⟩ = 4 := rfl
theorem zTrue : ByteArray.size ⟨#[116, 114, 117, 101]⟩ = 4 := rfl
theorem zFalse : ByteArray.size ⟨#[102, 97, 108, 115, 101]⟩ = 5 := rfl
theorem zOpen : ByteArray.size ⟨#[40]⟩ = 1 := rfl
theorem zClose : ByteArray.size ⟨#[41]⟩ = 1 := rfl
theorem zOrS : ByteArray.size ⟨#[32, 111, 114, 32]⟩ = 4 := rfl
theorem zAndS : ByteArray.size ⟨#[32, 97, 110, 100, 32]⟩ = 5 := rfl
theorem zNil : ByteArray.size ⟨#[]⟩ = 0 := rfl
mutual
def wgt : Nd → Nat
  | .mk _ nm kids => 16 + nm.size + wgts kids
def wgts : List Nd → Nat
  | [] => 0
  | x :: l => wgt x + wgts l
end
theorem wgts_app : ∀ (l m : List Nd), wgts (l ++ m) = wgts l + wgts m
  | [], m => by simp [wgts]
  | x :: l, m => by simp only [List.cons_append, wgts, wgts_app l m]; omega
theorem wgts_one (x : Nd) : wgts [x] = wgt x := by simp [wgts]
theorem wgt_nd0 : wgt nd0 = 16 := by simp only [nd0, wgt, wgts, zNil]
mutual
theorem wr_le : ∀ (x : Nd) (σ : WS), (wr x σ).1.size + 8 ≤ σ.1.size + wgt x
  | .mk k nm kids, σ => by
    simp only [wr, wgt]
    split
    · have := wrO_le kids 0 σ; omega
    split
    · have := wrA_le kids 0 σ; omega
    split
    · have := wrH_le kids (wput ⟨#[110, 111, 116, 32]⟩ σ)
      simp only [wput_size, zNot, zTrue, zFalse, zOpen, zClose, zOrS, zAndS, zNil] at this; omega
    split
    · simp only [wput_size, zNot, zTrue, zFalse, zOpen, zClose, zOrS, zAndS, zNil]; omega
    split
    · simp only [wput_size, zNot, zTrue, zFalse, zOpen, zClose, zOrS, zAndS, zNil]; omega
    · rw [wput_size]; omega
theorem wrH_le : ∀ (l : List Nd) (σ : WS), (wrH l σ).1.size ≤ σ.1.size + wgts l
  | [], σ => by simp only [wrH, wput_size, zNot, zTrue, zFalse, zOpen, zClose, zOrS, zAndS, zNil, wgts]; omega
  | x :: l, σ => by
    simp only [wrH, wgts]
    split
    · have h1 := wr_le x (wput ⟨#[40]⟩ σ)
      simp only [wput_size, zNot, zTrue, zFalse, zOpen, zClose, zOrS, zAndS, zNil] at h1 ⊢; omega
    · have := wr_le x σ; omega
theorem wrO_le : ∀ (l : List Nd) (i : Nat) (σ : WS), (wrO l i σ).1.size ≤ σ.1.size + wgts l
  | [], i, σ => by simp only [wrO, wgts]; omega
  | x :: l, i, σ => by
    simp only [wrO, wgts]
    have h1 := wrO_le l (i + 1) (wr x (if 0 < i then wput ⟨#[32, 111, 114, 32]⟩ σ else σ))
    have h2 := wr_le x (if 0 < i then wput ⟨#[32, 111, 114, 32]⟩ σ else σ)
    have h3 : (if 0 < i then wput ⟨#[32, 111, 114, 32]⟩ σ else σ).1.size ≤ σ.1.size + 4 := by
      split
      · simp only [wput_size, zNot, zTrue, zFalse, zOpen, zClose, zOrS, zAndS, zNil]; omega
      · omega
    omega
theorem wrA_le : ∀ (l : List Nd) (i : Nat) (σ : WS), (wrA l i σ).1.size ≤ σ.1.size + wgts l
  | [], i, σ => by simp only [wrA, wgts]; omega
  | x :: l, i, σ => by
    simp only [wrA, wgts]
    have h3 : (if 0 < i then wput ⟨#[32, 97, 110, 100, 32]⟩ σ else σ).1.size ≤ σ.1.size + 5 := by
      split
      · simp only [wput_size, zNot, zTrue, zFalse, zOpen, zClose, zOrS, zAndS, zNil]; omega
      · omega
    generalize (if 0 < i then wput ⟨#[32, 97, 110, 100, 32]⟩ σ else σ) = τ at h3
    have h1 := wrA_le l (i + 1) (if x.kind == 1 then wput ⟨#[41]⟩ (wr x (wput ⟨#[40]⟩ τ)) else wr x τ)
    have h4 : (if x.kind == 1 then wput ⟨#[41]⟩ (wr x (wput ⟨#[40]⟩ τ)) else wr x τ).1.size + 6 ≤ τ.1.size + wgt x := by
      split
      · have h2 := wr_le x (wput ⟨#[40]⟩ τ)
        simp only [wput_size, zNot, zTrue, zFalse, zOpen, zClose, zOrS, zAndS, zNil] at h2 ⊢; omega
      · have h2 := wr_le x τ; omega
    omega
end
/-- It writes something. -/
def Pos (x : Nd) : Prop := ∀ σ : WS, σ.1.size < (wr x σ).1.size
def Small (t : List ByteArray) : Prop := ∀ x ∈ t, 0 < x.size ∧ x.size ≤ 4096
/-- What is read from p on. -/
def Wee (p : Nat) (r : PR) : Prop := r.ok = true → p ≤ r.pos ∧ wgt r.nd ≤ 5000 * (r.pos - p) ∧ Pos r.nd
theorem pos_not (x : Nd) : Pos (.mk 3 ⟨#[]⟩ [x]) := by
  intro σ
  simp only [wr]
  have := wrH_grows [x] (wput ⟨#[110, 111, 116, 32]⟩ σ)
  simp only [wput_size, zNot, zTrue, zFalse, zOpen, zClose, zOrS, zAndS, zNil] at this ⊢; simp at this ⊢; omega
theorem pos_or {l : List Nd} (h : ∀ x ∈ l, Pos x) (hl : l ≠ []) : Pos (.mk 1 ⟨#[]⟩ l) := by
  intro σ
  match l, hl with
  | x :: l, _ =>
    simp only [wr]
    simp only [wrO]
    have h1 := h x (by simp) σ
    have h2 := wrO_grows l (0 + 1) (wr x (if 0 < 0 then wput ⟨#[32, 111, 114, 32]⟩ σ else σ))
    simp at h2 ⊢; omega
theorem pos_and {l : List Nd} (h : ∀ x ∈ l, Pos x) (hl : l ≠ []) : Pos (.mk 2 ⟨#[]⟩ l) := by
  intro σ
  match l, hl with
  | x :: l, _ =>
    simp only [wr]
    simp only [wrA]
    have h1 := h x (by simp) σ
    have h4 : σ.1.size < (if x.kind == 1 then wput ⟨#[41]⟩ (wr x (wput ⟨#[40]⟩ σ)) else wr x σ).1.size := by
      split
      · have := wr_grows x (wput ⟨#[40]⟩ σ)
        simp only [wput_size, zNot, zTrue, zFalse, zOpen, zClose, zOrS, zAndS, zNil] at this ⊢; omega
      · exact h1
    have h2 := wrA_grows l (0 + 1) (if x.kind == 1 then wput ⟨#[41]⟩ (wr x (wput ⟨#[40]⟩ σ)) else wr x σ)
    simp at h2 h4 ⊢; omega
theorem wee_one {rec cnd : Nat → Int → Nat → PR} {t : List ByteArray} (ht : Small t) (hr : ∀ p d l, p ≤ t.length → Wee p (rec p d l)) (hc : ∀ p d l, p ≤ t.length → Wee p (cnd p d l)) (p : Nat) (d : Int) (l : Nat) : Wee p (oneP rec cnd t p d l) := by
  unfold oneP
  split
  · rename_i h; have := (accP_t h).2
    intro ho
    obtain ⟨h1, h2, h3⟩ := hr (p + 1) (max d (l : Int)) (l + 1) (by omega) ho
    refine ⟨by simp only; omega, ?_, pos_not _⟩
    simp only [wgt, wgts, zNot, zTrue, zFalse, zOpen, zClose, zOrS, zAndS, zNil]; omega
  split
  · rename_i h; have := (accP_t h).2
    split
    · rename_i hok
      intro ho
      obtain ⟨h1, h2, h3⟩ := hc (p + 1) (max d (l : Int)) (l + 1) (by omega) hok
      have := (accP_t ho).1
      refine ⟨by simp only; omega, ?_, h3⟩
      simp only; omega
    · intro ho; simp at ho
  split
  · intro _; refine ⟨by simp only; omega, by simp only [wgt, wgts, zNot, zTrue, zFalse, zOpen, zClose, zOrS, zAndS, zNil]; omega, fun σ => ?_⟩
    simp only [wr]; simp only [Int.reduceBEq, Bool.false_eq_true, if_false, if_true, wput_size, zNot, zTrue, zFalse, zOpen, zClose, zOrS, zAndS, zNil]; omega
  split
  · intro _; refine ⟨by simp only; omega, by simp only [wgt, wgts, zNot, zTrue, zFalse, zOpen, zClose, zOrS, zAndS, zNil]; omega, fun σ => ?_⟩
    simp only [wr]; simp only [Int.reduceBEq, Bool.false_eq_true, if_false, if_true, wput_size, zNot, zTrue, zFalse, zOpen, zClose, zOrS, zAndS, zNil]; omega
  split
  · intro ho; simp at ho
  split
  · intro ho; simp at ho
  · rename_i h1 h2
    obtain ⟨s1, s2⟩ := ht _ (nth_mem (t := t) (i := p) (by omega))
    intro _; refine ⟨by simp only; omega, by simp only [wgt, wgts]; omega, fun σ => ?_⟩
    simp only [wr]; simp; rw [wput_size]; omega
theorem wgts_ndth {l : List Nd} (h : l.length = 1) : wgt (ndth l 0) = wgts l := by
  match l, h with
  | [x], _ => simp [ndth, wgts]
theorem wee_list {opnd : Nat → Int → PR} {word : ByteArray} {k : Int} (hk : k = 1 ∨ k = 2) {t : List ByteArray} (hf : ∀ p d, p ≤ t.length → FairP t p (opnd p d)) (ho : ∀ p d, p ≤ t.length → Wee p (opnd p d)) (p0 : Nat) :
    ∀ (m p : Nat) (d : Int) (acc : List Nd), p ≤ t.length → ((acc = [] ∧ p = p0) ∨ (acc ≠ [] ∧ p0 ≤ p ∧ wgts acc + 5000 ≤ 5000 * (p - p0))) → (∀ x ∈ acc, Pos x) → Wee p0 (listP opnd word k t m p d acc)
  | 0, p, d, acc, _, _, _ => by simp only [listP]; intro h; simp at h
  | m + 1, p, d, acc, hp, hi, ha => by
    simp only [listP]
    split
    · intro h; simp at h
    · rename_i h1
      have hok : (opnd p d).ok = true := by simpa using h1
      obtain ⟨f1, f2, f3⟩ := hf p d hp
      have f4 := f3 hok
      obtain ⟨w1, w2, w3⟩ := ho p d hp hok
      have ha' : ∀ x ∈ acc ++ [(opnd p d).nd], Pos x := by
        intro x hx
        rcases List.mem_append.1 hx with hx | hx
        · exact ha x hx
        · simp at hx; subst hx; exact w3
      have hw : wgts (acc ++ [(opnd p d).nd]) = wgts acc + wgt (opnd p d).nd := by rw [wgts_app, wgts_one]
      split
      · rename_i h2
        have := (accP_t h2).2
        refine wee_list hk hf ho p0 m _ _ _ (by omega) (.inr ⟨by simp, ?_, ?_⟩) ha'
        · rcases hi with ⟨_, hi⟩ | ⟨_, hi, _⟩ <;> omega
        · rw [hw]
          rcases hi with ⟨hi, hi2⟩ | ⟨_, hi, hi2⟩
          · subst hi; simp only [wgts]; omega
          · omega
      · intro _
        refine ⟨?_, ?_, ?_⟩
        · rcases hi with ⟨_, hi⟩ | ⟨_, hi, _⟩ <;> (simp only; omega)
        · simp only
          unfold mkP
          split
          · rename_i hlen
            rw [wgts_ndth hlen, hw]
            rcases hi with ⟨hi, hi2⟩ | ⟨_, hi, hi2⟩
            · subst hi; simp only [wgts]; omega
            · omega
          · rename_i hlen
            simp only [wgt, hw, zNot, zTrue, zFalse, zOpen, zClose, zOrS, zAndS, zNil]
            rcases hi with ⟨hi, hi2⟩ | ⟨_, hi, hi2⟩
            · subst hi; simp at hlen
            · omega
        · unfold mkP
          split
          · rename_i hlen
            have : ndth (acc ++ [(opnd p d).nd]) 0 ∈ acc ++ [(opnd p d).nd] := by
              unfold ndth; rw [List.getD_eq_getElem?_getD, List.getElem?_eq_getElem (by omega)]; exact List.getElem_mem _
            exact ha' _ this
          · rcases hk with rfl | rfl
            · exact pos_or ha' (by simp)
            · exact pos_and ha' (by simp)
theorem wee_all {one : Nat → Int → Nat → PR} {t : List ByteArray} (hf : ∀ p d l, p ≤ t.length → FairP t p (one p d l)) (h : ∀ p d l, p ≤ t.length → Wee p (one p d l)) (p : Nat) (d : Int) (l : Nat) (hp : p ≤ t.length) : Wee p (allP one t p d l) :=
  wee_list (.inr rfl) (fun p d hp => hf p d l hp) (fun p d hp => h p d l hp) p _ p d [] hp (.inl ⟨rfl, rfl⟩) (by simp)
theorem wee_cnd {one : Nat → Int → Nat → PR} {t : List ByteArray} (hf : ∀ p d l, p ≤ t.length → FairP t p (one p d l)) (h : ∀ p d l, p ≤ t.length → Wee p (one p d l)) (p : Nat) (d : Int) (l : Nat) (hp : p ≤ t.length) : Wee p (cndP one t p d l) :=
  wee_list (.inl rfl) (fun p d hp => fairP_all hf p d l hp) (fun p d hp => wee_all hf h p d l hp) p _ p d [] hp (.inl ⟨rfl, rfl⟩) (by simp)
theorem wee_pone {t : List ByteArray} (ht : Small t) : ∀ (n p : Nat) (d : Int) (l : Nat), p ≤ t.length → Wee p (pone t n p d l)
  | 0, p, d, l, _ => wee_one ht (fun p d l _ h => by simp at h) (fun p d l _ h => by simp at h) p d l
  | n + 1, p, d, l, _ => wee_one ht (wee_pone ht n) (wee_cnd (fairP_pone t n) (wee_pone ht n)) p d l
theorem toks_pos (s : ByteArray) : ∀ (n i : Nat), s.size - i = n → ∀ x ∈ toks s i, 0 < x.size := by
  intro n
  induction n using Nat.strongRecOn with
  | _ n ih =>
    intro i hn x hx
    by_cases hi : s.size ≤ i
    · rw [toks_end s i hi] at hx; simp at hx
    · have hlt : i < s.size := by omega
      cases hb : sepB ((byt s i : Nat) : Int) with
      | true =>
        by_cases h32 : ((byt s i : Nat) : Int) = 32
        · rw [toks_sp s i hlt h32] at hx; exact ih (s.size - (i + 1)) (by omega) (i + 1) rfl x hx
        · have : ((byt s i : Nat) : Int) = 40 ∨ ((byt s i : Nat) : Int) = 41 := by
            simp only [sepB, Bool.or_eq_true, beq_iff_eq] at hb
            rcases hb with (hb | hb) | hb
            · exact absurd hb h32
            · exact .inl hb
            · exact .inr hb
          rw [toks_par s i hlt this] at hx
          rcases List.mem_cons.1 hx with rfl | hx
          · rw [ByteArray.size_extract]; omega
          · exact ih (s.size - (i + 1)) (by omega) (i + 1) rfl x hx
      | false =>
        have hw := wend_gt s i hlt hb
        rw [toks_word s i hlt hb] at hx
        rcases List.mem_cons.1 hx with rfl | hx
        · rw [ByteArray.size_extract]; omega
        · exact ih (s.size - wend s i) (by omega) (wend s i) rfl x hx
theorem small_toks (s : ByteArray) (h : s.size ≤ 4096) : Small (toks s 0) := fun x hx =>
  ⟨toks_pos s _ 0 rfl x hx, by have := toks_size s _ 0 rfl x hx; omega⟩
/-- The tree of a text that is read. -/
theorem parse_ok {s : ByteArray} (h : (parseP s).2 = 0) : s.size ≤ 4096 ∧ badI (toks s 0) 0 = false ∧ (ptop (toks s 0)).ok = true ∧ (ptop (toks s 0)).pos = (toks s 0).length ∧ (ptop (toks s 0)).deep ≤ 16 ∧ (parseP s).1 = (ptop (toks s 0)).nd := by
  unfold parseP at h ⊢
  split at h
  · simp at h
  · rename_i h0
    rw [if_neg h0]
    unfold parseT at h ⊢
    split at h
    · simp at h
    rename_i h1
    split at h
    · simp at h
    rename_i h2
    split at h
    · simp at h
    rename_i h3
    split at h
    · simp at h
    rename_i h4
    have hf := (fairP_cnd (fairP_pone (toks s 0) (toks s 0).length) 0 0 0 (Nat.zero_le _)).2.1
    rw [if_neg h1, if_neg h2, if_neg h3, if_neg h4]
    refine ⟨by omega, by simpa using h1, by simpa using h2, ?_, by omega, rfl⟩
    show (cndP (pone (toks s 0) (toks s 0).length) (toks s 0) 0 0 0).pos = _
    unfold ptop at h3
    omega
theorem norm_wee {s : ByteArray} (h : (parseP s).2 = 0) : wgt (parseP s).1 ≤ 20480000 ∧ Pos (parseP s).1 := by
  obtain ⟨h1, h2, h3, h4, h5, h6⟩ := parse_ok h
  rw [h6]
  obtain ⟨w1, w2, w3⟩ := wee_cnd (fairP_pone _ _) (wee_pone (small_toks s h1) _) 0 0 0 (Nat.zero_le _) h3
  have hl := toks_len s _ 0 rfl
  refine ⟨?_, w3⟩
  have e : (cndP (pone (toks s 0) (toks s 0).length) (toks s 0) 0 0 0) = ptop (toks s 0) := rfl
  rw [e] at w2; omega
theorem parse_bad {s : ByteArray} (h : (parseP s).2 ≠ 0) : (parseP s).1 = nd0 := by
  unfold parseP at h ⊢
  split
  · rfl
  · rename_i h0
    rw [if_neg h0] at h
    unfold parseT at h ⊢
    split
    · rfl
    split
    · rfl
    split
    · rfl
    split
    · rfl
    · rename_i h1 h2 h3 h4; rw [if_neg h1, if_neg h2, if_neg h3, if_neg h4] at h; simp at h
theorem norm_le (s : ByteArray) : (wr (parseP s).1 (⟨#[]⟩, 0)).1.size ≤ 1000000000 := by
  have h := wr_le (parseP s).1 (⟨#[]⟩, 0)
  simp only [zNot, zTrue, zFalse, zOpen, zClose, zOrS, zAndS, zNil] at h
  by_cases h0 : (parseP s).2 = 0
  · have := (norm_wee h0).1; omega
  · rw [parse_bad h0] at h ⊢; rw [wgt_nd0] at h; omega
theorem norm_pos {s : ByteArray} (h : (parseP s).2 = 0) : 0 < (wr (parseP s).1 (⟨#[]⟩, 0)).1.size := by
  have h1 := (norm_wee h).2 (⟨#[]⟩, 0)
  exact Nat.lt_of_le_of_lt (Nat.zero_le _) h1
def normP (s : ByteArray) : ByteArray × Int := if (parseP s).2 = 0 then ((wr (parseP s).1 (⟨#[]⟩, 0)).1, 0) else (⟨#[]⟩, (parseP s).2)
theorem bytes_len (s : ByteArray) : (bytesAV s).length = s.size := by simp [bytesAV]
theorem bytes_cat (a b : ByteArray) : bytesAV (a ++ b) = bytesAV a ++ bytesAV b := by simp [bytesAV]
theorem bytes_uni (s : ByteArray) : Uni 1 (bytesAV s) := by
  intro x hx
  simp only [bytesAV, List.mem_map] at hx
  obtain ⟨b, _, rfl⟩ := hx
  simp [AV.cells, AV.isTup]
end Go.Proofs.YtdaglbjgdakmcaaGreat
namespace Go.Proofs.YtdaglbjgdakmcaaGreat
open Go Go.Eng Go.RowKit
theorem bsize : (Tryz.prog.info? 85).map (·.size) = some 2 := by kernel_rfl
theorem blies : liesAt Tryz.prog Tryz.prog.depth 85 (2 / Tryz.prog.cellsOf 85) 0 85 1 = true := by kernel_rfl
theorem bcells : Tryz.prog.cellsOf 5 = 1 := by kernel_rfl
set_option maxHeartbeats 1000000 in
set_option maxRecDepth 100000 in
theorem copyCheck_used (b : Nat) (w : World) (h0 : w.cell? ⟨b, 0, none⟩ = some (.pointer (some ⟨b, 0, none⟩))) :
    Calls Tryz.prog 87 #[.pointer (some ⟨b, 0, none⟩)] w fun e w' => e = .returned (.tuple #[]) ∧ w' = w := by
  obtain ⟨j, hj, _⟩ := Option.map_eq_some_iff.1 bsize
  go_enter Tryz.func87, Tryz.ntmps87
  go_wp2
  rw [Lib.run_neq_ptr_same w _ Tryz.underlying82 hj]
  go_wp2
  go_end0
  exact ⟨rfl, rfl⟩
set_option maxHeartbeats 1000000 in
set_option maxRecDepth 100000 in
theorem copyCheck_fresh (b : Nat) (w : World) (h0 : w.cell? ⟨b, 0, none⟩ = some (.pointer none)) (hsh : w.shape? b = some (85, 2)) (hfz : w.frozen? ⟨b, 0, none⟩ = false) :
    Calls Tryz.prog 87 #[.pointer (some ⟨b, 0, none⟩)] w fun e w' => e = .returned (.tuple #[]) ∧ w' = w.setCell ⟨b, 0, none⟩ (.pointer (some ⟨b, 0, none⟩)) := by
  obtain ⟨j, hj, hjs⟩ := Option.map_eq_some_iff.1 bsize
  go_enter Tryz.func87, Tryz.ntmps87
  go_wp2
  rw [Lib.run_to_unsafe w ⟨b, 0, none⟩ Tryz.underlying82 Tryz.underlying141 hj (by rw [hjs]; decide) hsh (Nat.zero_lt_succ 1)]
  simp only [Result.andThen]
  rw [Oper.upon_value]
  go_wp2
  rw [run_callFunc_extern Tryz.func110 (by kernel_rfl) (by kernel_rfl) (by kernel_rfl) (e := Extern.AbiNoEscape.same) (by kernel_rfl)]
  rw [Lib.run_noEscape]
  simp only [Result.andThen]
  rw [Oper.upon_value]
  go_wp2
  rw [Lib.run_from_unsafe w ⟨b, 0, none⟩ Tryz.underlying141 Tryz.underlying82 hj hsh blies]
  simp only [Result.andThen]
  rw [Oper.upon_value]
  go_wp2
  go_end0
  exact ⟨rfl, rfl⟩
set_option maxHeartbeats 1000000 in
set_option maxRecDepth 100000 in
theorem String_calls (b g n cap : Nat) (p : Value) (cur : Array Value) (l : List UInt8) (w : World) (h0 : l ≠ []) (hn : n = l.length) (hcap : l.length ≤ cap) (hcs : l.length ≤ cur.size) (h63 : l.length ≤ 9223372036854775807)
    (hbk : w.heap[b]? = some (.cells #[p, .slice (some ⟨g, 0, none⟩) n cap] 85 (0, 0))) (hg : w.heap[g]? = some (.cells cur 5 (0, 0))) (hcell : ∀ j x, l[j]? = some x → w.cell? ⟨g, j, none⟩ = some (.int .u8 x.toNat)) :
    Calls Tryz.prog 43 #[.pointer (some ⟨b, 0, none⟩)] w fun e w' => e = .returned (.string ⟨l.toArray⟩) ∧ w'.heap = (w.freeze ⟨g, 0, none⟩ l.length).heap ∧ w'.os = w.os ∧ w'.tape = w.tape ∧ w'.output = w.output := by
  subst hn
  have hl0 : l.length ≠ 0 := by simpa using h0
  have c1 : w.drew.cell? ⟨b, 1, none⟩ = some (.slice (some ⟨g, 0, none⟩) l.length cap) := by
    have : w.drew.heap[b]? = some (.cells #[p, .slice (some ⟨g, 0, none⟩) l.length cap] 85 (0, 0)) := hbk
    rw [Lib.cell_of_heap this]; rfl
  have hSD : (Builtin.unsafeSliceData_ #[83] 115 #[.slice (some ⟨g, 0, none⟩) l.length cap]).run Tryz.prog w.drew = .ok (.pointer (some ⟨g, 0, none⟩)) w.drew :=
    Lib.run_unsafeSliceData_row _ _ _ _ _ _ (by omega)
  have hUS : (Builtin.unsafeString_ #[115, 3] 9 #[.pointer (some ⟨g, 0, none⟩), .int .i64 l.length]).run Tryz.prog w.drew = .ok (.string ⟨l.toArray⟩) (w.drew.freeze ⟨g, 0, none⟩ l.length) := by
    refine Lib.run_unsafeString_row w.drew 115 3 9 5 Tryz.underlying115 bcells g cur.size (by have hg' : w.drew.heap[g]? = some (.cells cur 5 (0, 0)) := hg; simp [World.shape?, hg']) l h0 hcs h63 ?_
    intro j x hx
    rw [addr_add, Nat.zero_add]
    exact hcell j x hx
  clear hbk hg hcell hcs hcap
  go_enter Tryz.func43, Tryz.ntmps43
  go_wp2
  go_region
  all_goals (go_wp2; go_ret; refine ⟨rfl, ?_⟩; unfold World.freeze; rw [if_neg hl0, if_neg hl0]; exact ⟨rfl, rfl, rfl, rfl⟩)
theorem step_owned {G : Gh} {w w' : World} (hw : Wf G w) {id blk : Nat} (ho : G.ow (id, 0) = some blk) (hU : G.U blk = 0) (hsz : w'.heap.size = w.heap.size) (hos : w'.os = w.os) (htp : w'.tape = w.tape) (hout : w'.output = w.output) (hoth : ∀ k, k ≠ blk → w'.heap[k]? = w.heap[k]?) :
    Step G w G w' ∧ Wf G w' ∧ ∀ κ', κ' ≠ (id, 0) → Keep G w G w' κ' := by
  have hkp : ∀ κ', κ' ≠ (id, 0) → Keep G w G w' κ' := fun κ' hk' => ⟨rfl, fun b hb => ⟨hoth b (fun he => by subst he; exact hk' (hw.inj κ' (id, 0) b hb ho)), rfl⟩⟩
  refine ⟨⟨⟨fun b => Nat.le_refl _, imm_of (fun b hb => hoth b (fun he => by subst he; omega)), by omega, hos, htp, hout, fun _ => Nat.le_refl _, fun κ h0 _ => hkp κ (by intro e; rw [e] at h0; simp at h0)⟩, fun b hb hn => ⟨hoth b (fun he => hn _ (he ▸ ho)), rfl⟩, fun κ b h => .inl ⟨κ, h⟩⟩, ⟨hw.inj, fun κ b h => ?_, fun b hb => ?_⟩, hkp⟩
  · rw [hsz]; exact hw.lt κ b h
  · exact hw.zero b (by omega)
theorem two_of {G : Gh} {w : World} {x y : SV} {arr : Array Value} (h : RepSs G w [x, y] arr.toList) : ∃ u v, arr = #[u, v] ∧ RepS G w x u ∧ RepS G w y v := by
  obtain ⟨u, us, h1, h2, v, us', h3, h4, h5⟩ := h
  simp only [RepSs] at h5; subst h5 h3
  refine ⟨u, v, ?_, h2, h4⟩
  apply Array.ext'; rw [h1]
theorem copyCheck_to (c0 s : SV) (hc : c0 = .av (.val (.pointer none)) ∨ c0 = .ptr 1000 0) (hs : s.keys = []) : CallTo Tryz.prog 87 [.ptr 1000 0] [(1000, .cells 85 [c0, s])] [] j0 [(1000, .cells 85 [.ptr 1000 0, s])] [] := by
  refine ⟨⟨_, Tryz.func87, by kernel_rfl, by kernel_rfl⟩, fun G w vs hw hargs hbx _ => ?_⟩
  obtain ⟨u, us', rfl, ⟨blk, ho, rfl⟩, hnil⟩ := hargs
  simp only [RepSs] at hnil; subst hnil
  obtain ⟨blk', arr, g1, g2, g3, g4, g5⟩ := hbx (1000, .cells 85 [c0, s]) (by simp)
  simp only at g1; rw [ho] at g1; simp at g1; subst g1
  obtain ⟨v0, v1, rfl, r0, r1⟩ := two_of g4
  have hc0 : w.cell? ⟨blk, 0, none⟩ = some v0 := by rw [Lib.cell_of_heap g2]; rfl
  have htup : ∀ (G : Gh) (w : World), RepS G w j0 (.tuple #[]) := fun G w => by simp only [RepS, Rep]; exact ⟨#[], rfl, by simp [RepL]⟩
  rcases hc with rfl | rfl
  · simp only [RepS, Rep] at r0
    obtain ⟨rfl, _⟩ := r0
    have hlt := hw.lt _ _ ho
    refine (copyCheck_fresh blk w hc0 (by simp [World.shape?, g2]) (Lib.frozen_of_heap g2 0)).mono ?_
    rintro e w' ⟨rfl, rfl⟩
    have hh : (w.setCell ⟨blk, 0, none⟩ (.pointer (some ⟨blk, 0, none⟩))).heap[blk]? = some (.cells #[.pointer (some ⟨blk, 0, none⟩), v1] 85 (0, 0)) := by
      simp [World.setCell, Array.getElem?_modify, g2]
    obtain ⟨s1, s2, s3⟩ := step_owned (w' := w.setCell ⟨blk, 0, none⟩ (.pointer (some ⟨blk, 0, none⟩))) hw ho g3 (by simp [World.setCell]) rfl rfl rfl (fun k hk => by simp [World.setCell, Array.getElem?_modify, Ne.symm hk])
    refine ⟨.tuple #[], G, rfl, s1, s2, htup _ _, fun p hp => ?_, fun i hi => s3 (i, 0) (by intro e; apply hi; have := congrArg Prod.fst e; simp at this; subst this; simp), fun _ => rfl, fun _ => rfl⟩
    simp at hp; subst hp
    refine ⟨blk, _, ho, hh, g3, ⟨_, _, rfl, ⟨blk, ho, rfl⟩, _, [], rfl, r1.persist s1.toExt (fun _ _ => rfl), rfl⟩, ?_⟩
    intro x hx
    simp at hx g5
    rcases hx with rfl | rfl
    · rfl
    · exact g5.2
  · obtain ⟨blk2, ho2, rfl⟩ := r0
    rw [ho] at ho2; simp at ho2; subst ho2
    refine (copyCheck_used blk w hc0).mono ?_
    rintro e w' ⟨rfl, rfl⟩
    refine ⟨.tuple #[], G, rfl, Step.refl _ _, hw, htup _ _, fun p hp => ?_, fun i hi => ⟨rfl, fun _ _ => ⟨rfl, rfl⟩⟩, fun _ => rfl, fun _ => rfl⟩
    simp at hp; subst hp
    exact ⟨blk, _, ho, g2, g3, g4, g5⟩
theorem copyCheck_son (s : SV) (hs : s.keys = []) : CallTo Tryz.prog 87 [.ptr 1000 0] [(1000, .cells 85 [.son 1000, s])] [] j0 [(1000, .cells 85 [.son 1000, s])] [] := by
  have hn := copyCheck_to (.av (.val (.pointer none))) s (.inl rfl) hs
  have hp := copyCheck_to (.ptr 1000 0) s (.inr rfl) hs
  refine ⟨hn.1, fun G w vs hw hargs hbx hg => ?_⟩
  have hb0 := hbx (1000, .cells 85 [.son 1000, s]) (by simp)
  obtain ⟨blk', arr, g1, g2, g3, g4, g5⟩ := hb0
  obtain ⟨v0, v1, rfl, r0, r1⟩ := two_of g4
  have post : Calls Tryz.prog 87 vs.toArray w (fun e w' => ∃ v G', e = .returned v ∧ Step G w G' w' ∧ Wf G' w' ∧ RepS G' w' j0 v ∧ (∀ p ∈ [(1000, ABox.cells 85 [.ptr 1000 0, s])], RepB G' w' p.1 p.2) ∧
      (∀ i : Nat, i ∉ [(1000, ABox.cells 85 [.ptr 1000 0, s])].map (·.1) → Keep G w G' w' (i, 0)) ∧ (∀ i, G'.ow (i, 0) = G.ow (i, 0)) ∧ ∀ κ : Key, G'.gen κ = (([] : List (Key × Nat)).lookup κ).getD (G.gen κ)) := by
    rcases r0 with rfl | ⟨blk, h1, rfl⟩
    · exact hn.2 G w vs hw hargs (fun p hp => by simp at hp; subst hp; exact ⟨blk', _, g1, g2, g3, ⟨_, _, rfl, by simp only [RepS, Rep]; exact ⟨trivial, rfl⟩, _, [], rfl, r1, rfl⟩, g5⟩) hg
    · exact hp.2 G w vs hw hargs (fun p hp => by simp at hp; subst hp; exact ⟨blk', _, g1, g2, g3, ⟨_, _, rfl, ⟨blk, h1, rfl⟩, _, [], rfl, r1, rfl⟩, g5⟩) hg
  refine post.mono ?_
  rintro e w' ⟨v, G', q1, q2, q3, q4, q5, q6, q7, q8⟩
  refine ⟨v, G', q1, q2, q3, q4, fun p hp => ?_, q6, q7, q8⟩
  simp at hp; subst hp
  obtain ⟨b2, arr2, e1, e2, e3, e4, e5⟩ := q5 (1000, .cells 85 [.ptr 1000 0, s]) (by simp)
  obtain ⟨u0, u1, rfl, f0, f1⟩ := two_of e4
  exact ⟨b2, _, e1, e2, e3, ⟨_, _, rfl, .inr f0, _, [], rfl, f1, rfl⟩, e5⟩
theorem RepL_bytes_eq {U : Nat → Nat} {w : World} : ∀ (l : List UInt8) (es : List Value), RepL U w (l.map (fun b => AV.val (.int .u8 b.toNat))) es → es = l.map (fun b => Value.int .u8 b.toNat)
  | [], es, h => by simpa [RepL] using h
  | b :: l, es, h => by
    simp only [List.map_cons, RepL] at h
    obtain ⟨u, us', rfl, h2, h3⟩ := h
    simp only [Rep] at h2
    rw [h2.1, RepL_bytes_eq l us' h3]; rfl
theorem String_to (c0 : SV) (k : Nat) (g : Nat) (s : ByteArray) (h0 : 0 < s.size) (h63 : s.size ≤ 9223372036854775807) :
    CallTo Tryz.prog 43 [.ptr 1000 0] [(1000, .cells 85 [c0, .own (k, 6) g 1 (bytesAV s)])] [((k, 6), g)] (.av (.val (.string s))) [(1000, .cells 85 [c0, .av (.sl (bytesAV s))])] [((k, 6), g + 1)] := by
  refine ⟨⟨_, Tryz.func43, by kernel_rfl, by kernel_rfl⟩, fun G w vs hw hargs hbx hgn => ?_⟩
  obtain ⟨u, us', rfl, ⟨blk, ho, rfl⟩, hnil⟩ := hargs
  simp only [RepSs] at hnil; subst hnil
  obtain ⟨blk', arr, g1, g2, g3, g4, g5⟩ := hbx (1000, .cells 85 [c0, .own (k, 6) g 1 (bytesAV s)]) (by simp)
  simp only at g1; rw [ho] at g1; simp at g1; subst g1
  have hgen : G.gen (k, 6) = g := hgn ((k, 6), g) (by simp)
  obtain ⟨v0, v1, rfl, r0, r1⟩ := two_of g4
  have rsl := r1.own_sl
  obtain ⟨_, _, a, cap, es, rfl, q2, q3, q4, qn, qsp, q5, q6⟩ := r1
  have hlen : (bytesAV s).length = s.size := by simp [bytesAV]
  have hes := RepL_bytes_eq s.data.toList es q2
  have hvc : vcells es = es := vcells_one es (fun v hv => by rw [hes] at hv; simp at hv; obtain ⟨b, _, rfl⟩ := hv; rfl)
  rcases q6 hgen with ⟨rfl, _⟩ | ⟨gb, off, cur, e, rfl, o1, o2, o3, o4, rfl, o5⟩
  · have := qn rfl
    rw [this] at hes
    have h1 := congrArg List.length hes
    rw [List.length_map, show s.data.toList.length = s.size by simp] at h1
    simp only [List.length_nil] at h1
    exact absurd h1.symm (Nat.ne_of_gt h0)
  · have he : e = 5 := by simpa using o5
    subst he
    have hne : gb ≠ blk := fun h => by
      have := hw.inj (k, 6) (1000, 0) blk (by rw [← h]; exact o1) ho
      simp at this
    have hl0 : s.data.toList ≠ [] := by intro h; have h1 := congrArg List.length h; rw [show s.data.toList.length = s.size by simp] at h1; simp only [List.length_nil] at h1; exact absurd h1 (Nat.ne_of_gt h0)
    have hll : s.data.toList.length = s.size := by simp
    refine (String_calls blk gb (bytesAV s).length cap v0 cur s.data.toList w hl0 (by rw [hlen, hll]) (by rw [hll, ← hlen]; exact q4) (by rw [hll]; simp only [Nat.zero_add, Nat.mul_one] at o3; rw [hlen] at q4; exact Nat.le_trans q4 o3) (by rw [hll]; exact h63) g2 o2 (fun j x hx => ?_)).mono ?_
    · rcases q5 with h | ⟨b', off', h1, h2, h3⟩
      · rw [hvc, hes] at h; simp at h; exact absurd h (by simpa using hl0)
      · simp at h1; obtain ⟨rfl, rfl⟩ := h1
        have := (h3 j (.int .u8 x.toNat) (by rw [hvc, hes]; simp [hx])).1
        simpa using this
    · rintro e w' ⟨rfl, hh, hos, htp, hout⟩
      have hfz : w'.heap = w.heap.modify gb (fun | .cells c elem (lo, hi) => .cells c elem (if lo == hi then (0, 0 + s.data.toList.length) else (min lo 0, max hi (0 + s.data.toList.length))) | o => o) := by
        rw [hh]; unfold World.freeze; rw [if_neg (by rw [hll]; omega)]; rfl
      have hoth : ∀ i, i ≠ gb → w'.heap[i]? = w.heap[i]? := fun i hi => by rw [hfz, Array.getElem?_modify, if_neg (Ne.symm hi)]
      have hsize : w'.heap.size = w.heap.size := by rw [hfz]; simp
      obtain ⟨fz, hgb⟩ : ∃ fz, w'.heap[gb]? = some (.cells cur 5 fz) := by rw [hfz, Array.getElem?_modify, if_pos rfl, o2]; exact ⟨_, rfl⟩
      have hcell : ∀ b o, w'.cell? ⟨b, o, none⟩ = w.cell? ⟨b, o, none⟩ := fun b o => by
        by_cases hb : b = gb
        · subst hb; simp [World.cell?, hgb, o2]
        · exact cell_of_heap (hoth b hb) o
      have himm : Imm G.U w w' := ⟨fun b o _ => hcell b o, fun b es' cl _ hm => by
        have : b ≠ gb := by intro h; subst h; rw [o2] at hm; simp at hm
        rw [hoth b this]; exact hm⟩
      have hkp : ∀ κ, κ ≠ (k, 6) → Keep G w { G with gen := fun κ => if κ = (k, 6) then G.gen κ + 1 else G.gen κ } w' κ := fun κ hκ => ⟨rfl, fun b hb => ⟨hoth b (fun h => by subst h; exact hκ (hw.inj κ (k, 6) b hb o1)), rfl⟩⟩
      have hext : Ext G w { G with gen := fun κ => if κ = (k, 6) then G.gen κ + 1 else G.gen κ } w' := by
        refine ⟨fun _ => Nat.le_refl _, himm, by omega, hos, htp, hout, fun κ => ?_, fun κ _ hg => hkp κ (fun h => ?_)⟩
        · simp only; split <;> omega
        · subst h; simp at hg
      refine ⟨.string ⟨s.data.toList.toArray⟩, { G with gen := fun κ => if κ = (k, 6) then G.gen κ + 1 else G.gen κ }, rfl, ⟨hext, fun b _ hn => ⟨hoth b (fun h => hn (k, 6) (by rw [h]; exact o1)), rfl⟩, fun κ b h => .inl ⟨κ, h⟩⟩,
        ⟨hw.inj, fun κ b h => by rw [hsize]; exact hw.lt κ b h, fun b hb => hw.zero b (by omega)⟩, ?_, fun p hp => ?_, fun i hi => hkp (i, 0) (by simp), fun _ => rfl, fun κ => ?_⟩
      · simp only [RepS, Rep]; exact ⟨by simp, rfl⟩
      · simp at hp; subst hp
        refine ⟨blk, _, ho, by rw [hoth blk (Ne.symm hne)]; exact g2, g3, ⟨_, _, rfl, r0.persist hext (fun κ hκ => ?_), _, [], rfl, Rep.mono (fun _ => Nat.le_refl _) himm _ _ rsl, rfl⟩, g5⟩
        rfl
      · simp only [List.lookup_cons, List.lookup_nil]
        by_cases hk : κ = (k, 6)
        · subst hk; simp [hgen]
        · have : (κ == (k, 6)) = false := by simpa using hk
          simp [this, hk]
end Go.Proofs.YtdaglbjgdakmcaaGreat
namespace Go.Proofs.YtdaglbjgdakmcaaGreat
open Go Go.Eng
set_option maxRecDepth 100000 in
set_option maxHeartbeats 2000000 in
theorem WriteString_to (σ : WS) (s : ByteArray) (hsz : (wput s σ).1.size ≤ 1000000000) : CallTo Tryz.prog 62 [(.ptr 1000 0), (jS (s))] [(1000, (.cells 85 [(.son 1000), (.own (1300, 6) ((σ).2) 1 (bytesAV ((σ).1)))]))] [((1300, 6), (σ).2)] (.av (.tup [.val (.int .i64 ((ByteArray.size s : Nat) : Int)), .val .nilIface])) [(1000, (.cells 85 [(.son 1000), (.own (1300, 6) ((wput s σ).2) 1 (bytesAV ((wput s σ).1)))]))] [((1300, 6), (wput s σ).2)] := by
  rw [wput_size] at hsz
  refine CallTo_of_body (n := 19) Tryz.func62 rfl (by kernel_rfl) Tryz.ntmps62 (by simp) (by simp) (by simp) (by simp [OkSV, SV.keys, ABox.svs, PV.keys]) (by simp [OkSV, SV.keys, ABox.svs, PV.keys]) (by simp [OkSV, SV.keys, ABox.svs, PV.keys]) (by simp [OkSV, SV.keys, ABox.svs, PV.keys]) rfl rfl ?_
  refine W_eq (sx 19 [(0, (.ptr 1000 0)), (1, (jS (s)))] [(1000, (.cells 85 [(.son 1000), (.own (1300, 6) ((σ).2) 1 (bytesAV ((σ).1)))]))] [((1300, 6), (σ).2)]) (by kernel_rfl) ?_
  refine WN ?_
  refine GO (tn 3 (kg (show CallTo Tryz.prog 87 [(.ptr 1000 0)] [(1000, (.cells 85 [(.son 1000), (.own (1300, 6) ((σ).2) 1 (bytesAV ((σ).1)))]))] [] j0 [(1000, (.cells 85 [(.son 1000), (.own (1300, 6) ((σ).2) 1 (bytesAV ((σ).1)))]))] [] from (copyCheck_son _ rfl)) trivial (tn 6 (kp (show ((σ).2 : Nat) = (σ).2 ∧ Uni 1 (bytesAV (s)) ∧ (((bytesAV ((σ).1)) : List AV).length + ((bytesAV (s)) : List AV).length) * 1 ≤ 140737488355328 from ⟨rfl, bytes_uni _, by simp only [bytes_len]; omega⟩) (kw (show (((bytesAV ((σ).1)) ++ (bytesAV (s))) : List AV) = _ from rfl) (tn 7 z)))))) (by kernel_rfl) ?_
  exact LEAF .ret (S2 := (sx 19 [(4, (jI (((ByteArray.size (s) : Nat) : Int)))), (5, (.av (.val (.nilIface))))] [(1000, (.cells 85 [(.son 1000), (.own (1300, 6) ((σ).2 + 1) 1 ((bytesAV ((σ).1)) ++ (bytesAV (s))))]))] [((1300, 6), (σ).2 + 1)])) (by kernel_rfl) (WK (by kernel_rfl)) (ends (r := (.av (.tup [(vI (((ByteArray.size (s) : Nat) : Int))), (.val (.nilIface))]))) (by simp) (by kernel_rfl) rfl (by simp [sx, List.lookup_cons, wput, bytes_cat]) (by simp [sx, St.gen, List.lookup_cons, wput]))
set_option maxRecDepth 100000 in
set_option maxHeartbeats 2000000 in
theorem operand_step (w : Nd → WS → WS) (hg : Grows w) (x : Nd) (b : Bool) (σ : WS) (hsz : (opB w x b σ).1.size ≤ 1000000000) (hw1 : ∀ τ, (w x τ).1.size ≤ 1000000000 → CallTo Tryz.prog 42 [(.av (nav x)), (jP 1000 0)] [(1000, (.cells 85 [(.son 1000), (.own (1300, 6) ((τ).2) 1 (bytesAV ((τ).1)))]))] [((1300, 6), (τ).2)] j0 [(1000, (.cells 85 [(.son 1000), (.own (1300, 6) ((w x τ).2) 1 (bytesAV ((w x τ).1)))]))] [((1300, 6), (w x τ).2)]) : CallTo Tryz.prog 63 [(.av (.agg [(vI (Nd.kind (x))), (vS (Nd.name (x))), (.sl (av2 (Nd.kids (x))))])), (.ptr 1000 0), (jB (b))] [(1000, (.cells 85 [(.son 1000), (.own (1300, 6) ((σ).2) 1 (bytesAV ((σ).1)))]))] [((1300, 6), (σ).2)] j0 [(1000, (.cells 85 [(.son 1000), (.own (1300, 6) ((opB w x b σ).2) 1 (bytesAV ((opB w x b σ).1)))]))] [((1300, 6), (opB w x b σ).2)] := by
  refine CallTo_of_body (n := 18) Tryz.func63 rfl (by kernel_rfl) Tryz.ntmps63 (by simp) (by simp) (by simp) (by simp [OkSV, SV.keys, ABox.svs, PV.keys]) (by simp [OkSV, SV.keys, ABox.svs, PV.keys]) (by simp [OkSV, SV.keys, ABox.svs, PV.keys]) (by simp [OkSV, SV.keys, ABox.svs, PV.keys]) rfl rfl ?_
  refine W_eq (sx 18 [(0, (.av (.agg [(vI (Nd.kind (x))), (vS (Nd.name (x))), (.sl (av2 (Nd.kids (x))))]))), (1, (.ptr 1000 0)), (2, (jB (b)))] [(1000, (.cells 85 [(.son 1000), (.own (1300, 6) ((σ).2) 1 (bytesAV ((σ).1)))]))] [((1300, 6), (σ).2)]) (by kernel_rfl) ?_
  refine WN ?_
  refine GO (tn 3 z) (by kernel_rfl) ?_
  rcases Bool.eq_false_or_eq_true ((!b)) with hb1 | hb1
  · have hb1n : b = false := by simpa using hb1
    have hq : (opB w x b σ) = w x σ := by rw [opB, hb1n]; rfl
    rw [hq] at hsz
    refine GO (kb hb1 (tn 2 (kg (hw1 (σ) (by first | assumption | omega)) (show ((σ).2 : Nat) = (σ).2 ∧ True from ⟨rfl, trivial⟩) z))) (by kernel_rfl) ?_
    have hF : opB w x b σ = w (x) (σ) := by rw [opB, hb1n]; rfl
    exact LEAF .ret (S2 := (sx 18 [] [(1000, (.cells 85 [(.son 1000), (.own (1300, 6) ((w (x) (σ)).2) 1 (bytesAV ((w (x) (σ)).1)))]))] [((1300, 6), (w (x) (σ)).2)])) (by kernel_rfl) (WK (by kernel_rfl)) (ends (r := j0) (by simp) (by kernel_rfl) rfl (by rw [hF]; simp [sx, List.lookup_cons]) (by rw [hF]; simp [sx, St.gen, List.lookup_cons]))
  · have hb1n : b = true := by simpa using hb1
    have hq : (opB w x b σ) = wput ⟨#[41]⟩ (w x (wput ⟨#[40]⟩ σ)) := by rw [opB, hb1n]; rfl
    rw [hq] at hsz
    have h1 := hg x (wput ⟨#[40]⟩ σ)
    have h2 := wput_size ⟨#[41]⟩ (w x (wput ⟨#[40]⟩ σ))
    refine GO (kb hb1 (tn 1 (kg (WriteString_to (σ) (⟨#[40]⟩) (by first | assumption | omega)) (show ((σ).2 : Nat) = (σ).2 ∧ True from ⟨rfl, trivial⟩) (tn 2 (kg (hw1 (wput (⟨#[40]⟩) (σ)) (by first | assumption | omega)) (show ((wput (⟨#[40]⟩) (σ)).2 : Nat) = (wput (⟨#[40]⟩) (σ)).2 ∧ True from ⟨rfl, trivial⟩) (tn 1 (kg (WriteString_to (w (x) (wput (⟨#[40]⟩) (σ))) (⟨#[41]⟩) (by first | assumption | omega)) (show ((w (x) (wput (⟨#[40]⟩) (σ))).2 : Nat) = (w (x) (wput (⟨#[40]⟩) (σ))).2 ∧ True from ⟨rfl, trivial⟩) z))))))) (by kernel_rfl) ?_
    have hF : opB w x b σ = wput (⟨#[41]⟩) (w (x) (wput (⟨#[40]⟩) (σ))) := by rw [opB, hb1n]; rfl
    exact LEAF .normal (S2 := (sx 18 [] [(1000, (.cells 85 [(.son 1000), (.own (1300, 6) ((wput (⟨#[41]⟩) (w (x) (wput (⟨#[40]⟩) (σ)))).2) 1 (bytesAV ((wput (⟨#[41]⟩) (w (x) (wput (⟨#[40]⟩) (σ)))).1)))]))] [((1300, 6), (wput (⟨#[41]⟩) (w (x) (wput (⟨#[40]⟩) (σ)))).2)])) (by kernel_rfl) (WK (by kernel_rfl)) (ends (r := j0) (by simp) (by kernel_rfl) rfl (by rw [hF]; simp [sx, List.lookup_cons]) (by rw [hF]; simp [sx, St.gen, List.lookup_cons]))
set_option maxRecDepth 100000 in
set_option maxHeartbeats 2000000 in
theorem write_step (w : Nd → WS → WS) (hg : Grows w) (x : Nd) (σ : WS) (hk : x.kind = 3 → 1 ≤ x.kids.length) (hl : x.kids.length ≤ 1000000) (hsz : (wrB w x σ).1.size ≤ 1000000000) (hrec : ∀ i τ, i < x.kids.length → (w (ndth x.kids i) τ).1.size ≤ 1000000000 → CallTo Tryz.prog 42 [(.av (nav (ndth x.kids i))), (jP 1000 0)] [(1000, (.cells 85 [(.son 1000), (.own (1300, 6) ((τ).2) 1 (bytesAV ((τ).1)))]))] [((1300, 6), (τ).2)] j0 [(1000, (.cells 85 [(.son 1000), (.own (1300, 6) ((w (ndth x.kids i) τ).2) 1 (bytesAV ((w (ndth x.kids i) τ).1)))]))] [((1300, 6), (w (ndth x.kids i) τ).2)]) (hop : ∀ i b τ, i < x.kids.length → (opB w (ndth x.kids i) b τ).1.size ≤ 1000000000 → CallTo Tryz.prog 63 [(.av (nav (ndth x.kids i))), (jP 1000 0), (jB b)] [(1000, (.cells 85 [(.son 1000), (.own (1300, 6) ((τ).2) 1 (bytesAV ((τ).1)))]))] [((1300, 6), (τ).2)] j0 [(1000, (.cells 85 [(.son 1000), (.own (1300, 6) ((opB w (ndth x.kids i) b τ).2) 1 (bytesAV ((opB w (ndth x.kids i) b τ).1)))]))] [((1300, 6), (opB w (ndth x.kids i) b τ).2)]) : CallTo Tryz.prog 42 [(.av (.agg [(vI (Nd.kind (x))), (vS (Nd.name (x))), (.sl (av2 (Nd.kids (x))))])), (.ptr 1000 0)] [(1000, (.cells 85 [(.son 1000), (.own (1300, 6) ((σ).2) 1 (bytesAV ((σ).1)))]))] [((1300, 6), (σ).2)] j0 [(1000, (.cells 85 [(.son 1000), (.own (1300, 6) ((wrB w x σ).2) 1 (bytesAV ((wrB w x σ).1)))]))] [((1300, 6), (wrB w x σ).2)] := by
  have hml := av2_len x.kids
  refine CallTo_of_body (n := 81) Tryz.func42 rfl (by kernel_rfl) Tryz.ntmps42 (by simp) (by simp) (by simp) (by simp [OkSV, SV.keys, ABox.svs, PV.keys]) (by simp [OkSV, SV.keys, ABox.svs, PV.keys]) (by simp [OkSV, SV.keys, ABox.svs, PV.keys]) (by simp [OkSV, SV.keys, ABox.svs, PV.keys]) rfl rfl ?_
  refine W_eq (sx 81 [(0, (.av (.agg [(vI (Nd.kind (x))), (vS (Nd.name (x))), (.sl (av2 (Nd.kids (x))))]))), (1, (.ptr 1000 0))] [(1000, (.cells 85 [(.son 1000), (.own (1300, 6) ((σ).2) 1 (bytesAV ((σ).1)))]))] [((1300, 6), (σ).2)]) (by kernel_rfl) ?_
  refine WN ?_
  refine GO (tn 5 z) (by kernel_rfl) ?_
  rcases Bool.eq_false_or_eq_true (((Nd.kind (x) : Int) == 1)) with hb1 | hb1
  · have hb1p := eq_of_beq hb1
    have hB : wrB w x σ = wrOr w x.kids 0 σ := by rw [wrB, hb1]; rfl
    rw [hB] at hsz
    refine GO (kb hb1 (tn 4 z)) (by kernel_rfl) ?_
    refine LP (I := fun N M S => ∃ i : Nat, ∃ τ : WS, (i ≤ x.kids.length) ∧ (wrOr w (x.kids.drop i) (i) (τ) = wrOr w (x.kids) (0) (σ)) ∧ N = x.kids.length - i ∧ M = () ∧ S = (sx 81 [(1, (.ptr 1000 0)), (18, (jL (av2 (Nd.kids (x))))), (19, (jI ((((av2 (Nd.kids (x))).length : Nat) : Int)))), (20, (jI (((i : Nat) : Int))))] [(1000, (.cells 85 [(.son 1000), (.own (1300, 6) ((τ).2) 1 (bytesAV ((τ).1)))]))] [((1300, 6), (τ).2)])) (n := x.kids.length - (0)) (by kernel_rfl) ⟨0, σ, Nat.zero_le _, rfl, rfl, rfl, rfl⟩ (wtr (S' := (sx 81 [(1, (.ptr 1000 0)), (18, (jL (av2 (Nd.kids (x))))), (19, (jI ((((av2 (Nd.kids (x))).length : Nat) : Int)))), (20, (jI (0)))] [(1000, (.cells 85 [(.son 1000), (.own (1300, 6) ((σ).2) 1 (bytesAV ((σ).1)))]))] [((1300, 6), (σ).2)])) (WK (by kernel_rfl)) (weak_sx (show WkX _ _ _ from ⟨rfl, rfl, rfl, (by first | rfl | (congr 3; omega) | simp), trivial⟩) (show WkBx _ _ from ⟨⟨rfl, ⟨rfl, ⟨rfl, (by omega), rfl, (by simp)⟩, trivial⟩⟩, trivial⟩) (show WkG _ _ _ from ⟨(by first | rfl | (simp; done) | (simp; omega)), (by first | rfl | (simp; done) | (simp; omega)), trivial⟩))) ?_
    rintro N M S ⟨i, τ, hi, hE, rfl, rfl, rfl⟩
    have hm := wrOr_grows hg (x.kids.drop i) i τ
    rw [hE] at hm
    refine GO (tn 1 z) (by kernel_rfl) ?_
    rcases Bool.eq_false_or_eq_true (decide ((((i : Nat) : Int) : Int) < (((av2 (Nd.kids (x))).length : Nat) : Int))) with hb2 | hb2
    · have hb2p := of_decide_eq_true hb2
      have hm2 := wrOr_grows hg (x.kids.drop (i + 1)) (i + 1) (w (ndth x.kids i) (if 0 < i then wput ⟨#[32, 111, 114, 32]⟩ τ else τ))
      rw [← wrOr_step w x.kids i τ (by omega), hE] at hm2
      refine GO (kb hb2 (tn 1 (ke (show 0 ≤ (((i : Nat) : Int) : Int) ∧ ((av2 (Nd.kids (x))) : List AV)[i]? = some (.agg [(vI (Nd.kind (ndth (Nd.kids (x)) (i)))), (vS (Nd.name (ndth (Nd.kids (x)) (i)))), (.sl (av2 (Nd.kids (ndth (Nd.kids (x)) (i)))))]) from (av2_at (i := i) (by omega))) (tn 6 z)))) (by kernel_rfl) ?_
      rcases Bool.eq_false_or_eq_true (decide ((((i : Nat) : Int) : Int) > 0)) with hb3 | hb3
      · have hb3p := of_decide_eq_true hb3
        rw [if_pos (by omega)] at hm2
        have hm3 := hg (ndth x.kids i) (wput ⟨#[32, 111, 114, 32]⟩ τ)
        refine GO (kb hb3 (tn 1 (kg (WriteString_to (τ) (⟨#[32, 111, 114, 32]⟩) (by first | assumption | omega)) (show ((τ).2 : Nat) = (τ).2 ∧ True from ⟨rfl, trivial⟩) (tn 2 (kg (hrec ((i)) (wput (⟨#[32, 111, 114, 32]⟩) (τ)) (by omega) (by first | assumption | omega)) (show ((wput (⟨#[32, 111, 114, 32]⟩) (τ)).2 : Nat) = (wput (⟨#[32, 111, 114, 32]⟩) (τ)).2 ∧ True from ⟨rfl, trivial⟩) (kn (wrE ((((i : Nat) : Int)) + 1) (((i + 1 : Nat) : Int)) (by omega)) (tn 1 z))))))) (by kernel_rfl) ?_
        exact AG (m := x.kids.length - (i + 1)) ⟨i + 1, w (ndth (Nd.kids (x)) (i)) (wput (⟨#[32, 111, 114, 32]⟩) (τ)), by omega, by rw [← hE, wrOr_step w x.kids i τ (by omega), if_pos (by omega)], rfl, rfl, rfl⟩ (wtr (S' := (sx 81 [(1, (.ptr 1000 0)), (18, (jL (av2 (Nd.kids (x))))), (19, (jI ((((av2 (Nd.kids (x))).length : Nat) : Int)))), (20, (jI (((i + 1 : Nat) : Int))))] [(1000, (.cells 85 [(.son 1000), (.own (1300, 6) ((w (ndth (Nd.kids (x)) (i)) (wput (⟨#[32, 111, 114, 32]⟩) (τ))).2) 1 (bytesAV ((w (ndth (Nd.kids (x)) (i)) (wput (⟨#[32, 111, 114, 32]⟩) (τ))).1)))]))] [((1300, 6), (w (ndth (Nd.kids (x)) (i)) (wput (⟨#[32, 111, 114, 32]⟩) (τ))).2)])) (WK (by kernel_rfl)) (weak_sx (show WkX _ _ _ from ⟨rfl, rfl, rfl, (by first | rfl | (congr 3; omega) | simp), trivial⟩) (show WkBx _ _ from ⟨⟨rfl, ⟨rfl, ⟨rfl, (by omega), rfl, (by simp)⟩, trivial⟩⟩, trivial⟩) (show WkG _ _ _ from ⟨(by first | rfl | (simp; done) | (simp; omega)), (by first | rfl | (simp; done) | (simp; omega)), trivial⟩))) (by kernel_rfl) (by omega)
      · have hb3p := of_decide_eq_false hb3
        rw [if_neg (by omega)] at hm2
        refine GO (kb hb3 (tn 2 (kg (hrec ((i)) (τ) (by omega) (by first | assumption | omega)) (show ((τ).2 : Nat) = (τ).2 ∧ True from ⟨rfl, trivial⟩) (kn (wrE ((((i : Nat) : Int)) + 1) (((i + 1 : Nat) : Int)) (by omega)) (tn 1 z))))) (by kernel_rfl) ?_
        exact AG (m := x.kids.length - (i + 1)) ⟨i + 1, w (ndth (Nd.kids (x)) (i)) (τ), by omega, by rw [← hE, wrOr_step w x.kids i τ (by omega), if_neg (by omega)], rfl, rfl, rfl⟩ (wtr (S' := (sx 81 [(1, (.ptr 1000 0)), (18, (jL (av2 (Nd.kids (x))))), (19, (jI ((((av2 (Nd.kids (x))).length : Nat) : Int)))), (20, (jI (((i + 1 : Nat) : Int))))] [(1000, (.cells 85 [(.son 1000), (.own (1300, 6) ((w (ndth (Nd.kids (x)) (i)) (τ)).2) 1 (bytesAV ((w (ndth (Nd.kids (x)) (i)) (τ)).1)))]))] [((1300, 6), (w (ndth (Nd.kids (x)) (i)) (τ)).2)])) (WK (by kernel_rfl)) (weak_sx (show WkX _ _ _ from ⟨rfl, rfl, rfl, (by first | rfl | (congr 3; omega) | simp), trivial⟩) (show WkBx _ _ from ⟨⟨rfl, ⟨rfl, ⟨rfl, (by omega), rfl, (by simp)⟩, trivial⟩⟩, trivial⟩) (show WkG _ _ _ from ⟨(by first | rfl | (simp; done) | (simp; omega)), (by first | rfl | (simp; done) | (simp; omega)), trivial⟩))) (by kernel_rfl) (by omega)
    · have hb2p := of_decide_eq_false hb2
      refine GO (kb hb2 z) (by kernel_rfl) ?_
      refine OUT z (by kernel_rfl) ?_
      have hF : wrB w x σ = τ := by rw [hB, ← hE, wrOr_end w x.kids i i τ (by omega)]
      exact LEAF .normal (S2 := (sx 81 [] [(1000, (.cells 85 [(.son 1000), (.own (1300, 6) ((τ).2) 1 (bytesAV ((τ).1)))]))] [((1300, 6), (τ).2)])) (by kernel_rfl) (WK (by kernel_rfl)) (ends (r := j0) (by simp) (by kernel_rfl) rfl (by rw [hF]; simp [sx, List.lookup_cons]) (by rw [hF]; simp [sx, St.gen, List.lookup_cons]))
  · have hb1p := ne_of_beq_false hb1
    refine GO (kb hb1 (tn 2 z)) (by kernel_rfl) ?_
    rcases Bool.eq_false_or_eq_true (((Nd.kind (x) : Int) == 2)) with hb4 | hb4
    · have hb4p := eq_of_beq hb4
      have hB : wrB w x σ = wrAnd w x.kids 0 σ := by simp only [wrB, hb4]; simp [*]
      rw [hB] at hsz
      refine GO (kb hb4 (tn 4 z)) (by kernel_rfl) ?_
      refine LP (I := fun N M S => ∃ i : Nat, ∃ τ : WS, (i ≤ x.kids.length) ∧ (wrAnd w (x.kids.drop i) (i) (τ) = wrAnd w (x.kids) (0) (σ)) ∧ N = x.kids.length - i ∧ M = () ∧ S = (sx 81 [(1, (.ptr 1000 0)), (36, (jL (av2 (Nd.kids (x))))), (37, (jI ((((av2 (Nd.kids (x))).length : Nat) : Int)))), (38, (jI (((i : Nat) : Int))))] [(1000, (.cells 85 [(.son 1000), (.own (1300, 6) ((τ).2) 1 (bytesAV ((τ).1)))]))] [((1300, 6), (τ).2)])) (n := x.kids.length - (0)) (by kernel_rfl) ⟨0, σ, Nat.zero_le _, rfl, rfl, rfl, rfl⟩ (wtr (S' := (sx 81 [(1, (.ptr 1000 0)), (36, (jL (av2 (Nd.kids (x))))), (37, (jI ((((av2 (Nd.kids (x))).length : Nat) : Int)))), (38, (jI (0)))] [(1000, (.cells 85 [(.son 1000), (.own (1300, 6) ((σ).2) 1 (bytesAV ((σ).1)))]))] [((1300, 6), (σ).2)])) (WK (by kernel_rfl)) (weak_sx (show WkX _ _ _ from ⟨rfl, rfl, rfl, (by first | rfl | (congr 3; omega) | simp), trivial⟩) (show WkBx _ _ from ⟨⟨rfl, ⟨rfl, ⟨rfl, (by omega), rfl, (by simp)⟩, trivial⟩⟩, trivial⟩) (show WkG _ _ _ from ⟨(by first | rfl | (simp; done) | (simp; omega)), (by first | rfl | (simp; done) | (simp; omega)), trivial⟩))) ?_
      rintro N M S ⟨i, τ, hi, hE, rfl, rfl, rfl⟩
      have hm := wrAnd_grows hg (x.kids.drop i) i τ
      rw [hE] at hm
      refine GO (tn 1 z) (by kernel_rfl) ?_
      rcases Bool.eq_false_or_eq_true (decide ((((i : Nat) : Int) : Int) < (((av2 (Nd.kids (x))).length : Nat) : Int))) with hb5 | hb5
      · have hb5p := of_decide_eq_true hb5
        have hm2 := wrAnd_grows hg (x.kids.drop (i + 1)) (i + 1) (opB w (ndth x.kids i) ((ndth x.kids i).kind == 1) (if 0 < i then wput ⟨#[32, 97, 110, 100, 32]⟩ τ else τ))
        rw [← wrAnd_step w x.kids i τ (by omega), hE] at hm2
        refine GO (kb hb5 (tn 1 (ke (show 0 ≤ (((i : Nat) : Int) : Int) ∧ ((av2 (Nd.kids (x))) : List AV)[i]? = some (.agg [(vI (Nd.kind (ndth (Nd.kids (x)) (i)))), (vS (Nd.name (ndth (Nd.kids (x)) (i)))), (.sl (av2 (Nd.kids (ndth (Nd.kids (x)) (i)))))]) from (av2_at (i := i) (by omega))) (tn 6 z)))) (by kernel_rfl) ?_
        rcases Bool.eq_false_or_eq_true (decide ((((i : Nat) : Int) : Int) > 0)) with hb6 | hb6
        · have hb6p := of_decide_eq_true hb6
          rw [if_pos (by omega)] at hm2
          have hm3 := opB_grows hg (ndth x.kids i) ((ndth x.kids i).kind == 1) (wput ⟨#[32, 97, 110, 100, 32]⟩ τ)
          refine GO (kb hb6 (tn 1 (kg (WriteString_to (τ) (⟨#[32, 97, 110, 100, 32]⟩) (by first | assumption | omega)) (show ((τ).2 : Nat) = (τ).2 ∧ True from ⟨rfl, trivial⟩) (tn 5 (kg (hop ((i)) (((Nd.kind (ndth (Nd.kids (x)) (i)) : Int) == 1)) (wput (⟨#[32, 97, 110, 100, 32]⟩) (τ)) (by omega) (by first | assumption | omega)) (show ((wput (⟨#[32, 97, 110, 100, 32]⟩) (τ)).2 : Nat) = (wput (⟨#[32, 97, 110, 100, 32]⟩) (τ)).2 ∧ True from ⟨rfl, trivial⟩) (kn (wrE ((((i : Nat) : Int)) + 1) (((i + 1 : Nat) : Int)) (by omega)) (tn 1 z))))))) (by kernel_rfl) ?_
          exact AG (m := x.kids.length - (i + 1)) ⟨i + 1, opB w (ndth (Nd.kids (x)) (i)) (((Nd.kind (ndth (Nd.kids (x)) (i)) : Int) == 1)) (wput (⟨#[32, 97, 110, 100, 32]⟩) (τ)), by omega, by rw [← hE, wrAnd_step w x.kids i τ (by omega), if_pos (by omega)], rfl, rfl, rfl⟩ (wtr (S' := (sx 81 [(1, (.ptr 1000 0)), (36, (jL (av2 (Nd.kids (x))))), (37, (jI ((((av2 (Nd.kids (x))).length : Nat) : Int)))), (38, (jI (((i + 1 : Nat) : Int))))] [(1000, (.cells 85 [(.son 1000), (.own (1300, 6) ((opB w (ndth (Nd.kids (x)) (i)) (((Nd.kind (ndth (Nd.kids (x)) (i)) : Int) == 1)) (wput (⟨#[32, 97, 110, 100, 32]⟩) (τ))).2) 1 (bytesAV ((opB w (ndth (Nd.kids (x)) (i)) (((Nd.kind (ndth (Nd.kids (x)) (i)) : Int) == 1)) (wput (⟨#[32, 97, 110, 100, 32]⟩) (τ))).1)))]))] [((1300, 6), (opB w (ndth (Nd.kids (x)) (i)) (((Nd.kind (ndth (Nd.kids (x)) (i)) : Int) == 1)) (wput (⟨#[32, 97, 110, 100, 32]⟩) (τ))).2)])) (WK (by kernel_rfl)) (weak_sx (show WkX _ _ _ from ⟨rfl, rfl, rfl, (by first | rfl | (congr 3; omega) | simp), trivial⟩) (show WkBx _ _ from ⟨⟨rfl, ⟨rfl, ⟨rfl, (by omega), rfl, (by simp)⟩, trivial⟩⟩, trivial⟩) (show WkG _ _ _ from ⟨(by first | rfl | (simp; done) | (simp; omega)), (by first | rfl | (simp; done) | (simp; omega)), trivial⟩))) (by kernel_rfl) (by omega)
        · have hb6p := of_decide_eq_false hb6
          rw [if_neg (by omega)] at hm2
          refine GO (kb hb6 (tn 5 (kg (hop ((i)) (((Nd.kind (ndth (Nd.kids (x)) (i)) : Int) == 1)) (τ) (by omega) (by first | assumption | omega)) (show ((τ).2 : Nat) = (τ).2 ∧ True from ⟨rfl, trivial⟩) (kn (wrE ((((i : Nat) : Int)) + 1) (((i + 1 : Nat) : Int)) (by omega)) (tn 1 z))))) (by kernel_rfl) ?_
          exact AG (m := x.kids.length - (i + 1)) ⟨i + 1, opB w (ndth (Nd.kids (x)) (i)) (((Nd.kind (ndth (Nd.kids (x)) (i)) : Int) == 1)) (τ), by omega, by rw [← hE, wrAnd_step w x.kids i τ (by omega), if_neg (by omega)], rfl, rfl, rfl⟩ (wtr (S' := (sx 81 [(1, (.ptr 1000 0)), (36, (jL (av2 (Nd.kids (x))))), (37, (jI ((((av2 (Nd.kids (x))).length : Nat) : Int)))), (38, (jI (((i + 1 : Nat) : Int))))] [(1000, (.cells 85 [(.son 1000), (.own (1300, 6) ((opB w (ndth (Nd.kids (x)) (i)) (((Nd.kind (ndth (Nd.kids (x)) (i)) : Int) == 1)) (τ)).2) 1 (bytesAV ((opB w (ndth (Nd.kids (x)) (i)) (((Nd.kind (ndth (Nd.kids (x)) (i)) : Int) == 1)) (τ)).1)))]))] [((1300, 6), (opB w (ndth (Nd.kids (x)) (i)) (((Nd.kind (ndth (Nd.kids (x)) (i)) : Int) == 1)) (τ)).2)])) (WK (by kernel_rfl)) (weak_sx (show WkX _ _ _ from ⟨rfl, rfl, rfl, (by first | rfl | (congr 3; omega) | simp), trivial⟩) (show WkBx _ _ from ⟨⟨rfl, ⟨rfl, ⟨rfl, (by omega), rfl, (by simp)⟩, trivial⟩⟩, trivial⟩) (show WkG _ _ _ from ⟨(by first | rfl | (simp; done) | (simp; omega)), (by first | rfl | (simp; done) | (simp; omega)), trivial⟩))) (by kernel_rfl) (by omega)
      · have hb5p := of_decide_eq_false hb5
        refine GO (kb hb5 z) (by kernel_rfl) ?_
        refine OUT z (by kernel_rfl) ?_
        have hF : wrB w x σ = τ := by rw [hB, ← hE, wrAnd_end w x.kids i i τ (by omega)]
        exact LEAF .normal (S2 := (sx 81 [] [(1000, (.cells 85 [(.son 1000), (.own (1300, 6) ((τ).2) 1 (bytesAV ((τ).1)))]))] [((1300, 6), (τ).2)])) (by kernel_rfl) (WK (by kernel_rfl)) (ends (r := j0) (by simp) (by kernel_rfl) rfl (by rw [hF]; simp [sx, List.lookup_cons]) (by rw [hF]; simp [sx, St.gen, List.lookup_cons]))
    · have hb4p := ne_of_beq_false hb4
      refine GO (kb hb4 (tn 2 z)) (by kernel_rfl) ?_
      rcases Bool.eq_false_or_eq_true (((Nd.kind (x) : Int) == 3)) with hb7 | hb7
      · have hb7p := eq_of_beq hb7
        have hB : wrB w x σ = opB w (ndth x.kids 0) ((ndth x.kids 0).kind == 1 || (ndth x.kids 0).kind == 2) (wput ⟨#[110, 111, 116, 32]⟩ σ) := by simp [wrB, *]
        rw [hB] at hsz
        have hm := opB_grows hg (ndth x.kids 0) ((ndth x.kids 0).kind == 1 || (ndth x.kids 0).kind == 2) (wput ⟨#[110, 111, 116, 32]⟩ σ)
        have hk1 := hk (by simpa using hb7)
        rcases Bool.eq_false_or_eq_true (((Nd.kind (ndth (Nd.kids (x)) (0)) : Int) == 1)) with hb8 | hb8
        · have hb8p := eq_of_beq hb8
          rw [show ((ndth x.kids 0).kind == 1) = true from hb8, Bool.true_or] at hsz hm hB
          refine GO (kb hb7 (tn 1 (kg (WriteString_to (σ) (⟨#[110, 111, 116, 32]⟩) (by first | assumption | omega)) (show ((σ).2 : Nat) = (σ).2 ∧ True from ⟨rfl, trivial⟩) (tn 2 (ke (show 0 ≤ (0 : Int) ∧ ((av2 (Nd.kids (x))) : List AV)[0]? = some (.agg [(vI (Nd.kind (ndth (Nd.kids (x)) (0)))), (vS (Nd.name (ndth (Nd.kids (x)) (0)))), (.sl (av2 (Nd.kids (ndth (Nd.kids (x)) (0)))))]) from (av2_at (i := 0) (by omega))) (tn 9 (kb hb8 (kb hb8 (kb hb8 (kb hb8 (kg (hop ((0)) (true) (wput (⟨#[110, 111, 116, 32]⟩) (σ)) (by omega) (by first | assumption | omega)) (show ((wput (⟨#[110, 111, 116, 32]⟩) (σ)).2 : Nat) = (wput (⟨#[110, 111, 116, 32]⟩) (σ)).2 ∧ True from ⟨rfl, trivial⟩) z))))))))))) (by kernel_rfl) ?_
          have hF : wrB w x σ = opB w (ndth (Nd.kids (x)) (0)) (true) (wput (⟨#[110, 111, 116, 32]⟩) (σ)) := hB
          exact LEAF .normal (S2 := (sx 81 [] [(1000, (.cells 85 [(.son 1000), (.own (1300, 6) ((opB w (ndth (Nd.kids (x)) (0)) (true) (wput (⟨#[110, 111, 116, 32]⟩) (σ))).2) 1 (bytesAV ((opB w (ndth (Nd.kids (x)) (0)) (true) (wput (⟨#[110, 111, 116, 32]⟩) (σ))).1)))]))] [((1300, 6), (opB w (ndth (Nd.kids (x)) (0)) (true) (wput (⟨#[110, 111, 116, 32]⟩) (σ))).2)])) (by kernel_rfl) (WK (by kernel_rfl)) (ends (r := j0) (by simp) (by kernel_rfl) rfl (by rw [hF]; simp [sx, List.lookup_cons]) (by rw [hF]; simp [sx, St.gen, List.lookup_cons]))
        · have hb8p := ne_of_beq_false hb8
          rw [show ((ndth x.kids 0).kind == 1) = false from hb8, Bool.false_or] at hsz hm hB
          refine GO (kb hb7 (tn 1 (kg (WriteString_to (σ) (⟨#[110, 111, 116, 32]⟩) (by first | assumption | omega)) (show ((σ).2 : Nat) = (σ).2 ∧ True from ⟨rfl, trivial⟩) (tn 2 (ke (show 0 ≤ (0 : Int) ∧ ((av2 (Nd.kids (x))) : List AV)[0]? = some (.agg [(vI (Nd.kind (ndth (Nd.kids (x)) (0)))), (vS (Nd.name (ndth (Nd.kids (x)) (0)))), (.sl (av2 (Nd.kids (ndth (Nd.kids (x)) (0)))))]) from (av2_at (i := 0) (by omega))) (tn 9 (kb hb8 (tn 1 (kb hb8 (tn 1 (kb hb8 (tn 1 (kb hb8 (kg (hop ((0)) (((Nd.kind (ndth (Nd.kids (x)) (0)) : Int) == 2)) (wput (⟨#[110, 111, 116, 32]⟩) (σ)) (by omega) (by first | assumption | omega)) (show ((wput (⟨#[110, 111, 116, 32]⟩) (σ)).2 : Nat) = (wput (⟨#[110, 111, 116, 32]⟩) (σ)).2 ∧ True from ⟨rfl, trivial⟩) z)))))))))))))) (by kernel_rfl) ?_
          have hF : wrB w x σ = opB w (ndth (Nd.kids (x)) (0)) (((Nd.kind (ndth (Nd.kids (x)) (0)) : Int) == 2)) (wput (⟨#[110, 111, 116, 32]⟩) (σ)) := hB
          exact LEAF .normal (S2 := (sx 81 [] [(1000, (.cells 85 [(.son 1000), (.own (1300, 6) ((opB w (ndth (Nd.kids (x)) (0)) (((Nd.kind (ndth (Nd.kids (x)) (0)) : Int) == 2)) (wput (⟨#[110, 111, 116, 32]⟩) (σ))).2) 1 (bytesAV ((opB w (ndth (Nd.kids (x)) (0)) (((Nd.kind (ndth (Nd.kids (x)) (0)) : Int) == 2)) (wput (⟨#[110, 111, 116, 32]⟩) (σ))).1)))]))] [((1300, 6), (opB w (ndth (Nd.kids (x)) (0)) (((Nd.kind (ndth (Nd.kids (x)) (0)) : Int) == 2)) (wput (⟨#[110, 111, 116, 32]⟩) (σ))).2)])) (by kernel_rfl) (WK (by kernel_rfl)) (ends (r := j0) (by simp) (by kernel_rfl) rfl (by rw [hF]; simp [sx, List.lookup_cons]) (by rw [hF]; simp [sx, St.gen, List.lookup_cons]))
      · have hb7p := ne_of_beq_false hb7
        refine GO (kb hb7 (tn 2 z)) (by kernel_rfl) ?_
        rcases Bool.eq_false_or_eq_true (((Nd.kind (x) : Int) == 4)) with hb9 | hb9
        · have hb9p := eq_of_beq hb9
          have hB : wrB w x σ = wput ⟨#[116, 114, 117, 101]⟩ σ := by simp [wrB, *]
          rw [hB] at hsz
          refine GO (kb hb9 (tn 1 (kg (WriteString_to (σ) (⟨#[116, 114, 117, 101]⟩) (by first | assumption | omega)) (show ((σ).2 : Nat) = (σ).2 ∧ True from ⟨rfl, trivial⟩) z))) (by kernel_rfl) ?_
          have hF : wrB w x σ = wput (⟨#[116, 114, 117, 101]⟩) (σ) := hB
          exact LEAF .normal (S2 := (sx 81 [] [(1000, (.cells 85 [(.son 1000), (.own (1300, 6) ((wput (⟨#[116, 114, 117, 101]⟩) (σ)).2) 1 (bytesAV ((wput (⟨#[116, 114, 117, 101]⟩) (σ)).1)))]))] [((1300, 6), (wput (⟨#[116, 114, 117, 101]⟩) (σ)).2)])) (by kernel_rfl) (WK (by kernel_rfl)) (ends (r := j0) (by simp) (by kernel_rfl) rfl (by rw [hF]; simp [sx, List.lookup_cons]) (by rw [hF]; simp [sx, St.gen, List.lookup_cons]))
        · have hb9p := ne_of_beq_false hb9
          refine GO (kb hb9 (tn 2 z)) (by kernel_rfl) ?_
          rcases Bool.eq_false_or_eq_true (((Nd.kind (x) : Int) == 5)) with hb10 | hb10
          · have hb10p := eq_of_beq hb10
            have hB : wrB w x σ = wput ⟨#[102, 97, 108, 115, 101]⟩ σ := by simp [wrB, *]
            rw [hB] at hsz
            refine GO (kb hb10 (tn 1 (kg (WriteString_to (σ) (⟨#[102, 97, 108, 115, 101]⟩) (by first | assumption | omega)) (show ((σ).2 : Nat) = (σ).2 ∧ True from ⟨rfl, trivial⟩) z))) (by kernel_rfl) ?_
            have hF : wrB w x σ = wput (⟨#[102, 97, 108, 115, 101]⟩) (σ) := hB
            exact LEAF .normal (S2 := (sx 81 [] [(1000, (.cells 85 [(.son 1000), (.own (1300, 6) ((wput (⟨#[102, 97, 108, 115, 101]⟩) (σ)).2) 1 (bytesAV ((wput (⟨#[102, 97, 108, 115, 101]⟩) (σ)).1)))]))] [((1300, 6), (wput (⟨#[102, 97, 108, 115, 101]⟩) (σ)).2)])) (by kernel_rfl) (WK (by kernel_rfl)) (ends (r := j0) (by simp) (by kernel_rfl) rfl (by rw [hF]; simp [sx, List.lookup_cons]) (by rw [hF]; simp [sx, St.gen, List.lookup_cons]))
          · have hb10p := ne_of_beq_false hb10
            have hB : wrB w x σ = wput x.name σ := by simp [wrB, *]
            rw [hB] at hsz
            refine GO (kb hb10 (tn 3 (kg (WriteString_to (σ) (Nd.name (x)) (by first | assumption | omega)) (show ((σ).2 : Nat) = (σ).2 ∧ True from ⟨rfl, trivial⟩) z))) (by kernel_rfl) ?_
            have hF : wrB w x σ = wput (Nd.name (x)) (σ) := hB
            exact LEAF .normal (S2 := (sx 81 [] [(1000, (.cells 85 [(.son 1000), (.own (1300, 6) ((wput (Nd.name (x)) (σ)).2) 1 (bytesAV ((wput (Nd.name (x)) (σ)).1)))]))] [((1300, 6), (wput (Nd.name (x)) (σ)).2)])) (by kernel_rfl) (WK (by kernel_rfl)) (ends (r := j0) (by simp) (by kernel_rfl) rfl (by rw [hF]; simp [sx, List.lookup_cons]) (by rw [hF]; simp [sx, St.gen, List.lookup_cons]))
end Go.Proofs.YtdaglbjgdakmcaaGreat
namespace Go.Proofs.YtdaglbjgdakmcaaGreat
open Go Go.Eng
mutual
theorem write_to : ∀ x : Nd, okP x → ∀ σ : WS, (wr x σ).1.size ≤ 1000000000 → CallTo Tryz.prog 42 [(.av (nav x)), (jP 1000 0)] [(1000, (.cells 85 [(.son 1000), (.own (1300, 6) ((σ).2) 1 (bytesAV ((σ).1)))]))] [((1300, 6), (σ).2)] j0 [(1000, (.cells 85 [(.son 1000), (.own (1300, 6) ((wr x σ).2) 1 (bytesAV ((wr x σ).1)))]))] [((1300, 6), (wr x σ).2)]
  | .mk k nm kids, h, σ, hs => by
    simp only [okP] at h
    rw [wr_eq] at hs ⊢
    exact write_step wr wr_grows (.mk k nm kids) σ h.1 h.2.1 hs (fun i τ hi h1 => writes_to kids h.2.2 i hi τ h1) (fun i b τ hi h1 => operand_step wr wr_grows _ b τ h1 (fun τ' h2 => writes_to kids h.2.2 i hi τ' h2))
theorem writes_to : ∀ l : List Nd, okPs l → ∀ i, i < l.length → ∀ σ : WS, (wr (ndth l i) σ).1.size ≤ 1000000000 → CallTo Tryz.prog 42 [(.av (nav (ndth l i))), (jP 1000 0)] [(1000, (.cells 85 [(.son 1000), (.own (1300, 6) ((σ).2) 1 (bytesAV ((σ).1)))]))] [((1300, 6), (σ).2)] j0 [(1000, (.cells 85 [(.son 1000), (.own (1300, 6) ((wr (ndth l i) σ).2) 1 (bytesAV ((wr (ndth l i) σ).1)))]))] [((1300, 6), (wr (ndth l i) σ).2)]
  | [], _, i, hi => by simp at hi
  | x :: l, h, 0, _ => by simp only [okPs] at h; exact write_to x h.1
  | x :: l, h, i + 1, hi => by simp only [okPs] at h; exact writes_to l h.2 i (by simpa using hi)
end
set_option maxRecDepth 100000 in
set_option maxHeartbeats 2000000 in
theorem Normal_to (s : ByteArray) (hs : s.size ≤ maxLen) : CallTo Tryz.prog 22 [(jS (s))] [] [] (.av (.tup [.val (.string (normP s).1), .val (.int .i64 (normP s).2)])) [] [] := by
  refine CallTo_of_body (n := 18) Tryz.func22 rfl (by kernel_rfl) Tryz.ntmps22 (by simp) (by simp) (by simp) (by simp [OkSV, SV.keys, ABox.svs, PV.keys]) (by simp [OkSV, SV.keys, ABox.svs, PV.keys]) (by simp [OkSV, SV.keys, ABox.svs, PV.keys]) (by simp [OkSV, SV.keys, ABox.svs, PV.keys]) rfl rfl ?_
  refine W_eq (sx 18 [(0, (jS (s)))] [] []) (by kernel_rfl) ?_
  refine W_seq ?_
  refine W_run (ors := []) (cs := [True, True]) (e := .normal) 18 [(0, (jS (s)))] [] [] (by kernel_rfl) (ak (ak an)) ?_
  show W _ _ _ _
  refine W_seq ?_
  refine W_run (ors := [.c (.av (.tup [(.agg [(vI (Nd.kind ((parseP (s)).1))), (vS (Nd.name ((parseP (s)).1))), (.sl (av2 (Nd.kids ((parseP (s)).1))))]), (vI ((parseP (s)).2))])) [] [] []]) (cs := [True, (CallTo Tryz.prog 38 [(jS (s))] [] [] (.av (.tup [(.agg [(vI (Nd.kind ((parseP (s)).1))), (vS (Nd.name ((parseP (s)).1))), (.sl (av2 (Nd.kids ((parseP (s)).1))))]), (vI ((parseP (s)).2))])) [] []), True, True, True, True, True, True, True]) (e := .normal) 18 [(4, (.ptr 4 0)), (5, (jI ((parseP (s)).2)))] [(4, (.cells 77 [(jI (Nd.kind ((parseP (s)).1))), (jS (Nd.name ((parseP (s)).1))), (jL (av2 (Nd.kids ((parseP (s)).1))))]))] [] (by kernel_rfl) (ak (ac (parse_to (s) hs) (ak (ak (ak (ak (ak (ak (ak an))))))))) ?_
  show W _ _ _ _
  refine W_seq ?_
  rcases Bool.eq_false_or_eq_true ((((parseP (s)).2 : Int) != 0)) with hb1 | hb1
  · have hb1p := bne_iff_ne.1 hb1
    refine W_run (ors := [.b true]) (cs := [True, True, ((((parseP (s)).2 : Int) != 0) = true), True, True, True]) (e := .ret) 18 [(2, (jS (⟨#[]⟩))), (3, (jI ((parseP (s)).2)))] [(4, (.cells 77 [(jI (Nd.kind ((parseP (s)).1))), (jS (Nd.name ((parseP (s)).1))), (jL (av2 (Nd.kids ((parseP (s)).1))))]))] [] (by kernel_rfl) (ak (ak (ac hb1 (ak (ak (ak an)))))) ?_
    refine skipS ?_ (by simp)
    exact ends (r := (.av (.tup [(vS (⟨#[]⟩)), (vI ((parseP (s)).2))]))) (by simp) (by kernel_rfl) (by rw [normP]; first | (rw [if_pos (by assumption)]; done) | (rw [if_neg (by assumption)]; done)) (by simp) (by simp)
  · have hb1p := eq_of_bne_false hb1
    refine W_run (ors := [.b false]) (cs := [True, True, ((((parseP (s)).2 : Int) != 0) = false)]) (e := .normal) 18 [(4, (.ptr 4 0))] [(4, (.cells 77 [(jI (Nd.kind ((parseP (s)).1))), (jS (Nd.name ((parseP (s)).1))), (jL (av2 (Nd.kids ((parseP (s)).1))))]))] [] (by kernel_rfl) (ak (ak (ac hb1 an))) ?_
    show W _ _ _ _
    refine W_seq ?_
    refine W_run (ors := []) (cs := [True]) (e := .normal) 18 [(4, (.ptr 4 0)), (6, (.ptr 6 0))] [(6, (.cells 85 [(.av (.val (.pointer none))), .nil])), (4, (.cells 77 [(jI (Nd.kind ((parseP (s)).1))), (jS (Nd.name ((parseP (s)).1))), (jL (av2 (Nd.kids ((parseP (s)).1))))]))] [] (by kernel_rfl) (ak an) ?_
    show W _ _ _ _
    refine W_weak (S' := (sx 18 [(4, (.ptr 4 0)), (6, (.ptr 6 0))] [(6, (.cells 85 [(.son 6), (.own (1300, 6) ((((⟨#[]⟩, 0) : WS)).2) 1 (bytesAV ((((⟨#[]⟩, 0) : WS)).1)))])), (4, (.cells 77 [(jI (Nd.kind ((parseP (s)).1))), (jS (Nd.name ((parseP (s)).1))), (jL (av2 (Nd.kids ((parseP (s)).1))))]))] [((1300, 6), (((⟨#[]⟩, 0) : WS)).2)])) (weak_sx (show WkX _ _ _ from ⟨rfl, rfl, trivial⟩) (show WkBx _ _ from ⟨⟨rfl, ⟨rfl, ⟨rfl, by decide, rfl⟩, trivial⟩⟩, ⟨rfl, ⟨rfl, rfl, rfl, trivial⟩⟩, trivial⟩) (show WkG _ _ _ from ⟨(by first | rfl | (simp; done) | (simp; omega)), trivial⟩)) ?_
    refine W_run (ors := [.c j0 [(6, (.cells 85 [(.son 6), (.own (1300, 6) ((wr ((parseP (s)).1) (((⟨#[]⟩, 0) : WS))).2) 1 (bytesAV ((wr ((parseP (s)).1) (((⟨#[]⟩, 0) : WS))).1)))]))] [((1300, 6), (((⟨#[]⟩, 0) : WS)).2)] [((1300, 6), (wr ((parseP (s)).1) (((⟨#[]⟩, 0) : WS))).2)], .c (jS ((wr ((parseP (s)).1) (((⟨#[]⟩, 0) : WS))).1)) [(6, (.cells 85 [(.son 6), (jL (bytesAV ((wr ((parseP (s)).1) (((⟨#[]⟩, 0) : WS))).1)))]))] [((1300, 6), (wr ((parseP (s)).1) (((⟨#[]⟩, 0) : WS))).2)] [((1300, 6), (wr ((parseP (s)).1) (((⟨#[]⟩, 0) : WS))).2 + 1)]]) (cs := [True, (CallTo Tryz.prog 42 [(.av (.agg [(vI (Nd.kind ((parseP (s)).1))), (vS (Nd.name ((parseP (s)).1))), (.sl (av2 (Nd.kids ((parseP (s)).1))))])), (.ptr 6 0)] [(6, (.cells 85 [(.son 6), (.own (1300, 6) ((((⟨#[]⟩, 0) : WS)).2) 1 (bytesAV ((((⟨#[]⟩, 0) : WS)).1)))]))] [((1300, 6), (((⟨#[]⟩, 0) : WS)).2)] j0 [(6, (.cells 85 [(.son 6), (.own (1300, 6) ((wr ((parseP (s)).1) (((⟨#[]⟩, 0) : WS))).2) 1 (bytesAV ((wr ((parseP (s)).1) (((⟨#[]⟩, 0) : WS))).1)))]))] [((1300, 6), (wr ((parseP (s)).1) (((⟨#[]⟩, 0) : WS))).2)]), (((((⟨#[]⟩, 0) : WS)).2 : Nat) = (((⟨#[]⟩, 0) : WS)).2 ∧ True), (CallTo Tryz.prog 43 [(.ptr 6 0)] [(6, (.cells 85 [(.son 6), (.own (1300, 6) ((wr ((parseP (s)).1) (((⟨#[]⟩, 0) : WS))).2) 1 (bytesAV ((wr ((parseP (s)).1) (((⟨#[]⟩, 0) : WS))).1)))]))] [((1300, 6), (wr ((parseP (s)).1) (((⟨#[]⟩, 0) : WS))).2)] (jS ((wr ((parseP (s)).1) (((⟨#[]⟩, 0) : WS))).1)) [(6, (.cells 85 [(.son 6), (jL (bytesAV ((wr ((parseP (s)).1) (((⟨#[]⟩, 0) : WS))).1)))]))] [((1300, 6), (wr ((parseP (s)).1) (((⟨#[]⟩, 0) : WS))).2 + 1)]), (((wr ((parseP (s)).1) (((⟨#[]⟩, 0) : WS))).2 : Nat) = (wr ((parseP (s)).1) (((⟨#[]⟩, 0) : WS))).2 ∧ True), True, True]) (e := .ret) 18 [(2, (jS ((wr ((parseP (s)).1) (((⟨#[]⟩, 0) : WS))).1))), (3, (jI (0)))] [(6, (.cells 85 [(.son 6), (jL (bytesAV ((wr ((parseP (s)).1) (((⟨#[]⟩, 0) : WS))).1)))])), (4, (.cells 77 [(jI (Nd.kind ((parseP (s)).1))), (jS (Nd.name ((parseP (s)).1))), (jL (av2 (Nd.kids ((parseP (s)).1))))]))] [((1300, 6), (wr ((parseP (s)).1) (((⟨#[]⟩, 0) : WS))).2 + 1)] (by kernel_rfl) (ak (ac (by have h := CallTo_ren (swap_inv (6, 0) (1000, 0) rfl) (write_to _ (ok_parseP s) _ (norm_le s)); exact h) (ac ⟨rfl, trivial⟩ (ac (by have h := CallTo_ren (swap_inv (6, 0) (1000, 0) rfl) (String_to (.son 1000) 1300 ((wr ((parseP (s)).1) (((⟨#[]⟩, 0) : WS))).2) ((wr ((parseP (s)).1) (((⟨#[]⟩, 0) : WS))).1) (norm_pos (by assumption)) (by have := norm_le s; omega)); exact h) (ac ⟨rfl, trivial⟩ (ak (ak an))))))) ?_
    exact ends (r := (.av (.tup [(vS ((wr ((parseP (s)).1) (((⟨#[]⟩, 0) : WS))).1)), (vI (0))]))) (by simp) (by kernel_rfl) (by rw [normP]; first | (rw [if_pos (by assumption)]; done) | (rw [if_neg (by assumption)]; done)) (by simp) (by simp)
theorem aw1_to : CallTo Tryz.prog 20 [(jS (⟨#[97, 32, 97, 110, 100, 32, 110, 111, 116, 32, 40, 98, 32, 111, 114, 32, 99, 41]⟩)), (jL [(vS (⟨#[97]⟩)), (vS (⟨#[100]⟩))])] [] [] (.av (.tup [(vB true), (vI 0)])) [] [] := by
  have h := Eval_to (⟨#[97, 32, 97, 110, 100, 32, 110, 111, 116, 32, 40, 98, 32, 111, 114, 32, 99, 41]⟩) (by rw [show ByteArray.size (⟨#[97, 32, 97, 110, 100, 32, 110, 111, 116, 32, 40, 98, 32, 111, 114, 32, 99, 41]⟩) = 18 from rfl]; unfold maxLen; omega) [⟨#[97]⟩, ⟨#[100]⟩] (by unfold maxLen; simp)
  rw [show evalP (⟨#[97, 32, 97, 110, 100, 32, 110, 111, 116, 32, 40, 98, 32, 111, 114, 32, 99, 41]⟩) [⟨#[97]⟩, ⟨#[100]⟩] = (true, 0) by kernel_rfl] at h; exact h
theorem aw2_to : CallTo Tryz.prog 21 [(jS (⟨#[98, 32, 111, 114, 32, 97, 32, 97, 110, 100, 32, 98]⟩))] [] [] (.av (.tup [(.sl [(vS (⟨#[98]⟩)), (vS (⟨#[97]⟩))]), (vI 0)])) [] [] := by
  have h := Names_to (⟨#[98, 32, 111, 114, 32, 97, 32, 97, 110, 100, 32, 98]⟩) (by rw [show ByteArray.size (⟨#[98, 32, 111, 114, 32, 97, 32, 97, 110, 100, 32, 98]⟩) = 12 from rfl]; unfold maxLen; omega)
  rw [show namesP (⟨#[98, 32, 111, 114, 32, 97, 32, 97, 110, 100, 32, 98]⟩) = ([⟨#[98]⟩, ⟨#[97]⟩], 0) by kernel_rfl] at h; exact h
theorem aw3_to : CallTo Tryz.prog 22 [(jS (⟨#[40, 40, 97, 41, 41, 111, 114, 40, 32, 98, 32, 111, 114, 32, 110, 111, 116, 40, 99, 32, 97, 110, 100, 32, 100, 41, 32, 41]⟩))] [] [] (.av (.tup [(vS (⟨#[97, 32, 111, 114, 32, 98, 32, 111, 114, 32, 110, 111, 116, 32, 40, 99, 32, 97, 110, 100, 32, 100, 41]⟩)), (vI 0)])) [] [] := by
  have h := Normal_to (⟨#[40, 40, 97, 41, 41, 111, 114, 40, 32, 98, 32, 111, 114, 32, 110, 111, 116, 40, 99, 32, 97, 110, 100, 32, 100, 41, 32, 41]⟩) (by rw [show ByteArray.size (⟨#[40, 40, 97, 41, 41, 111, 114, 40, 32, 98, 32, 111, 114, 32, 110, 111, 116, 40, 99, 32, 97, 110, 100, 32, 100, 41, 32, 41]⟩) = 28 from rfl]; unfold maxLen; omega)
  rw [show normP (⟨#[40, 40, 97, 41, 41, 111, 114, 40, 32, 98, 32, 111, 114, 32, 110, 111, 116, 40, 99, 32, 97, 110, 100, 32, 100, 41, 32, 41]⟩) = (⟨#[97, 32, 111, 114, 32, 98, 32, 111, 114, 32, 110, 111, 116, 32, 40, 99, 32, 97, 110, 100, 32, 100, 41]⟩, 0) by kernel_rfl] at h; exact h
theorem aw4_to : CallTo Tryz.prog 20 [(jS (⟨#[97, 32, 98]⟩)), (jL [])] [] [] (.av (.tup [(vB false), (vI 5)])) [] [] := by
  have h := Eval_to (⟨#[97, 32, 98]⟩) (by rw [show ByteArray.size (⟨#[97, 32, 98]⟩) = 3 from rfl]; unfold maxLen; omega) [] (by unfold maxLen; simp)
  rw [show evalP (⟨#[97, 32, 98]⟩) [] = (false, 5) by kernel_rfl] at h; exact h
set_option maxRecDepth 100000 in
set_option maxHeartbeats 2000000 in
theorem awake_to  : CallTo Tryz.prog 8 [] [] [] (jB true) [] [] := by
  refine CallTo_of_body (n := 64) Tryz.func8 rfl (by kernel_rfl) Tryz.ntmps8 (by simp) (by simp) (by simp) (by simp [OkSV, SV.keys, ABox.svs, PV.keys]) (by simp [OkSV, SV.keys, ABox.svs, PV.keys]) (by simp [OkSV, SV.keys, ABox.svs, PV.keys]) (by simp [OkSV, SV.keys, ABox.svs, PV.keys]) rfl rfl ?_
  refine W_eq (sx 64 [] [] []) (by kernel_rfl) ?_
  refine WN ?_
  refine GO (tn 1 (kp (show Uni 1 [(vS (⟨#[97]⟩)), (vS (⟨#[100]⟩))] from (by simp [Uni, AV.cells, AV.isTup])) (kg aw1_to trivial (tn 5 (kg aw2_to trivial (tn 5 (kg aw3_to trivial (tn 5 (kg aw4_to trivial (tn 7 (kb tt (tn 1 (kb tt (tn 1 (kb tt (tn 1 (kb tt (tn 1 (kb tt (tn 1 (kb tt (tn 1 (kb tt (tn 1 (kb tt (tn 1 (kb tt (tn 1 (kb tt (tn 1 (kb tt (tn 1 (kb tt (ke (show 0 ≤ (0 : Int) ∧ ([(vS (⟨#[98]⟩)), (vS (⟨#[97]⟩))] : List AV)[0]? = some (vS (⟨#[98]⟩)) from ⟨by decide, rfl⟩) (kb tt (tn 1 (kb tt (tn 1 (kb tt (tn 1 (kb (show eqs (⟨#[98]⟩) (⟨#[98]⟩) = true from (by kernel_rfl)) (tn 1 (kb (show eqs (⟨#[98]⟩) (⟨#[98]⟩) = true from (by kernel_rfl)) (ke (show 0 ≤ (1 : Int) ∧ ([(vS (⟨#[98]⟩)), (vS (⟨#[97]⟩))] : List AV)[1]? = some (vS (⟨#[97]⟩)) from ⟨by decide, rfl⟩) (kb (show eqs (⟨#[98]⟩) (⟨#[98]⟩) = true from (by kernel_rfl)) (tn 1 (kb (show eqs (⟨#[98]⟩) (⟨#[98]⟩) = true from (by kernel_rfl)) (tn 1 (kb (show eqs (⟨#[98]⟩) (⟨#[98]⟩) = true from (by kernel_rfl)) (tn 1 (kb (show eqs (⟨#[97]⟩) (⟨#[97]⟩) = true from (by kernel_rfl)) (tn 1 (kb (show eqs (⟨#[97]⟩) (⟨#[97]⟩) = true from (by kernel_rfl)) (tn 1 (kb (show eqs (⟨#[97]⟩) (⟨#[97]⟩) = true from (by kernel_rfl)) (tn 1 (kb tt (tn 1 (kb tt (tn 1 (kb tt (tn 1 (kb (show eqs (⟨#[97, 32, 111, 114, 32, 98, 32, 111, 114, 32, 110, 111, 116, 32, 40, 99, 32, 97, 110, 100, 32, 100, 41]⟩) (⟨#[97, 32, 111, 114, 32, 98, 32, 111, 114, 32, 110, 111, 116, 32, 40, 99, 32, 97, 110, 100, 32, 100, 41]⟩) = true from (by kernel_rfl)) (tn 1 (kb (show eqs (⟨#[97, 32, 111, 114, 32, 98, 32, 111, 114, 32, 110, 111, 116, 32, 40, 99, 32, 97, 110, 100, 32, 100, 41]⟩) (⟨#[97, 32, 111, 114, 32, 98, 32, 111, 114, 32, 110, 111, 116, 32, 40, 99, 32, 97, 110, 100, 32, 100, 41]⟩) = true from (by kernel_rfl)) (tn 1 (kb (show eqs (⟨#[97, 32, 111, 114, 32, 98, 32, 111, 114, 32, 110, 111, 116, 32, 40, 99, 32, 97, 110, 100, 32, 100, 41]⟩) (⟨#[97, 32, 111, 114, 32, 98, 32, 111, 114, 32, 110, 111, 116, 32, 40, 99, 32, 97, 110, 100, 32, 100, 41]⟩) = true from (by kernel_rfl)) (tn 1 z)))))))))))))))))))))))))))))))))))))))))))))))))))))))))))))))))))) (by kernel_rfl) ?_
  exact LEAF .ret (S2 := (sx 64 [(0, (jB (true)))] [] [])) (by kernel_rfl) (WK (by kernel_rfl)) (ends (r := (jB (true))) (by simp) (by kernel_rfl) rfl (by simp) (by simp))
end Go.Proofs.YtdaglbjgdakmcaaGreat
namespace Go.Proofs.YtdaglbjgdakmcaaGreat
open Go Go.Eng
theorem flat_wl {α β : Type} {w : α → Nat} {w' : β → Nat} {g : α → List β} : ∀ {l : List α}, (∀ x ∈ l, wl w' (g x) ≤ w x) → wl w' (l.flatMap g) ≤ wl w l
  | [], _ => by simp [wl]
  | x :: l, h => by
    have h1 := h x (by simp)
    have h2 := flat_wl (l := l) (fun y hy => h y (by simp [hy]))
    rw [List.flatMap_cons, wl_append]; simp only [wl]; omega
theorem lsBN_mem : ∀ (n : Nat) (l : List DBlock), wl wBlock l < n → ∀ y ∈ lsBN n l, wBlock y ≤ wl wBlock l
  | 0, l, h, y, hy => by omega
  | n + 1, l, h, y, hy => by
    rw [lsBN, lsBS_eq, List.mem_flatMap] at hy
    obtain ⟨x, hx, hy⟩ := hy
    have h1 := wl_mem (w := wBlock) hx
    have h2 := wBlock_eq x
    simp only [List.mem_cons] at hy
    rcases hy with rfl | hy
    · exact h1
    · have := lsBN_mem n x.fKids (by omega) y hy; omega
theorem lsB_mem (l : List DBlock) : ∀ y ∈ lsB l, wBlock y ≤ wl wBlock l := lsBN_mem _ l (Nat.lt_succ_self _)
def wLn (b : DBlock) : Nat := wl wInline b.fLine
theorem lsBN_ln : ∀ (n : Nat) (l : List DBlock), wl wBlock l < n → wl wLn (lsBN n l) ≤ wl wBlock l
  | 0, l, h => by omega
  | n + 1, l, h => by
    rw [lsBN, lsBS_eq]
    refine flat_wl (fun x hx => ?_)
    have h1 := wl_mem (w := wBlock) hx
    have h2 := wBlock_eq x
    have h3 := lsBN_ln n x.fKids (by omega)
    simp only [wl, wLn]; omega
theorem lsB_ln (l : List DBlock) : wl wLn (lsB l) ≤ wl wBlock l := lsBN_ln _ l (Nat.lt_succ_self _)
def ilsB_L0 (l : List DBlock) : Nat → (List DInline) → Nat → List DInline
  | 0, _, _ => default
  | n0 + 1, v3, v5 => cond (decide ((((v5 : Nat) : Int) : Int) < ((lenM aBlock (lsB l) : Nat) : Int))) (ilsB_L0 l n0 (v3 ++ (dpI ((el (lsB l) v5).fLine))) (v5 + 1)) (v3)
def ilsB (l : List DBlock) : List DInline := ilsB_L0 l ((List.length (lsB l) - (0)) + 1) ([]) 0
set_option maxRecDepth 100000 in
set_option maxHeartbeats 4000000 in
theorem ilsB_to (l : List DBlock) (hl : wl wBlock l ≤ 1073741824) : CallTo Tryz.prog 13 [(jL (l.map aBlock))] [] [] (jL ((ilsB l).map aInline)) [] [] := by
  refine BEG (fun r : List DInline => (jL (r.map aInline))) (ilsB l) Tryz.func13 (by kernel_rfl) ?_
  refine UF (ilsB.eq_1 ..) ?_
  have := lsB_bd l (by first | assumption | omega | decide | (simp; done) | (simp; omega))
  refine GO (tn 3 (kc (lsB_to l (by first | assumption | omega | decide | (simp; done) | (simp; omega))) (tn 2 z))) (by kernel_rfl) ?_
  refine LP (fun N M S => ∃ gv3 : Nat, ∃ v3 : List DInline, ∃ v5 : Nat, (v3.length ≤ wl wLn ((lsB l).take v5)) ∧ (List.length (lsB l) - v5 < N) ∧ M = ilsB_L0 l N v3 v5 ∧ S = (sx 23 [(3, (.own (203, 42) (gv3) 10 (v3.map aInline))), (4, (jL ((lsB l).map aBlock))), (5, (jI (((v5 : Nat) : Int))))] [] [((203, 42), gv3)])) (by kernel_rfl) ⟨0, _, _, by simp [wl], by omega, rfl, rfl⟩ (WKf [(3, (.own (203, 42) ((0)) 10 (([]).map aInline)))] (ac (show ((([]).map aInline) : List AV) = [] ∧ 0 < 42 ∧ ((0) : Nat) = (0) from ⟨rfl, by decide, rfl⟩) an) (by kernel_rfl)) ?_
  rintro n0 M S ⟨gv3, v3, v5, hv, hF0, rfl, rfl⟩
  obtain ⟨n0, rfl⟩ : ∃ k, n0 = k + 1 := ⟨n0 - 1, by omega⟩
  refine UF (ilsB_L0.eq_2 ..) ?_
  refine GO (tn 4 z) (by kernel_rfl) ?_
  refine CSd (fun h1p h1 => ?_) (fun h1p h1 => ?_)
  · have := lenM_eq aBlock (lsB l)
    have hm := lsB_mem l _ (el_mem (l := lsB l) (i := v5) (by omega))
    have hmw := wBlock_eq (el (lsB l) v5)
    have htk := wl_take (w := wLn) (l := lsB l) (i := v5) (by omega)
    have hln := lsB_ln l
    rw [show wLn (el (lsB l) v5) = wl wInline (el (lsB l) v5).fLine from rfl] at htk
    have := dpI_bd ((el (lsB l) v5).fLine) (by first | assumption | omega | decide | (simp; done) | (simp; omega))
    refine GO (kb h1 (tn 3 (ke (el_aBlock (lsB l) v5 (by first | omega | (simp only [lenM_eq, true_and]; omega))) (tn 2 (kc (dpI_to ((el (lsB l) v5).fLine) (by first | assumption | omega | decide | (simp; done) | (simp; omega))) (kp (show (gv3 : Nat) = gv3 ∧ Uni 10 ((dpI ((el (lsB l) v5).fLine)).map aInline) ∧ (((v3.map aInline) : List AV).length + (((dpI ((el (lsB l) v5).fLine)).map aInline) : List AV).length) * 192 ≤ 140737488355328 from ⟨rfl, uni_aInline _, by first | omega | (simp; done) | (simp; omega)⟩) (kw (apL aInline v3 (dpI ((el (lsB l) v5).fLine))) (tn 2 (kn (wrE ((((v5 : Nat) : Int)) + 1) (((v5 + 1 : Nat) : Int)) (by omega)) (tn 1 z)))))))))) (by kernel_rfl) ?_
    exact AG ⟨gv3 + 1, _, _, by first | omega | assumption | (simp only [lenM_eq]; omega) | (simp; done) | (simp; omega), by omega, rfl, rfl⟩ (WK (by kernel_rfl)) (by kernel_rfl) (Nat.lt_succ_self _)
  · have := lenM_eq aBlock (lsB l)
    refine GO (kb h1 z) (by kernel_rfl) ?_
    refine OUT (tn 2 z) (by kernel_rfl) ?_
    exact EN (by kernel_rfl)
theorem ilsB_eq (l : List DBlock) : ilsB l = (lsB l).flatMap (fun b => dpI b.fLine) := by
  have := loop_flat aBlock (lsB l) (fun b => dpI b.fLine) (ilsB_L0 l) (fun n acc i => by rw [ilsB_L0]) ((List.length (lsB l) - (0)) + 1) [] 0 (by omega)
  rw [ilsB, this]; simp
theorem ilsB_len (l : List DBlock) (hl : wl wBlock l ≤ 1073741824) : (ilsB l).length ≤ wl wBlock l := by
  rw [ilsB_eq]
  refine Nat.le_trans (flat_len (w := wLn) (fun b hb => ?_)) (lsB_ln l)
  have h1 := lsB_mem l b hb
  have h2 := wBlock_eq b
  exact dpI_bd b.fLine (by omega)
end Go.Proofs.YtdaglbjgdakmcaaGreat
