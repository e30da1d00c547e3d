/- Texts joined by a program (merge.py). -/
import Derived.Test.YtdaglbjgdakmcaaGreatMcf
import Derived.Test.YtdaglbjgdakmcaaGreatMcb
import Derived.ProofKit
import Derived.SliceStrings
import Derived.Test.YtdaglbjgdakmcaaGreatRows
import Derived.Test.YtdaglbjgdakmcaaGreatMcc
import Derived.KernelRfl
import Derived.JoinedCond
set_option linter.unusedSimpArgs false
set_option linter.unusedVariables false
set_option maxRecDepth 100000
set_option maxHeartbeats 4000000
namespace Go.Proofs.YtdaglbjgdakmcaaGreat
open Go Go.Eng
theorem rmgStep_congr {r r' : List DInline → List DInline} {acc : List DInline} {x : DInline} (h : r x.fKids = r' x.fKids) : rmgStep r acc x = rmgStep r' acc x := by unfold rmgStep; rw [h]
theorem foldl_cg {f g : List DInline → DInline → List DInline} : ∀ {l : List DInline} {acc : List DInline}, (∀ x ∈ l, ∀ acc, f acc x = g acc x) → l.foldl f acc = l.foldl g acc
 | [], acc, _ => rfl
 | x :: l, acc, h => by rw [List.foldl_cons, List.foldl_cons, h x (by simp), foldl_cg (fun y hy => h y (by simp [hy]))]
theorem rmgN_eq : ∀ (n m : Nat) (l : List DInline), wl wInline l < n → wl wInline l < m → rmgN n l = rmgN m l
 | 0, m, l, h, _ => by omega
 | n + 1, 0, l, _, h => by omega
 | n + 1, m + 1, l, h, k => by
  rw [rmgN, rmgN, rmgS_eq, rmgS_eq]
  refine foldl_cg (fun x hx acc => rmgStep_congr ?_)
  have h1 := wl_mem (w := wInline) hx
  have h2 := wInline_eq x
  exact rmgN_eq n m x.fKids (by omega) (by omega)
theorem rmgL_eq (l : List DInline) : rmgL l = l.foldl (rmgStep rmgL) [] := by
 rw [rmgL, rmgN, rmgS_eq]
 refine foldl_cg (fun x hx acc => rmgStep_congr ?_)
 have h1 := wl_mem (w := wInline) hx
 have h2 := wInline_eq x
 rw [rmgL, rmgN_eq _ (wl wInline x.fKids + 1) x.fKids (by omega) (by omega)]
theorem lastI (a : List DInline) (x : DInline) : Int.toNat (((lenM aInline (a ++ [x]) : Nat) : Int) - 1) = a.length := by
 have hl := lenM_eq aInline (a ++ [x])
 rw [List.length_append, List.length_singleton] at hl; omega
theorem lastE (a : List DInline) (x : DInline) : el (a ++ [x]) a.length = x := by simp [el]
theorem rmgK_self {rec : List DInline → List DInline} {y : DInline} (h : rec y.fKids = y.fKids) : rmgK y (rec y.fKids) = y := by rw [h]; cases y; rfl
theorem fltq_t (y : DInline) : fltq y = !(cond ((y.fKind : Int) == 1) (eqs y.fText ⟨#[]⟩) false) := by
 unfold fltq
 cases h : ((y.fKind : Int) == 1) with
 | true => simp [bne, h]
 | false => simp [bne, h]
theorem rmgStep_nil (y : DInline) (hk : rmgL y.fKids = y.fKids) : rmgStep rmgL [] y = if fltq y = true then [y] else [] := by
 unfold rmgStep
 rw [fltq_t]
 cases cond ((y.fKind : Int) == 1) (eqs y.fText ⟨#[]⟩) false with
 | true => simp
 | false =>
  rw [cond_false, show (decide (((lenM aInline [] : Nat) : Int) > 0)) = false from rfl, rmgK_self hk]
  cases ((y.fKind : Int) == 1) <;> simp
theorem rmgStep_snoc (a : List DInline) (x y : DInline) (hk : rmgL y.fKids = y.fKids) : rmgStep rmgL (a ++ [x]) y = if fltq y = true then (if x.fKind = 1 ∧ y.fKind = 1 then a ++ [setText x (x.fText ++ y.fText)] else (a ++ [x]) ++ [y]) else a ++ [x] := by
 have hl := lenM_eq aInline (a ++ [x])
 rw [List.length_append, List.length_singleton] at hl
 unfold rmgStep
 rw [fltq_t]
 cases cond ((y.fKind : Int) == 1) (eqs y.fText ⟨#[]⟩) false with
 | true => simp
 | false =>
  rw [cond_false, lastI, lastE, rmgK_self hk, dT (show ((lenM aInline (a ++ [x]) : Nat) : Int) > 0 by omega)]
  by_cases hx : x.fKind = 1
  ·by_cases hy : y.fKind = 1
   ·rw [beqT hx, beqT hy, if_pos (by rfl), if_pos ⟨hx, hy⟩]
    simp only [cond_true]
    rw [List.set_append_right _ _ (Nat.le_refl _), Nat.sub_self]; rfl
   ·rw [beqF hy, if_pos (by rfl), if_neg (fun h => hy h.2)]; rfl
  ·rw [beqF hx, if_pos (by rfl), if_neg (fun h => hx h.1)]
   cases ((y.fKind : Int) == 1) <;> rfl
theorem rmg_fold : ∀ (l a : List DInline) (x : DInline), (∀ y ∈ l, rmgL y.fKids = y.fKids) → l.foldl (rmgStep rmgL) (a ++ [x]) = a ++ mga x (flt l)
 | [], a, x, _ => rfl
 | y :: l, a, x, h => by
  have h1 := h y (by simp)
  have h2 : ∀ z ∈ l, rmgL z.fKids = z.fKids := fun z hz => h z (by simp [hz])
  rw [List.foldl_cons, rmgStep_snoc a x y h1, flt, List.filter_cons, ← flt]
  split
  ·split
   ·rename_i hc
    rw [rmg_fold l a _ h2, mga, if_pos hc]
   ·rename_i hc
    rw [rmg_fold l (a ++ [x]) y h2, mga, if_neg hc, List.append_assoc]; rfl
  ·exact rmg_fold l a x h2
theorem rmg_fold0 : ∀ (l : List DInline), (∀ y ∈ l, rmgL y.fKids = y.fKids) → l.foldl (rmgStep rmgL) [] = mg (flt l)
 | [], _ => rfl
 | y :: l, h => by
  have h1 := h y (by simp)
  have h2 : ∀ z ∈ l, rmgL z.fKids = z.fKids := fun z hz => h z (by simp [hz])
  rw [List.foldl_cons, rmgStep_nil y h1, flt, List.filter_cons, ← flt]
  split
  ·exact rmg_fold l [] y h2
  ·exact rmg_fold0 l h2
theorem rmgL_nice (l : List DInline) (h : ∀ y ∈ l, rmgL y.fKids = y.fKids) : rmgL l = mg (flt l) := by rw [rmgL_eq, rmg_fold0 l h]
theorem rmg_tdy : ∀ l : List DInline, rmgL (tdyL l) = tdyL l := by
 refine inl_all (fun l hl => ?_)
 have h : ∀ y ∈ tdyL l, rmgL y.fKids = y.fKids := fun y hy => by
  obtain ⟨x, hx, _, e, _⟩ := tdy_mem hy
  rw [e]; exact hl x hx
 have n := N1_tdy l
 rw [rmgL_nice _ h, flt, List.filter_eq_self.2 n.txt, mg_of_adj n.adj]
def lastB (acc : List DInline) : Bool := cond (decide (((lenM aInline acc : Nat) : Int) > 0)) (brk ((el acc (Int.toNat (((lenM aInline acc : Nat) : Int) - 1))).fKind)) false
theorem brk_brk2 (k : Int) : brk k = brk2 k := by unfold brk brk2; cases (k == 2) <;> rfl
theorem lastB_snoc (a : List DInline) (x : DInline) : lastB (a ++ [x]) = brk2 x.fKind := by
 have hl := lenM_eq aInline (a ++ [x])
 rw [List.length_append, List.length_singleton] at hl
 unfold lastB
 rw [lastI, lastE, dT (show ((lenM aInline (a ++ [x]) : Nat) : Int) > 0 by omega), cond_true, brk_brk2]
theorem sgR_eq (acc : List DInline) (x : DInline) : sgR acc x = if cond (x.fKind != 2) true (!lastB acc) = true then acc ++ [x] else acc := by
 unfold sgR lastB bne
 cases ((x.fKind : Int) == 2) <;> cases (decide (((lenM aInline acc : Nat) : Int) > 0)) <;> cases brk ((el acc (Int.toNat (((lenM aInline acc : Nat) : Int) - 1))).fKind) <;> rfl
theorem sgR_fold : ∀ (l acc : List DInline), l.foldl sgR acc = acc ++ sg (lastB acc) l
 | [], acc => by simp [sg]
 | x :: l, acc => by
  rw [List.foldl_cons, sgR_eq, sg]
  split
  ·rw [sgR_fold l, lastB_snoc, List.append_assoc]; rfl
  ·rename_i hc
   have h2 : x.fKind = 2 ∧ lastB acc = true := by
    by_cases h2 : x.fKind = 2
    ·exact ⟨h2, by rw [h2] at hc; cases hq : lastB acc <;> simp_all⟩
    ·rw [bne_iff_ne.2 h2] at hc; exact absurd rfl hc
   rw [sgR_fold l, h2.1, h2.2]; rfl
theorem whenE : (⟨#[119, 104, 101, 110]⟩ : ByteArray) = whenA := rfl
theorem keepR_eq (x : DInline) : keepR x = !(emk x.fKind && x.fKids.isEmpty) := by
 have hl := lenM_eq aInline x.fKids
 have h0 : (((lenM aInline x.fKids : Nat) : Int) == 0) = x.fKids.isEmpty := by
  cases hk : x.fKids with
  | nil => rfl
  | cons y r => rw [hk, List.length_cons] at hl; exact beqF (by omega)
 unfold keepR
 rw [h0, emk_eq]
 cases ((x.fKind : Int) == 6) <;> cases ((x.fKind : Int) == 7) <;> cases ((x.fKind : Int) == 8) <;> cases x.fKids.isEmpty <;> rfl
def tk (l : List DInline) : List DInline := l.map (fun x => setKids x (tdyL x.fKids))
theorem tk_app (a b : List DInline) : tk (a ++ b) = tk a ++ tk b := List.map_append
theorem td1_tk : ∀ l : List DInline, td1 l = (tk l).filter keepR
 | [] => rfl
 | x :: l => by
  rw [td1, List.flatMap_cons, ← td1, td1_tk l, show tk (x :: l) = setKids x (tdyL x.fKids) :: tk l from rfl, List.filter_cons, keepR_eq, tdk]
  show (if emk x.fKind = true ∧ tdyL x.fKids = [] then _ else _) ++ _ = if (!(emk x.fKind && (tdyL x.fKids).isEmpty)) = true then _ else _
  cases h1 : emk x.fKind <;> cases h2 : tdyL x.fKids <;> simp
theorem tk_kids (l : List DInline) : ∀ y ∈ tk l, rmgL y.fKids = y.fKids := by
 intro y hy
 obtain ⟨x, hx, rfl⟩ := List.mem_map.1 hy
 exact rmg_tdy x.fKids
theorem rtdL_tk (l : List DInline) : rtdL (tk l) = tdyL l := by
 rw [rtdL_eq, rmgL_nice _ (fun y hy => tk_kids l y (List.mem_filter.1 hy).1), sgR_fold, tdyL_eq, td1_tk]; rfl
theorem opnW_congr {w : List ByteArray} {r r' : List DInline → List DInline × Int} {x : DInline} (h : r x.fKids = r' x.fKids) : opnW w r x = opnW w r' x := by unfold opnW; rw [h]
theorem opnPN_eq : ∀ (n m : Nat) (w : List ByteArray) (l : List DInline), wl wInline l < n → wl wInline l < m → opnPN n l w = opnPN m l w
 | 0, m, w, l, h, _ => by omega
 | n + 1, 0, w, l, _, h => by omega
 | n + 1, m + 1, w, l, h, k => by
  rw [opnPN, opnPN, opnPS_eq, opnPS_eq, seqE_eq, seqE_eq]
  refine sq_congr (fun x hx => opnW_congr ?_)
  have h1 := wl_mem (w := wInline) hx
  have h2 := wInline_eq x
  exact opnPN_eq n m w x.fKids (by omega) (by omega)
theorem opnP_eq (w : List ByteArray) (l : List DInline) : opnP l w = sq (opnW w (fun ks => opnP ks w)) l := by
 rw [opnP, opnPN, opnPS_eq, seqE_eq]
 refine sq_congr (fun x hx => opnW_congr ?_)
 have h1 := wl_mem (w := wInline) hx
 have h2 := wInline_eq x
 exact opnPN_eq _ _ w x.fKids (by omega) (by omega)
theorem evalR_hld (w : List ByteArray) (s : ByteArray) : (evalR s w).2 = (hldP w s).2 ∧ ((hldP w s).2 = 0 → (evalR s w).1 = (hldP w s).1) := by
 rw [evalPR]
 unfold evalP hldP
 by_cases h : (parseP s).2 = 0
 ·simp [h]
 ·simp [h]
theorem opn_lin (w : List ByteArray) : ∀ l : List DInline, opnP l w = (tk (linP w l).1, (linP w l).2) := by
 refine inl_ind (by rw [opnP_eq, linP_eq]; rfl) (fun x l hx hl => ?_)
 rw [opnP_eq, linP_eq] at hl
 rw [opnP_eq, linP_eq, sq, sq, hl]
 have h1 : opnW w (fun ks => opnP ks w) x = (tk (inlW w (linP w) x).1, (inlW w (linP w) x).2) := by
  rw [opnW_congr (r' := fun _ => (tk (linP w x.fKids).1, (linP w x.fKids).2)) hx]
  unfold opnW inlW
  simp only [getR_eq, whenE]
  obtain ⟨e1, e2⟩ := evalR_hld w (getP x.fAttr whenA).1
  by_cases hc : x.fKind = 11 ∧ (getP x.fAttr whenA).2 = true
  ·simp only [hc, and_self, if_true, e1]
   by_cases h0 : (hldP w (getP x.fAttr whenA).1).2 = 0
   ·simp only [h0, ne_eq, not_true_eq_false, if_false, e2 h0]
    cases (hldP w (getP x.fAttr whenA).1).1 <;> by_cases h3 : (linP w x.fKids).2 = 0 <;> simp [h3, tk]
   ·simp [h0, tk]
  ·simp only [if_neg hc]
   by_cases h3 : (linP w x.fKids).2 = 0
   ·simp only [h3, ne_eq, not_true_eq_false, if_false, rtdL_tk]; rfl
   ·simp [h3, tk]
 rw [h1]
 show (if (inlW w (linP w) x).2 ≠ 0 then _ else if (sq (inlW w (linP w)) l).2 ≠ 0 then _ else _) = _
 split
 ·rfl
 ·split
  ·rfl
  ·rw [tk_app]
theorem rlnP_L1_eq (l : List DInline) (fl : List ByteArray) (v8 : List DInline) (k0 : List DInline → List DInline × Int) : ∀ (n : Nat) (w8 : List DInline), w8.length < n → rlnP_L1 l fl v8 k0 n w8 = (dropB w8, 0)
 | 0, w0, h => by omega
 | n + 1, w0, h => by
  have hl := lenM_eq aInline w0
  rw [rlnP_L1]
  by_cases h0 : 0 < w0.length
  ·have e1 : Int.toNat (((lenM aInline w0 : Nat) : Int) - 1) = w0.length - 1 := by omega
   rw [dT (by omega), cond_true, e1]
   rw [show dropB w0 = dropB (w0.take (w0.length - 1) ++ [el w0 (w0.length - 1)]) from by rw [← take_last h0], dropB_snoc, brk_brk2]
   rw [condE]
   split
   ·rw [rlnP_L1_eq l fl v8 k0 n _ (by simp only [List.length_take, List.length_drop]; omega)]; simp
   ·exact Prod.ext (take_last h0) rfl
  ·have : w0 = [] := List.eq_nil_of_length_eq_zero (by omega)
   subst this; simp [dropB, lenM]
theorem rlnP_L0_eq (l : List DInline) (fl : List ByteArray) : ∀ (n : Nat) (v0 : List DInline), v0.length < n → rlnP_L0 l fl n v0 = (dropB (dropS v0), 0)
 | 0, v0, h => by omega
 | n + 1, v0, h => by
  have hl := lenM_eq aInline v0
  rw [rlnP_L0]
  match v0, h with
  | [], h => rw [rlnP_L1_eq _ _ _ _ _ _ (by simp)]; simp [dropS, lenM]
  | x :: r, h =>
   rw [dT (by simp only [List.length_cons] at hl; omega), cond_true]
   show cond (x.fKind == 2) _ _ = _
   by_cases h2 : x.fKind = 2
   ·rw [beq_iff_eq.2 h2, cond_true, rlnP_L0_eq l fl n _ (by simp only [List.length_take, List.length_drop, List.length_cons] at h ⊢; omega)]
    simp [dropS, h2, lenM]
   ·rw [beq_eq_false_iff_ne.2 h2, cond_false, rlnP_L1_eq _ _ _ _ _ _ (by omega)]
    simp [dropS, h2]
theorem rlnP_eq (l : List DInline) (w : List ByteArray) : rlnP l w = if (linP w l).2 ≠ 0 then ([], (linP w l).2) else (lnW w l, 0) := by
 unfold rlnP
 rw [opn_lin, condE]
 by_cases h : (linP w l).2 = 0
 ·rw [h]
  simp only [bne_self_eq_false, Bool.false_eq_true, if_false, ne_eq, not_true_eq_false]
  rw [rlnP_L0_eq _ _ _ _ (by omega), rtdL_tk, lnW, trmL_eq]
 ·simp [h, bne_iff_ne.2 h]
theorem rblW_congr {w : List ByteArray} {r r' : List DBlock → List DBlock × Int} {x : DBlock} (h : r x.fKids = r' x.fKids) : rblW w r x = rblW w r' x := by unfold rblW; rw [h]
theorem rblPN_eq : ∀ (n m : Nat) (w : List ByteArray) (l : List DBlock), wl wBlock l < n → wl wBlock l < m → rblPN n l w = rblPN m l w
 | 0, m, w, l, h, _ => by omega
 | n + 1, 0, w, l, _, h => by omega
 | n + 1, m + 1, w, l, h, k => by
  rw [rblPN, rblPN, rblPS_eq, rblPS_eq, seqE_eq, seqE_eq]
  refine sq_congr (fun x hx => rblW_congr ?_)
  have h1 := wl_mem (w := wBlock) hx
  have h2 := wBlock_eq x
  exact rblPN_eq n m w x.fKids (by omega) (by omega)
theorem rblP_eq (w : List ByteArray) (l : List DBlock) : rblP l w = sq (rblW w (fun ks => rblP ks w)) l := by
 rw [rblP, rblPN, rblPS_eq, seqE_eq]
 refine sq_congr (fun x hx => rblW_congr ?_)
 have h1 := wl_mem (w := wBlock) hx
 have h2 := wBlock_eq x
 exact rblPN_eq _ _ w x.fKids (by omega) (by omega)
theorem linP_nil (w : List ByteArray) : linP w [] = ([], 0) := by rw [linP_eq]; rfl
theorem rlnP_nil (w : List ByteArray) : rlnP [] w = ([], 0) := by
 rw [rlnP_eq, linP_nil, lnW, linP_nil, tdyL_eq, trmL_eq]; rfl
theorem rbl_blk (w : List ByteArray) : ∀ l : List DBlock, (∀ b ∈ lsB l, isIf b = true → b.fLine = []) → rblP l w = blkP w l := by
 refine blk_ind (fun _ => by rw [rblP_eq, blkP_eq]; rfl) (fun x l hx hl h => ?_)
 rw [lsB_cons] at h
 have h1 := hx (fun y hy => h y (by simp [hy]))
 have h2 := hl (fun y hy => h y (by simp [hy]))
 have h3 := h x (by simp)
 rw [rblP_eq, blkP_eq] at h2
 rw [rblP_eq, blkP_eq, sq, sq, h2]
 have h4 : rblW w (fun ks => rblP ks w) x = blkW w (blkP w) x := by
  rw [rblW_congr (r' := blkP w) h1]
  unfold rblW blkW chsW
  simp only [getR_eq, whenE]
  obtain ⟨e1, e2⟩ := evalR_hld w (getP x.fAttr whenA).1
  by_cases hif : isIf x = true
  ·simp only [hif, if_true, h3 hif, rlnP_nil, e1, ne_eq, not_true_eq_false, if_false]
   by_cases hc : (getP x.fAttr whenA).2 = true
   ·simp only [hc, if_true]
    by_cases h0 : (hldP w (getP x.fAttr whenA).1).2 = 0
    ·simp only [h0, not_true_eq_false, if_false, e2 h0]
     cases (hldP w (getP x.fAttr whenA).1).1
     ·simp
     ·simp only [if_true]
      by_cases h5 : (blkP w x.fKids).2 = 0
      ·rw [if_neg (by simp [h5])]; exact Prod.ext rfl h5.symm
      ·rw [if_pos h5]; rw [blkP_eq] at h5 ⊢; exact Prod.ext (sq_nil_of h5).symm rfl
    ·simp [h0]
   ·simp [hc]
  ·simp only [if_neg hif, rlnP_eq]
   by_cases h5 : (linP w x.fLine).2 = 0
   ·simp [h5]
   ·simp [h5]
 rw [h4]
theorem if_line {b : DBlock} (h : blkF b = true) (hi : isIf b = true) : b.fLine = [] := by
 rcases blkF_line h with h1 | h1
 ·exfalso
  unfold isIf at hi
  have hk := eq_of_beq (cond_ff hi).1
  rw [hk, inL_eq] at h1
  exact absurd h1 (by decide)
 ·exact h1
theorem rap_apl {d : DDoc} (hc : chkD d = 0) (w : List ByteArray) : rapD d w = aplD d w := by
 unfold rapD aplD
 rw [rbl_blk w d.fBlocks (fun b hb hi => if_line (blsE_zero _ _ _ (chkD_zero hc) b hb).1 hi)]
theorem capM_true (d : DDoc) (flags : List ByteArray) : capM d flags = true := by
 unfold capM
 rw [condE]
 split
 ·rfl
 ·rename_i h0
  have hc : chkD d = 0 := by
   by_cases hc : chkD d = 0
   ·exact hc
   ·exfalso; apply h0; rw [bne_iff_ne.2 hc]; cases cond (!smlD d) true (decide (((lenM strAV flags : Nat) : Int) > 40)) <;> rfl
  rw [rap_apl hc, samD_self]
  simp
end Go.Proofs.YtdaglbjgdakmcaaGreat
namespace Go.Eng
open Go.ChangeShapes Go.WideShapes Go.ChangeAt Go.RowKit
def U0 (w : World) (b : Nat) : Nat := match w.heap[b]? with
 | some (.cells arr _ _) => arr.size
 | _ => 0
theorem wf0 (w : World) : Wf ⟨U0 w, fun _ => 0, fun _ => none, fun _ => 0⟩ w :=
 ⟨fun κ κ' b h => by simp at h, fun κ b h => by simp at h, fun b hb => by simp only [U0]; rw [Array.getElem?_eq_none hb]⟩
theorem law_calls {P : Program} {f : FuncId} {xs : List AV} (h : CallTo P f (xs.map .av) [] [] (jB true) [] []) {W : World} {vs : List Value} (hr : RepL (U0 W) W xs vs) :
  Calls P f vs.toArray W (fun e W' => e = .returned (.bool true) ∧ Below W.heap.size W W') := by
 refine (h.2 ⟨U0 W, fun _ => 0, fun _ => none, fun _ => 0⟩ W vs (wf0 W) (RepSs_av hr) (by simp) (by simp)).mono ?_
 rintro e w' ⟨v, G', rfl, s1, _, s3, _⟩
 simp only [jB, RepS, Rep] at s3
 rw [s3.1]
 exact ⟨rfl, s1.os, s1.tape, s1.output, s1.size, fun k hk => (s1.stay k hk (by simp)).1⟩
theorem cell_U0 {w : World} {b o : Nat} {v : Value} (h : w.cell? ⟨b, o, none⟩ = some v) : o < U0 w b := by
 unfold U0
 simp only [World.cell?] at h
 split at h
 ·rename_i arr e fz hb
  rw [hb]
  simp only [Option.isSome_none, Bool.false_eq_true, if_false] at h
  rcases Nat.lt_or_ge o arr.size with h1 | h1
  ·exact h1
  ·simp [Array.getElem?_eq_none h1] at h
 ·simp at h
end Go.Eng
namespace Go.Proofs.YtdaglbjgdakmcaaGreat
open Go Go.Eng Go.ChangeShapes Go.WideShapes Go.ChangeAt Go.RowKit
section
variable {H : Type} (enc : TypeId × Value → H) (P : Program) (w : World) (sp : Nat → Bool) (held : Bool)
def Rd (n : Nat) (t : TypeId) {α : Type} (f : α → List AV) (wt : α → Nat) : Prop :=
 ∀ cs x, DataW.trod enc P w 0 sp held n t cs = some x → ∃ a : α, RepL (U0 w) w (f a) cs ∧ wt a ≤ Rows.uptoBulk x.1 ∧ ∀ v ∈ cs, v.oneCell' = true
variable {enc P w sp held}
theorem Rd_map {n : Nat} {t : TypeId} {α β : Type} {f : α → List AV} {wt : α → Nat} {f' : β → List AV} {wt' : β → Nat} (c : α → β) (h : Rd enc P w sp held n t f wt) (hf : ∀ a, f' (c a) = f a) (hw : ∀ a, wt' (c a) ≤ wt a) : Rd enc P w sp held n t f' wt' :=
 fun cs x hx => by
  obtain ⟨a, h1, h2, h3⟩ := h cs x hx
  exact ⟨c a, by rw [hf]; exact h1, Nat.le_trans (hw a) h2, h3⟩
theorem Rd_int {t : TypeId} (ht : P.underlying t = some (.int .i64)) (n : Nat) : Rd enc P w sp held n t (fun i : Int => [vI i]) w1 := fun cs x h => by
 obtain ⟨m, rfl, rfl, _⟩ := DataW.trod_int ht h
 exact ⟨m, by simp only [RepL, Rep]; exact ⟨_, _, rfl, ⟨rfl, rfl⟩, rfl⟩, by simp [w1, Rows.uptoBulk], by intro v hv; simp at hv; subst hv; rfl⟩
theorem Rd_bool {t : TypeId} (ht : P.underlying t = some .bool) (n : Nat) : Rd enc P w sp held n t (fun i : Bool => [vB i]) w1 := fun cs x h => by
 obtain ⟨m, rfl, rfl⟩ := DataW.trod_bool ht h
 exact ⟨m, by simp only [RepL, Rep]; exact ⟨_, _, rfl, ⟨rfl, rfl⟩, rfl⟩, by simp [w1, Rows.uptoBulk], by intro v hv; simp at hv; subst hv; rfl⟩
theorem Rd_str {t : TypeId} (ht : P.underlying t = some .string) (n : Nat) : Rd enc P w sp held n t (fun s : ByteArray => [vS s]) wStr := fun cs x h => by
 obtain ⟨s, rfl, rfl, _⟩ := DataW.trod_string ht h
 refine ⟨s, by simp only [RepL, Rep]; exact ⟨_, _, rfl, ⟨rfl, rfl⟩, rfl⟩, ?_, by intro v hv; simp at hv; subst hv; rfl⟩
 have e : s.data.toList.length = s.size := by rw [Array.length_toList]; rfl
 simp only [wStr, Rows.uptoBulk]; omega
theorem add_add (a : Addr) (i j : Nat) : (a.add i).add j = a.add (i + j) := by
 obtain ⟨b, o, s⟩ := a
 unfold Addr.add
 by_cases hi : i = 0
 ·subst hi; simp
 ·by_cases hj : j = 0
  ·subst hj; simp [hi]
  ·simp [hi, hj]; omega
theorem cells_get {a : Addr} {n : Nat} {cs : List Value} (h : w.cells? 0 a n = some cs) : cs.length = n ∧ ∀ j, j < n → w.cell? (a.add j) = cs[j]? := by
 unfold World.cells? at h
 rw [if_pos (Nat.zero_le _)] at h
 exact ⟨by simpa using mapM_some_length h, fun j hj => mapM_some_get h j j (by simp [hj])⟩
def One (sz : Nat) {α : Type} (f : α → List AV) (g : α → AV) : Prop :=
 ∀ (U : Nat → Nat) (w : World) (a : α) (us : List Value), RepL U w (f a) us → us.length = sz → (∀ v ∈ us, v.oneCell' = true) → ∃ u : Value, Rep U w (g a) u ∧ u.cells.toList = us
theorem One_agg {α : Type} {sz : Nat} (f : α → List AV) : One sz f (fun a => .agg (f a)) := fun U w a us h _ h1 => ⟨.agg us.toArray, by simp only [Rep]; exact ⟨_, rfl, by simpa using h, by simpa using h1⟩, by simp [Value.cells]⟩
theorem One_val {α : Type} (g : α → AV) (v : α → Value) (hg : ∀ a, g a = .val (v a)) (hc : ∀ a, (v a).cells = #[v a]) : One 1 (fun a => [g a]) g := fun U w a us h _ h1 => by
 simp only [RepL] at h
 obtain ⟨u, us', rfl, h2, rfl⟩ := h
 refine ⟨u, h2, ?_⟩
 rw [hg] at h2; simp only [Rep] at h2
 rw [h2.1, hc]
theorem slice_go {e : TypeId} {n sz : Nat} {α : Type} {f : α → List AV} {g : α → AV} {wt : α → Nat} (hc : P.cellsOf e = sz) (hR : Rd enc P w sp held n e f wt) (hO : One sz f g) (a : Addr) :
  ∀ (elems : List (DataW H × List MemPlace)) (i0 : Nat), (∀ i, i < elems.length → (w.cells? 0 (a.add ((i0 + i) * sz)) sz).bind (DataW.trod enc P w 0 sp held n e) = elems[i]?) →
   ∃ (l : List α) (es : List Value), RepL (U0 w) w (l.map g) es ∧ l.length = elems.length ∧ (∀ v ∈ es, v.cells.size = sz) ∧ wl wt l ≤ Rows.uptoBulkAll (elems.map (·.1)) ∧
    ∀ j v, (vcells es)[j]? = some v → w.cell? (a.add (i0 * sz + j)) = some v ∧ v.oneCell' = true
 | [], i0, _ => ⟨[], [], by simp [RepL], rfl, by simp, by simp [wl, Rows.uptoBulkAll], by simp [vcells]⟩
 | x :: elems, i0, h => by
  have h0 := h 0 (by simp)
  simp only [Nat.add_zero, List.getElem?_cons_zero, Option.bind_eq_some_iff] at h0
  obtain ⟨cs, hcs, hx⟩ := h0
  obtain ⟨hl, hget⟩ := cells_get hcs
  obtain ⟨y, r1, r2, r3⟩ := hR cs x hx
  obtain ⟨u, u1, u2⟩ := hO _ _ y cs r1 hl r3
  obtain ⟨l, es, k1, k2, k3, k4, k5⟩ := slice_go hc hR hO a elems (i0 + 1) (fun i hi => by
   have := h (i + 1) (by simpa using hi)
   rw [show i0 + 1 + i = i0 + (i + 1) by omega]; simpa using this)
  have hsz : u.cells.size = sz := by rw [← Array.length_toList, u2, hl]
  refine ⟨y :: l, u :: es, by simp only [List.map_cons, RepL]; exact ⟨_, _, rfl, u1, k1⟩, by simp [k2], ?_, by simp only [List.map_cons, wl, Rows.uptoBulkAll]; omega, fun j v hj => ?_⟩
  ·intro v hv; simp only [List.mem_cons] at hv
   rcases hv with rfl | hv
   ·exact hsz
   ·exact k3 v hv
  ·simp only [vcells, List.flatMap_cons, u2] at hj
   by_cases hjl : j < sz
   ·rw [List.getElem?_append_left (by omega)] at hj
    have := hget j hjl
    rw [add_add] at this
    exact ⟨by rw [this, hj], r3 v (List.mem_of_getElem? hj)⟩
   ·rw [List.getElem?_append_right (by omega), hl] at hj
    have := k5 (j - sz) v hj
    rw [show (i0 + 1) * sz + (j - sz) = i0 * sz + j by rw [Nat.add_mul]; omega] at this
    exact this
theorem Rd_slice {t e : TypeId} {n sz : Nat} {α : Type} {f : α → List AV} {g : α → AV} {wt : α → Nat} (ht : P.underlying t = some (.slice e)) (hc : P.cellsOf e = sz) (hz : 0 < sz) (hO : One sz f g) (hR : ∀ m, n = m + 1 → Rd enc P w sp held m e f wt) :
  Rd enc P w sp held n t (fun l : List α => [.sl (l.map g)]) (wl wt) := fun cs x h => by
 rcases DataW.trod_slice ht h with ⟨rfl, rfl⟩ | ⟨a, len, cap, elems, rest, m, rfl, rfl, rfl, hb, hl, hm, hlen, hel, _, _⟩
 ·exact ⟨[], by simp only [List.map_nil, RepL]; exact ⟨_, _, rfl, Rep_nil _ _, rfl⟩, by simp [wl, Rows.uptoBulk], by intro v hv; simp at hv; subst hv; rfl⟩
 ·obtain ⟨l, es, k1, k2, k3, k4, k5⟩ := slice_go hc (hR m rfl) hO a elems 0 (fun i hi => by rw [Nat.zero_add]; have := hel i (by omega); rw [hc] at this; exact this)
  refine ⟨l, ?_, by simp only [Rows.uptoBulk]; omega, by intro v hv; simp at hv; subst hv; rfl⟩
  simp only [RepL]
  refine ⟨_, _, rfl, ?_, rfl⟩
  simp only [Rep]
  have hll : (l.map g).length = len := by simp; omega
  have hes : es.length = len := by have := k1.length; omega
  have hfirst : vcells es ≠ [] → a.spot = none := by
   intro hne
   obtain ⟨v, r, hv⟩ := List.exists_cons_of_ne_nil hne
   have := (k5 0 v (by rw [hv]; rfl)).1
   simp only [Nat.zero_mul, Nat.zero_add, Addr.add, if_true, World.cell?] at this
   split at this
   ·cases hs : a.spot with
    | none => rfl
    | some s => rw [hs] at this; simp at this
   ·simp at this
  refine ⟨some a, cap, es, sz, by rw [hll], k1, k3, by simp, by rw [hll]; exact hl, ?_, ?_⟩
  ·rintro hne ad ⟨⟩
   have hsz : sz ≠ 0 := by omega
   refine hfirst (fun q => ?_)
   have hz := vcells_length es k3
   rw [q] at hz
   simp only [List.length_nil] at hz
   have : es.length = 0 := by
    rcases Nat.mul_eq_zero.1 hz.symm with h | h
    ·exact h
    ·exact absurd h hsz
   apply hne
   have : l.length = 0 := by omega
   simp [List.eq_nil_of_length_eq_zero this]
  ·by_cases hne : vcells es = []
   ·exact .inl hne
   ·right
    have hs := hfirst hne
    obtain ⟨b, off, s⟩ := a
    simp only at hs; subst hs
    refine ⟨b, off, rfl, ?_, fun j v hj => ?_⟩
    ·have hlen : 0 < (vcells es).length := List.length_pos_iff.2 hne
     have hv := List.getElem?_eq_getElem (l := vcells es) (i := (vcells es).length - 1) (by omega)
     have := (k5 _ _ hv).1
     rw [Nat.zero_mul, Nat.zero_add, addr_add] at this
     have := cell_U0 this
     omega
    ·have := k5 j v hj
     rw [Nat.zero_mul, Nat.zero_add, addr_add] at this
     exact this
def RdF (enc : TypeId × Value → H) (P : Program) (w : World) (sp : Nat → Bool) (held : Bool) (n : Nat) (fs : List Field) (o tot : Nat) {α : Type} (f : α → List AV) (wt : α → Nat) : Prop :=
 ∀ (cs : List Value) (xs : List (DataW H × List MemPlace)), cs.length = tot → xs.length = fs.length → (∀ (i : Nat) (fd : Field), fs[i]? = some fd → DataW.trod enc P w 0 sp held n fd.type ((cs.drop fd.offset).take (P.cellsOf fd.type)) = xs[i]?) →
  ∃ a : α, RepL (U0 w) w (f a) (cs.drop o) ∧ wt a ≤ Rows.uptoBulkAll (xs.map (·.1)) ∧ ∀ v ∈ cs.drop o, v.oneCell' = true
theorem RdF_nil {n o : Nat} : RdF enc P w sp held n [] o o (fun _ : Unit => []) (fun _ => 0) := fun cs xs h _ _ => by
 have : cs.drop o = [] := List.drop_eq_nil_of_le (by omega)
 exact ⟨(), by rw [this]; simp [RepL], Nat.zero_le _, by rw [this]; simp⟩
theorem RdF_cons {n o k tot : Nat} {fd : Field} {fs : List Field} {α β : Type} {f : α → List AV} {wt : α → Nat} {g : β → List AV} {wg : β → Nat} (ho : fd.offset = o) (hk : P.cellsOf fd.type = k) (h0 : Rd enc P w sp held n fd.type f wt) (h : RdF enc P w sp held n fs (o + k) tot g wg) :
  RdF enc P w sp held n (fd :: fs) o tot (fun a : α × β => f a.1 ++ g a.2) (fun a => wt a.1 + wg a.2) := fun cs xs hl hx hf => by
 cases xs with
 | nil => simp at hx
 | cons x xs =>
  have e0 := hf 0 fd rfl
  rw [ho, hk] at e0
  obtain ⟨a, a1, a2, a3⟩ := h0 _ x e0
  obtain ⟨b, b1, b2, b3⟩ := h cs xs hl (by simpa using hx) (fun i fd' hi => by simpa using hf (i + 1) fd' (by simpa using hi))
  have hd : cs.drop o = (cs.drop o).take k ++ cs.drop (o + k) := by rw [← List.drop_drop, List.take_append_drop]
  refine ⟨(a, b), by rw [hd]; exact a1.append b1, by simp only [List.map_cons, Rows.uptoBulkAll]; omega, fun v hv => ?_⟩
  rw [hd, List.mem_append] at hv
  rcases hv with hv | hv
  ·exact a3 v hv
  ·exact b3 v hv
theorem Rd_struct {t : TypeId} {fs : Array Field} {n tot : Nat} {α : Type} {f : α → List AV} {wt : α → Nat} (ht : P.underlying t = some (.struct fs)) (hc : P.cellsOf t = tot) (h : ∀ m, n = m + 1 → RdF enc P w sp held m fs.toList 0 tot f wt) : Rd enc P w sp held n t f (fun a => 1 + wt a) := fun cs x hx => by
 obtain ⟨xs, m, rfl, rfl, hl, hlen, hf⟩ := DataW.trod_struct ht hx
 obtain ⟨a, a1, a2, a3⟩ := h m rfl cs xs (by omega) (by simpa using hlen) (fun i fd hi => hf i fd (by simpa using hi))
 exact ⟨a, by simpa using a1, by simp only [Rows.uptoBulk]; omega, by simpa using a3⟩
end
end Go.Proofs.YtdaglbjgdakmcaaGreat
namespace Go.Proofs.YtdaglbjgdakmcaaGreat
open Go Go.Eng
open Go.ChangeShapes Go.WideShapes Go.ChangeAt Go.RowKit
theorem One_aPair : One 2 (fun x : DPair => [(vS ((x).fKey)), (vS ((x).fValue))]) aPair := fun U w a us h1 h2 h3 => by rw [aPair_eq]; exact One_agg (fun x : DPair => [(vS ((x).fKey)), (vS ((x).fValue))]) U w a us h1 h2 h3
theorem Rd_aPair {H : Type} {enc : TypeId × Value → H} {w : World} {sp : Nat → Bool} {held : Bool} (n : Nat) : Rd enc Tryz.prog w sp held n 43 (fun x : DPair => [(vS ((x).fKey)), (vS ((x).fValue))]) wPair := by
 have h := Rd_struct (n := n) (enc := enc) (P := Tryz.prog) (w := w) (sp := sp) (held := held) (tot := 2) Tryz.underlying43 (by kernel_rfl) (fun m hm => (RdF_cons (k := 1) rfl (by kernel_rfl) (Rd_str Tryz.underlying9 m) (RdF_cons (k := 1) rfl (by kernel_rfl) (Rd_str Tryz.underlying9 m) RdF_nil)))
 exact Rd_map (fun a => DPair.mk a.1 a.2.1) h (fun _ => rfl) (fun a => by simp only [wPair_eq, w1]; omega)
theorem Rd_aAttr {H : Type} {enc : TypeId × Value → H} {w : World} {sp : Nat → Bool} {held : Bool} (n : Nat) : Rd enc Tryz.prog w sp held n 38 (fun x : DAttr => [(vS ((x).fID)), (.sl (((x).fClasses).map strAV)), (.sl (((x).fPairs).map aPair))]) wAttr := by
 have h := Rd_struct (n := n) (enc := enc) (P := Tryz.prog) (w := w) (sp := sp) (held := held) (tot := 3) Tryz.underlying38 (by kernel_rfl) (fun m hm => (RdF_cons (k := 1) rfl (by kernel_rfl) (Rd_str Tryz.underlying9 m) (RdF_cons (k := 1) rfl (by kernel_rfl) (Rd_slice (t := 26) (e := 9) (sz := 1) (g := strAV) (wt := wStr) Tryz.underlying26 (by kernel_rfl) (by decide) (One_val strAV Value.string (fun _ => rfl) (fun _ => rfl)) (fun q hq => (Rd_str Tryz.underlying9 q))) (RdF_cons (k := 1) rfl (by kernel_rfl) (Rd_slice (t := 22) (e := 43) (sz := 2) (g := aPair) (wt := wPair) Tryz.underlying22 (by kernel_rfl) (by decide) One_aPair (fun q hq => (Rd_aPair q))) RdF_nil))))
 exact Rd_map (fun a => DAttr.mk a.1 a.2.1 a.2.2.1) h (fun _ => rfl) (fun a => by simp only [wAttr_eq, w1]; omega)
theorem One_aCited : One 4 (fun x : DCited => [(vS ((x).fKey)), (vS ((x).fPrefix)), (vS ((x).fSuffix)), (vB ((x).fBare))]) aCited := fun U w a us h1 h2 h3 => by rw [aCited_eq]; exact One_agg (fun x : DCited => [(vS ((x).fKey)), (vS ((x).fPrefix)), (vS ((x).fSuffix)), (vB ((x).fBare))]) U w a us h1 h2 h3
theorem Rd_aCited {H : Type} {enc : TypeId × Value → H} {w : World} {sp : Nat → Bool} {held : Bool} (n : Nat) : Rd enc Tryz.prog w sp held n 96 (fun x : DCited => [(vS ((x).fKey)), (vS ((x).fPrefix)), (vS ((x).fSuffix)), (vB ((x).fBare))]) wCited := by
 have h := Rd_struct (n := n) (enc := enc) (P := Tryz.prog) (w := w) (sp := sp) (held := held) (tot := 4) Tryz.underlying96 (by kernel_rfl) (fun m hm => (RdF_cons (k := 1) rfl (by kernel_rfl) (Rd_str Tryz.underlying9 m) (RdF_cons (k := 1) rfl (by kernel_rfl) (Rd_str Tryz.underlying9 m) (RdF_cons (k := 1) rfl (by kernel_rfl) (Rd_str Tryz.underlying9 m) (RdF_cons (k := 1) rfl (by kernel_rfl) (Rd_bool Tryz.underlying4 m) RdF_nil)))))
 exact Rd_map (fun a => DCited.mk a.1 a.2.1 a.2.2.1 a.2.2.2.1) h (fun _ => rfl) (fun a => by simp only [wCited_eq, w1]; omega)
theorem One_aInline : One 10 (fun x : DInline => [(vI ((x).fKind)), (vS ((x).fText)), (vS ((x).fDest)), (vS ((x).fTitle)), (vS (((x).fAttr).fID)), (.sl ((((x).fAttr).fClasses).map strAV)), (.sl ((((x).fAttr).fPairs).map aPair)), (.sl (((x).fArgs).map strAV)), (.sl (((x).fCites).map aCited)), (.sl (((x).fKids).map aInline))]) aInline := fun U w a us h1 h2 h3 => by rw [aInline_eq]; exact One_agg (fun x : DInline => [(vI ((x).fKind)), (vS ((x).fText)), (vS ((x).fDest)), (vS ((x).fTitle)), (vS (((x).fAttr).fID)), (.sl ((((x).fAttr).fClasses).map strAV)), (.sl ((((x).fAttr).fPairs).map aPair)), (.sl (((x).fArgs).map strAV)), (.sl (((x).fCites).map aCited)), (.sl (((x).fKids).map aInline))]) U w a us h1 h2 h3
theorem Rd_aInline {H : Type} {enc : TypeId × Value → H} {w : World} {sp : Nat → Bool} {held : Bool} : ∀ n : Nat, Rd enc Tryz.prog w sp held n 41 (fun x : DInline => [(vI ((x).fKind)), (vS ((x).fText)), (vS ((x).fDest)), (vS ((x).fTitle)), (vS (((x).fAttr).fID)), (.sl ((((x).fAttr).fClasses).map strAV)), (.sl ((((x).fAttr).fPairs).map aPair)), (.sl (((x).fArgs).map strAV)), (.sl (((x).fCites).map aCited)), (.sl (((x).fKids).map aInline))]) wInline := fun n => Nat.strongRecOn n (fun n ih => by
 have h := Rd_struct (n := n) (enc := enc) (P := Tryz.prog) (w := w) (sp := sp) (held := held) (tot := 10) Tryz.underlying41 (by kernel_rfl) (fun m hm => (RdF_cons (k := 1) rfl (by kernel_rfl) (Rd_int Tryz.underlying3 m) (RdF_cons (k := 1) rfl (by kernel_rfl) (Rd_str Tryz.underlying9 m) (RdF_cons (k := 1) rfl (by kernel_rfl) (Rd_str Tryz.underlying9 m) (RdF_cons (k := 1) rfl (by kernel_rfl) (Rd_str Tryz.underlying9 m) (RdF_cons (k := 3) rfl (by kernel_rfl) (Rd_aAttr m) (RdF_cons (k := 1) rfl (by kernel_rfl) (Rd_slice (t := 26) (e := 9) (sz := 1) (g := strAV) (wt := wStr) Tryz.underlying26 (by kernel_rfl) (by decide) (One_val strAV Value.string (fun _ => rfl) (fun _ => rfl)) (fun q hq => (Rd_str Tryz.underlying9 q))) (RdF_cons (k := 1) rfl (by kernel_rfl) (Rd_slice (t := 39) (e := 96) (sz := 4) (g := aCited) (wt := wCited) Tryz.underlying39 (by kernel_rfl) (by decide) One_aCited (fun q hq => (Rd_aCited q))) (RdF_cons (k := 1) rfl (by kernel_rfl) (Rd_slice (t := 35) (e := 41) (sz := 10) (g := aInline) (wt := wInline) Tryz.underlying35 (by kernel_rfl) (by decide) One_aInline (fun q hq => (ih q (by omega)))) RdF_nil)))))))))
 exact Rd_map (fun a => DInline.mk a.1 a.2.1 a.2.2.1 a.2.2.2.1 a.2.2.2.2.1 a.2.2.2.2.2.1 a.2.2.2.2.2.2.1 a.2.2.2.2.2.2.2.1) h (fun _ => rfl) (fun a => by simp only [wInline_eq, w1]; omega))
theorem One_aBlock : One 11 (fun x : DBlock => [(vI ((x).fKind)), (vI ((x).fLevel)), (vS ((x).fInfo)), (vS ((x).fText)), (vS ((x).fDest)), (vS ((x).fTitle)), (vS (((x).fAttr).fID)), (.sl ((((x).fAttr).fClasses).map strAV)), (.sl ((((x).fAttr).fPairs).map aPair)), (.sl (((x).fLine).map aInline)), (.sl (((x).fKids).map aBlock))]) aBlock := fun U w a us h1 h2 h3 => by rw [aBlock_eq]; exact One_agg (fun x : DBlock => [(vI ((x).fKind)), (vI ((x).fLevel)), (vS ((x).fInfo)), (vS ((x).fText)), (vS ((x).fDest)), (vS ((x).fTitle)), (vS (((x).fAttr).fID)), (.sl ((((x).fAttr).fClasses).map strAV)), (.sl ((((x).fAttr).fPairs).map aPair)), (.sl (((x).fLine).map aInline)), (.sl (((x).fKids).map aBlock))]) U w a us h1 h2 h3
theorem Rd_aBlock {H : Type} {enc : TypeId × Value → H} {w : World} {sp : Nat → Bool} {held : Bool} : ∀ n : Nat, Rd enc Tryz.prog w sp held n 65 (fun x : DBlock => [(vI ((x).fKind)), (vI ((x).fLevel)), (vS ((x).fInfo)), (vS ((x).fText)), (vS ((x).fDest)), (vS ((x).fTitle)), (vS (((x).fAttr).fID)), (.sl ((((x).fAttr).fClasses).map strAV)), (.sl ((((x).fAttr).fPairs).map aPair)), (.sl (((x).fLine).map aInline)), (.sl (((x).fKids).map aBlock))]) wBlock := fun n => Nat.strongRecOn n (fun n ih => by
 have h := Rd_struct (n := n) (enc := enc) (P := Tryz.prog) (w := w) (sp := sp) (held := held) (tot := 11) Tryz.underlying65 (by kernel_rfl) (fun m hm => (RdF_cons (k := 1) rfl (by kernel_rfl) (Rd_int Tryz.underlying3 m) (RdF_cons (k := 1) rfl (by kernel_rfl) (Rd_int Tryz.underlying3 m) (RdF_cons (k := 1) rfl (by kernel_rfl) (Rd_str Tryz.underlying9 m) (RdF_cons (k := 1) rfl (by kernel_rfl) (Rd_str Tryz.underlying9 m) (RdF_cons (k := 1) rfl (by kernel_rfl) (Rd_str Tryz.underlying9 m) (RdF_cons (k := 1) rfl (by kernel_rfl) (Rd_str Tryz.underlying9 m) (RdF_cons (k := 3) rfl (by kernel_rfl) (Rd_aAttr m) (RdF_cons (k := 1) rfl (by kernel_rfl) (Rd_slice (t := 35) (e := 41) (sz := 10) (g := aInline) (wt := wInline) Tryz.underlying35 (by kernel_rfl) (by decide) One_aInline (fun q hq => (Rd_aInline q))) (RdF_cons (k := 1) rfl (by kernel_rfl) (Rd_slice (t := 23) (e := 65) (sz := 11) (g := aBlock) (wt := wBlock) Tryz.underlying23 (by kernel_rfl) (by decide) One_aBlock (fun q hq => (ih q (by omega)))) RdF_nil))))))))))
 exact Rd_map (fun a => DBlock.mk a.1 a.2.1 a.2.2.1 a.2.2.2.1 a.2.2.2.2.1 a.2.2.2.2.2.1 a.2.2.2.2.2.2.1 a.2.2.2.2.2.2.2.1 a.2.2.2.2.2.2.2.2.1) h (fun _ => rfl) (fun a => by simp only [wBlock_eq, w1]; omega))
theorem Rd_aDoc {H : Type} {enc : TypeId × Value → H} {w : World} {sp : Nat → Bool} {held : Bool} (n : Nat) : Rd enc Tryz.prog w sp held n 25 (fun x : DDoc => [(.sl (((x).fMeta).map aPair)), (.sl (((x).fBlocks).map aBlock))]) wDoc := by
 have h := Rd_struct (n := n) (enc := enc) (P := Tryz.prog) (w := w) (sp := sp) (held := held) (tot := 2) Tryz.underlying25 (by kernel_rfl) (fun m hm => (RdF_cons (k := 1) rfl (by kernel_rfl) (Rd_slice (t := 22) (e := 43) (sz := 2) (g := aPair) (wt := wPair) Tryz.underlying22 (by kernel_rfl) (by decide) One_aPair (fun q hq => (Rd_aPair q))) (RdF_cons (k := 1) rfl (by kernel_rfl) (Rd_slice (t := 23) (e := 65) (sz := 11) (g := aBlock) (wt := wBlock) Tryz.underlying23 (by kernel_rfl) (by decide) One_aBlock (fun q hq => (Rd_aBlock q))) RdF_nil)))
 exact Rd_map (fun a => DDoc.mk a.1 a.2.1) h (fun _ => rfl) (fun a => by simp only [wDoc_eq, w1]; omega)
theorem Rd_strs {H : Type} {enc : TypeId × Value → H} {w : World} {sp : Nat → Bool} {held : Bool} (n : Nat) : Rd enc Tryz.prog w sp held n 26 (fun l : List ByteArray => [.sl (l.map strAV)]) (wl wStr) := (Rd_slice (t := 26) (e := 9) (sz := 1) (g := strAV) (wt := wStr) Tryz.underlying26 (by kernel_rfl) (by decide) (One_val strAV Value.string (fun _ => rfl) (fun _ => rfl)) (fun q hq => (Rd_str Tryz.underlying9 q)))
end Go.Proofs.YtdaglbjgdakmcaaGreat
namespace Go.Proofs.YtdaglbjgdakmcaaGreat
open Go Go.Eng Go.ChangeShapes Go.WideShapes Go.ChangeAt Go.RowKit Go.ChangeMaps
theorem Tryz.own : ownKnob Tryz.prog.godebug = none := by kernel_rfl
theorem Tryz.laidOut : laidOutB Tryz.prog = true := by kernel_rfl
theorem bulk2 {H : Type} {d0 d1 : DataW H} (hk : Rows.uptoSmall H [d0, d1] = true) : Rows.uptoBulk d0 + Rows.uptoBulk d1 ≤ 1048576 := by
 have h : Rows.uptoBulkAll [d0, d1] ≤ 1048576 := of_decide_eq_true hk
 simp only [Rows.uptoBulkAll] at h; omega
theorem condApplies_lifted (os : Os) (started : os.Started) (H : Type) (enc : TypeId × Value → H) (F : Stop.Interp) :
  ReturnsInHanded {} Tryz.checked os 3 .any ((Rows.OpenSpec.upto Rows.condAppliesSpec).pre6 enc Tryz.prog Tryz.f3 Rows.condAppliesUptoRow.domain false) (((Rows.OpenSpec.upto Rows.condAppliesSpec).at F).post enc Tryz.prog Tryz.f3 false true false false) := by
 refine returnsInHanded_of_cond (C := Tryz.checked) (s := Rows.OpenSpec.upto Rows.condAppliesSpec) (k := Rows.uptoSmall) rfl Tryz.own started (by kernel_rfl) Tryz.func3
  (OpenSpec.witness (enc := enc) (C := Tryz.checked) (s := Rows.OpenSpec.upto Rows.condAppliesSpec) (k := Rows.uptoSmall) rfl false ⟨#[], #[.agg #[.slice none 0 0, .slice none 0 0], .slice none 0 0], []⟩ 8 (by kernel_rfl) (by kernel_rfl) (by kernel_rfl)
   (x := ([.agg [.nil, .nil], .nil], [], [])) (by kernel_rfl) rfl (by kernel_rfl)) ?_
 intro W base args ds gs before hval0 hW _ hk _
 have hval : ∀ (j : Nat) t v, Tryz.f3.params[j]? = some t → args[j]? = some v → Value.okWide Tryz.prog W .any base t v := hval0
 have hW' := hW
 obtain ⟨p, q, hA0, hV, rfl, hfz, hnd⟩ := hW'
 have hA : DataW.TrodAll enc Tryz.prog W 0 (fun _ => true) true Tryz.f3.params.toList args.toList ds p := hA0
 rw [Tryz.params3] at hA hval
 obtain ⟨v0, v1, d0, d1, p0, p1, rfl, rfl, rfl, h0, h1⟩ := trodAll_two hA
 obtain ⟨rfl, rfl⟩ := trodVars_none hV
 simp only [List.append_nil] at hW hk
 have hlt : ∀ x ∈ p0 ++ p1, x.block < W.heap.size := fun x hx => by simpa using hW.lt x hx
 obtain ⟨c0, rfl, hc0⟩ := okWide_struct Tryz.underlying25 (hval 0 25 v0 rfl rfl)
 obtain ⟨a1, len1, cap1, rfl⟩ := okWide_slice Tryz.underlying26 (hval 1 26 v1 rfl rfl)
 obtain ⟨n0, f0⟩ := h0
 obtain ⟨n1, f1⟩ := h1
 obtain ⟨d, r0, w0, b0⟩ := Rd_aDoc n0 _ _ f0
 obtain ⟨l, r1, w1, b1⟩ := Rd_strs n1 _ _ f1
 have hb := bulk2 hk
 simp only [] at w0 w1
 have hll := wl_len (w := wStr) wStr_pos l
 have hr : RepL (U0 W) W [cDoc d, .sl (l.map strAV)] [.agg c0, .slice a1 len1 cap1] := by
  simp only [RepL] at r1 ⊢
  obtain ⟨u, u', e1, r1, rfl⟩ := r1
  simp only [Value.cells, List.cons.injEq, and_true] at e1
  subst e1
  exact ⟨_, _, rfl, by simp only [cDoc, Rep]; exact ⟨c0, rfl, r0, b0⟩, _, _, rfl, r1, rfl⟩
 have hcall := capM_to d l (by omega) (by omega)
 rw [capM_true] at hcall
 refine (law_calls hcall hr).mono fun e W' ⟨he, hb'⟩ => ?_
 subst he
 refine ⟨_, rfl, _, _, _, [], p0 ++ p1, [], hW, ?_, ?_, rfl, hb'.frame _, fun h => by cases h⟩
 ·exact trodAll_mk1 (shut_bool Tryz.underlying4 true)
 ·exact trodAll_mk2 (Below.trod Tryz.laidOut (by kernel_rfl) (of_decide_eq_true (by kernel_rfl)) ⟨n0, f0⟩ hb' (fun x hx => hlt x (by simp [hx]))) (Below.trod Tryz.laidOut (by kernel_rfl) (of_decide_eq_true (by kernel_rfl)) ⟨n1, f1⟩ hb' (fun x hx => hlt x (by simp [hx])))
theorem condApplies_holds : Rows.CondAppliesUptoSaid :=
 OpenClaim.holds_of_cond 3 Tryz.f3 rfl rfl rfl rfl rfl rfl rfl ⟨rfl, rfl, rfl, rfl, rfl⟩ rfl rfl rfl rfl rfl (by kernel_rfl) Tryz.func3 (by kernel_rfl)
  (of_decide_eq_true (by kernel_rfl)) (by unfold Func.isWrapper; first | (rw [if_pos (by decide +kernel)]; kernel_rfl) | (rw [if_neg (by decide +kernel)]; exact ⟨rfl, rfl⟩))
  (fun os started H enc _ F => condApplies_lifted os started H enc F)
#print axioms condApplies_holds
end Go.Proofs.YtdaglbjgdakmcaaGreat
