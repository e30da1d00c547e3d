/- Reading a part of a text is reading it alone; and, or, not of texts. -/
import Derived.Test.YtdaglbjgdakmcaaLaw5
set_option linter.unusedSimpArgs false
set_option linter.unusedVariables false
namespace Go.Proofs.Ytdaglbjgdakmcaa
open Go Go.Eng

def LeF (g g' : List ByteArray → FR) : Prop := ∀ ts v, g ts = some v → g' ts = some v

theorem f1_mono {rec rec' lst lst' : List ByteArray → FR} (hr : LeF rec rec') (hl : LeF lst lst') : LeF (f1 rec lst) (f1 rec' lst') := by
  intro ts v h
  cases ts with
  | nil => simp [f1] at h
  | cons x r =>
    simp only [f1] at h ⊢
    split at h
    · simp at h
    rename_i h1; rw [if_neg h1]
    split at h
    · simp at h
    rename_i h2; rw [if_neg h2]
    split at h
    · simp at h
    rename_i h3; rw [if_neg h3]
    split at h
    · rename_i h4; rw [if_pos h4]
      cases hx : rec r with
      | none => rw [hx] at h; simp at h
      | some w => rw [hx] at h; rw [hr r w hx]; exact h
    rename_i h4; rw [if_neg h4]
    split at h
    · rename_i h5; rw [if_pos h5]
      cases hx : lst r with
      | none => rw [hx] at h; simp at h
      | some w => rw [hx] at h; rw [hl r w hx]; exact h
    rename_i h5; rw [if_neg h5]
    exact h

theorem fl_mono {opnd opnd' : List ByteArray → FR} {word : ByteArray} {op : Int} (ho : LeF opnd opnd') : ∀ (m m' : Nat) (ts : List ByteArray) (acc : List Nd) (h : Nat) (v : Nd × Nat × List ByteArray), m ≤ m' → fl opnd word op m ts acc h = some v → fl opnd' word op m' ts acc h = some v
  | 0, m', ts, acc, h, v, hm, hv => by simp [fl] at hv
  | m + 1, 0, ts, acc, h, v, hm, hv => by omega
  | m + 1, m' + 1, ts, acc, h, v, hm, hv => by
    simp only [fl] at hv ⊢
    cases hx : opnd ts with
    | none => rw [hx] at hv; simp at hv
    | some w =>
      obtain ⟨y, h', q⟩ := w
      rw [hx] at hv
      rw [ho ts _ hx]
      cases q with
      | nil => exact hv
      | cons c q =>
        simp only at hv ⊢
        split at hv
        · rename_i hc; rw [if_pos hc]; exact fl_mono ho m m' q _ _ v (by omega) hv
        · rename_i hc; rw [if_neg hc]; exact hv
theorem fand_mono {g g' : List ByteArray → FR} (h : LeF g g') : LeF (fand g) (fand g') := fun ts v hv => fl_mono h _ _ ts [] 0 v (Nat.le_refl _) hv
theorem foor_mono {g g' : List ByteArray → FR} (h : LeF g g') : LeF (foor g) (foor g') := fun ts v hv => fl_mono (fand_mono h) _ _ ts [] 0 v (Nat.le_refl _) hv
theorem fone_succ : ∀ n, LeF (fone n) (fone (n + 1))
  | 0 => f1_mono (fun ts v h => by simp at h) (fun ts v h => by simp at h)
  | n + 1 => f1_mono (fone_succ n) (foor_mono (fone_succ n))
theorem fone_mono {n m : Nat} (h : n ≤ m) : LeF (fone n) (fone m) := by
  induction m with
  | zero => have : n = 0 := by omega
            subst this; exact fun _ _ h => h
  | succ m ih =>
    rcases Nat.lt_or_ge m n with h1 | h1
    · have : n = m + 1 := by omega
      subst this; exact fun _ _ h => h
    · exact fun ts v hv => fone_succ m ts v (ih h1 ts v hv)

/-- The next token is not this word. -/
def Nw (word : ByteArray) (c : List ByteArray) : Prop := ∀ x, c.head? = some x → eqs x word = false
def Loc (g : List ByteArray → FR) (C : List ByteArray → Prop) : Prop := ∀ ts y h q c, g ts = some (y, h, q) → (q ≠ [] ∨ C c) → g (ts ++ c) = some (y, h, q ++ c)

theorem f1_loc {rec lst : List ByteArray → FR} {C : List ByteArray → Prop} (hr : Loc rec (fun _ => True)) (hl : Loc lst C) : Loc (f1 rec lst) (fun _ => True) := by
  intro ts y h q c hv _
  cases ts with
  | nil => simp [f1] at hv
  | cons x r =>
    simp only [f1, List.cons_append] at hv ⊢
    split at hv
    · simp at hv
    rename_i h1; rw [if_neg h1]
    split at hv
    · simp at hv
    rename_i h2; rw [if_neg h2]
    split at hv
    · simp at hv
    rename_i h3; rw [if_neg h3]
    split at hv
    · rename_i h4; rw [if_pos h4]
      cases hx : rec r with
      | none => rw [hx] at hv; simp at hv
      | some w =>
        obtain ⟨y', h', q'⟩ := w
        rw [hx] at hv
        simp only [Option.some.injEq, Prod.mk.injEq] at hv
        obtain ⟨rfl, rfl, rfl⟩ := hv
        rw [hr r y' h' q' c hx (.inr trivial)]
    rename_i h4; rw [if_neg h4]
    split at hv
    · rename_i h5; rw [if_pos h5]
      cases hx : lst r with
      | none => rw [hx] at hv; simp at hv
      | some w =>
        obtain ⟨y', h', q'⟩ := w
        rw [hx] at hv
        cases q' with
        | nil => simp at hv
        | cons d q' =>
          simp only at hv
          split at hv
          · rename_i hd
            simp only [Option.some.injEq, Prod.mk.injEq] at hv
            obtain ⟨rfl, rfl, rfl⟩ := hv
            rw [hl r y' h' (d :: q') c hx (.inl (by simp))]
            simp only [List.cons_append]
            rw [if_pos hd]
          · simp at hv
    rename_i h5; rw [if_neg h5]
    split at hv
    · rename_i h6; rw [if_pos h6]
      simp only [Option.some.injEq, Prod.mk.injEq] at hv
      obtain ⟨rfl, rfl, rfl⟩ := hv; rfl
    rename_i h6; rw [if_neg h6]
    split at hv
    · rename_i h7; rw [if_pos h7]
      simp only [Option.some.injEq, Prod.mk.injEq] at hv
      obtain ⟨rfl, rfl, rfl⟩ := hv; rfl
    · rename_i h7; rw [if_neg h7]
      simp only [Option.some.injEq, Prod.mk.injEq] at hv
      obtain ⟨rfl, rfl, rfl⟩ := hv; rfl

theorem fl_loc {opnd : List ByteArray → FR} {word : ByteArray} {op : Int} {C : List ByteArray → Prop} (ho : Loc opnd C) : ∀ (m : Nat) (ts : List ByteArray) (acc : List Nd) (h : Nat) (y : Nd) (h' : Nat) (q c : List ByteArray),
    fl opnd word op m ts acc h = some (y, h', q) → (q ≠ [] ∨ (C c ∧ Nw word c)) → fl opnd word op m (ts ++ c) acc h = some (y, h', q ++ c)
  | 0, ts, acc, h, y, h', q, c, hv, _ => by simp [fl] at hv
  | m + 1, ts, acc, h, y, h', q, c, hv, hq => by
    simp only [fl] at hv ⊢
    cases hx : opnd ts with
    | none => rw [hx] at hv; simp at hv
    | some w =>
      obtain ⟨y1, h1, q1⟩ := w
      rw [hx] at hv
      cases q1 with
      | nil =>
        simp only [Option.some.injEq, Prod.mk.injEq] at hv
        obtain ⟨rfl, rfl, rfl⟩ := hv
        rcases hq with hq | ⟨hc, hn⟩
        · simp at hq
        · rw [ho ts y1 h1 [] c hx (.inr hc)]
          cases c with
          | nil => rfl
          | cons x c => simp only [List.nil_append]; rw [hn x rfl]; rfl
      | cons d q1 =>
        rw [ho ts y1 h1 (d :: q1) c hx (.inl (by simp))]
        simp only [List.cons_append] at hv ⊢
        split at hv
        · rename_i hd; rw [if_pos hd]; exact fl_loc ho m q1 _ _ y h' q c hv hq
        · rename_i hd; rw [if_neg hd]
          simp only [Option.some.injEq, Prod.mk.injEq] at hv
          obtain ⟨rfl, rfl, rfl⟩ := hv; rfl
theorem fand_loc {g : List ByteArray → FR} (h : Loc g (fun _ => True)) : Loc (fand g) (Nw ⟨#[97, 110, 100]⟩) := by
  intro ts y h' q c hv hq
  have := fl_loc h _ ts [] 0 y h' q c hv (hq.imp id (fun hc => ⟨trivial, hc⟩))
  exact fl_mono (fun _ _ h => h) _ _ _ _ _ _ (by simp) this
def NoW (c : List ByteArray) : Prop := Nw ⟨#[97, 110, 100]⟩ c ∧ Nw ⟨#[111, 114]⟩ c
theorem foor_loc {g : List ByteArray → FR} (h : Loc g (fun _ => True)) : Loc (foor g) NoW := by
  intro ts y h' q c hv hq
  have := fl_loc (fand_loc h) _ ts [] 0 y h' q c hv hq
  exact fl_mono (fun _ _ h => h) _ _ _ _ _ _ (by simp) this
theorem fone_loc : ∀ n, Loc (fone n) (fun _ => True)
  | 0 => f1_loc (C := fun _ => True) (fun ts y h q c hv _ => by simp at hv) (fun ts y h q c hv _ => by simp at hv)
  | n + 1 => f1_loc (fone_loc n) (foor_loc (fone_loc n))

theorem now_close (c : List ByteArray) : NoW (⟨#[41]⟩ :: c) := ⟨fun x hx => by simp at hx; subst hx; decide, fun x hx => by simp at hx; subst hx; decide⟩

/-- In parentheses. -/
theorem rd_paren {n N : Nat} {S : List ByteArray} {x : Nd} {a : Nat} (h : foor (fone n) S = some (x, a, [])) (hN : n + 1 ≤ N) (c : List ByteArray) : fone N (⟨#[40]⟩ :: (S ++ ⟨#[41]⟩ :: c)) = some (x, a + 1, c) := by
  obtain ⟨M, rfl⟩ : ∃ M, N = M + 1 := ⟨N - 1, by omega⟩
  have h1 := foor_mono (fone_mono (show n ≤ M by omega)) S _ h
  have h2 := foor_loc (fone_loc M) S x a [] (⟨#[41]⟩ :: c) h1 (.inr (now_close c))
  simp only [fone, f1]
  rw [if_neg (by decide), if_neg (by decide), if_neg (by decide), if_neg (by decide), if_pos (by decide), h2]
  simp only [List.nil_append]
  rw [if_pos (by decide)]

theorem fl_two {opnd : List ByteArray → FR} {word w : ByteArray} {op : Int} {m : Nat} {ts us : List ByteArray} {x y : Nd} {a b : Nat} (hw : eqs w word = true) (h1 : opnd ts = some (x, a, w :: us)) (h2 : opnd us = some (y, b, [])) : fl opnd word op (m + 2) ts [] 0 = some (grp op [x, y], max a b, []) := by
  simp only [fl, h1, h2, hw, if_true, List.nil_append, List.cons_append]
  simp
theorem fl_single {opnd : List ByteArray → FR} {word : ByteArray} {op : Int} {m : Nat} {ts q : List ByteArray} {x : Nd} {a : Nat} (h1 : opnd ts = some (x, a, q)) (hq : Nw word q) : fl opnd word op (m + 1) ts [] 0 = some (x, a, q) := by
  have hg : grp op [x] = x := by simp [grp, ndth]
  simp only [fl, h1, List.nil_append]
  cases q with
  | nil => simp only [hg]; simp
  | cons c q => simp only [hq c rfl, Bool.false_eq_true, if_false, hg]; simp

theorem nw_nil (w : ByteArray) : Nw w [] := fun x hx => by simp at hx

theorem rd_and {n m N : Nat} {S T : List ByteArray} {x y : Nd} {a b : Nat} (hS : foor (fone n) S = some (x, a, [])) (hT : foor (fone m) T = some (y, b, [])) (hN : n + 1 ≤ N) (hM : m + 1 ≤ N) :
    foor (fone N) (⟨#[40]⟩ :: (S ++ ⟨#[41]⟩ :: ⟨#[97, 110, 100]⟩ :: ⟨#[40]⟩ :: (T ++ [⟨#[41]⟩]))) = some (grp 5 [x, y], max (a + 1) (b + 1), []) := by
  have h1 := rd_paren hS hN (⟨#[97, 110, 100]⟩ :: ⟨#[40]⟩ :: (T ++ [⟨#[41]⟩]))
  have h2 := rd_paren hT hM []
  unfold foor
  refine fl_single ?_ (nw_nil _)
  unfold fand
  obtain ⟨k, hk⟩ : ∃ k, (⟨#[40]⟩ :: (S ++ ⟨#[41]⟩ :: ⟨#[97, 110, 100]⟩ :: ⟨#[40]⟩ :: (T ++ [(⟨#[41]⟩ : ByteArray)]))).length + 1 = k + 2 := ⟨_, by simp; rfl⟩
  rw [hk]
  exact fl_two (by decide) h1 h2
theorem rd_or {n m N : Nat} {S T : List ByteArray} {x y : Nd} {a b : Nat} (hS : foor (fone n) S = some (x, a, [])) (hT : foor (fone m) T = some (y, b, [])) (hN : n + 1 ≤ N) (hM : m + 1 ≤ N) :
    foor (fone N) (⟨#[40]⟩ :: (S ++ ⟨#[41]⟩ :: ⟨#[111, 114]⟩ :: ⟨#[40]⟩ :: (T ++ [⟨#[41]⟩]))) = some (grp 6 [x, y], max (a + 1) (b + 1), []) := by
  have h1 := rd_paren hS hN (⟨#[111, 114]⟩ :: ⟨#[40]⟩ :: (T ++ [⟨#[41]⟩]))
  have h2 := rd_paren hT hM []
  have g1 : fand (fone N) (⟨#[40]⟩ :: (S ++ ⟨#[41]⟩ :: ⟨#[111, 114]⟩ :: ⟨#[40]⟩ :: (T ++ [⟨#[41]⟩]))) = some (x, a + 1, ⟨#[111, 114]⟩ :: ⟨#[40]⟩ :: (T ++ [⟨#[41]⟩])) :=
    fl_single h1 (fun z hz => by simp at hz; subst hz; decide)
  have g2 : fand (fone N) (⟨#[40]⟩ :: (T ++ [⟨#[41]⟩])) = some (y, b + 1, []) := fl_single h2 (nw_nil _)
  unfold foor
  obtain ⟨k, hk⟩ : ∃ k, (⟨#[40]⟩ :: (S ++ ⟨#[41]⟩ :: ⟨#[111, 114]⟩ :: ⟨#[40]⟩ :: (T ++ [(⟨#[41]⟩ : ByteArray)]))).length + 1 = k + 2 := ⟨_, by simp; rfl⟩
  rw [hk]
  exact fl_two (by decide) g1 g2
theorem rd_not {n N : Nat} {S : List ByteArray} {x : Nd} {a : Nat} (hS : foor (fone n) S = some (x, a, [])) (hN : n + 2 ≤ N) :
    foor (fone N) (⟨#[110, 111, 116]⟩ :: ⟨#[40]⟩ :: (S ++ [⟨#[41]⟩])) = some (.mk 4 ⟨#[]⟩ [x], a + 2, []) := by
  obtain ⟨M, rfl⟩ : ∃ M, N = M + 1 := ⟨N - 1, by omega⟩
  have h1 := rd_paren hS (show n + 1 ≤ M by omega) []
  have h2 : fone (M + 1) (⟨#[110, 111, 116]⟩ :: ⟨#[40]⟩ :: (S ++ [⟨#[41]⟩])) = some (.mk 4 ⟨#[]⟩ [x], a + 2, []) := by
    simp only [fone, f1]
    rw [if_neg (by decide), if_neg (by decide), if_neg (by decide), if_pos (by decide), h1]
  exact fl_single (fl_single h2 (nw_nil _)) (nw_nil _)

/-! ### the texts -/
/-- The value of a text whose tokens are known. -/
theorem eval_of {s : ByteArray} {fl t : List ByteArray} {y : Nd} {h : Nat} (hs : s.size ≤ 4096) (ht : toks s 0 = t) (hb : badI t 0 = false) (hr : foor (fone t.length) t = some (y, h, [])) : evalP s fl = if h > 16 then (false, 11) else (valR fl y, 0) := by
  rw [← evalPR]
  have h1 : readR s = if h > 16 then (nd0, 11) else (y, 0) := by
    unfold readR
    rw [if_neg (by omega), ht, readT_L]
    unfold readL
    rw [if_neg (by rw [hb]; simp), hr]
  unfold evalR
  rw [h1]
  by_cases h16 : h > 16
  · simp [h16]
  · simp [h16]
/-- What is known of a text that is read. -/
theorem eval_ok {s : ByteArray} {fl : List ByteArray} (h : (evalP s fl).2 = 0) : s.size ≤ 4096 ∧ badI (toks s 0) 0 = false ∧ ∃ y a, foor (fone (toks s 0).length) (toks s 0) = some (y, a, []) ∧ a ≤ 16 ∧ (evalP s fl).1 = valR fl y ∧ (readR s).1 = y := by
  rw [← evalPR] at h ⊢
  have h0 : (readR s).2 = 0 := by
    unfold evalR at h; split at h
    · assumption
    · exact h
  have h1 : (evalR s fl).1 = valR fl (readR s).1 := by unfold evalR; rw [if_pos h0]
  rw [h1]
  unfold readR at h0 ⊢
  split at h0
  · simp at h0
  rename_i hs
  rw [if_neg hs]
  rw [readT_L] at h0 ⊢
  unfold readL at h0 ⊢
  split at h0
  · simp at h0
  rename_i hb
  rw [if_neg hb]
  refine ⟨by omega, by simpa using hb, ?_⟩
  split at h0
  · rename_i y a hx
    rw [hx]
    split at h0
    · simp at h0
    · rename_i ha; exact ⟨y, a, rfl, by omega, by simp [ha], by simp [ha]⟩
  · simp at h0

theorem badI_app (a b : List ByteArray) : badI (a ++ b) 0 = (badI a 0 || badI b 0) := by simp [badI]
theorem badI_cons (x : ByteArray) (b : List ByteArray) : badI (x :: b) 0 = (badF x || badI b 0) := by simp [badI]
theorem dl (a b : ByteArray) : (a ++ b).data.toList = a.data.toList ++ b.data.toList := by simp

theorem spec_bad {x : ByteArray} (h : specB x = true) : badF x = false := by simp [badF, h]

theorem tk_and (s t : ByteArray) : toks (⟨#[40]⟩ ++ s ++ ⟨#[41, 32, 97, 110, 100, 32, 40]⟩ ++ t ++ ⟨#[41]⟩) 0 = ⟨#[40]⟩ :: (toks s 0 ++ ⟨#[41]⟩ :: ⟨#[97, 110, 100]⟩ :: ⟨#[40]⟩ :: (toks t 0 ++ [⟨#[41]⟩])) := by
  rw [toks_eq, toks_eq, toks_eq]
  simp only [dl, List.append_assoc]
  show tkl (40 :: (s.data.toList ++ (41 :: 32 :: 97 :: 110 :: 100 :: 32 :: 40 :: (t.data.toList ++ [41])))) = _
  rw [tkl_par 40 _ (.inl rfl), tkl_cat (brk_cons rfl), tkl_par 41 _ (.inr rfl), tkl_sp, tkl_word 97 _ rfl]
  rw [show List.takeWhile nsep (110 :: 100 :: 32 :: 40 :: (t.data.toList ++ [41])) = [110, 100] from rfl, show List.dropWhile nsep (110 :: 100 :: 32 :: 40 :: (t.data.toList ++ [41])) = 32 :: 40 :: (t.data.toList ++ [41]) from rfl, tkl_sp, tkl_par 40 _ (.inl rfl), tkl_cat (brk_cons rfl), tkl_par 41 _ (.inr rfl), tkl_nil]
  rfl
theorem tk_or (s t : ByteArray) : toks (⟨#[40]⟩ ++ s ++ ⟨#[41, 32, 111, 114, 32, 40]⟩ ++ t ++ ⟨#[41]⟩) 0 = ⟨#[40]⟩ :: (toks s 0 ++ ⟨#[41]⟩ :: ⟨#[111, 114]⟩ :: ⟨#[40]⟩ :: (toks t 0 ++ [⟨#[41]⟩])) := by
  rw [toks_eq, toks_eq, toks_eq]
  simp only [dl, List.append_assoc]
  show tkl (40 :: (s.data.toList ++ (41 :: 32 :: 111 :: 114 :: 32 :: 40 :: (t.data.toList ++ [41])))) = _
  rw [tkl_par 40 _ (.inl rfl), tkl_cat (brk_cons rfl), tkl_par 41 _ (.inr rfl), tkl_sp, tkl_word 111 _ rfl]
  rw [show List.takeWhile nsep (114 :: 32 :: 40 :: (t.data.toList ++ [41])) = [114] from rfl, show List.dropWhile nsep (114 :: 32 :: 40 :: (t.data.toList ++ [41])) = 32 :: 40 :: (t.data.toList ++ [41]) from rfl, tkl_sp, tkl_par 40 _ (.inl rfl), tkl_cat (brk_cons rfl), tkl_par 41 _ (.inr rfl), tkl_nil]
  rfl
theorem tk_not (s : ByteArray) : toks (⟨#[110, 111, 116, 32, 40]⟩ ++ s ++ ⟨#[41]⟩) 0 = ⟨#[110, 111, 116]⟩ :: ⟨#[40]⟩ :: (toks s 0 ++ [⟨#[41]⟩]) := by
  rw [toks_eq, toks_eq]
  simp only [dl, List.append_assoc]
  show tkl (110 :: 111 :: 116 :: 32 :: 40 :: (s.data.toList ++ [41])) = _
  rw [tkl_word 110 _ rfl]
  rw [show List.takeWhile nsep (111 :: 116 :: 32 :: 40 :: (s.data.toList ++ [41])) = [111, 116] from rfl, show List.dropWhile nsep (111 :: 116 :: 32 :: 40 :: (s.data.toList ++ [41])) = 32 :: 40 :: (s.data.toList ++ [41]) from rfl, tkl_sp, tkl_par 40 _ (.inl rfl), tkl_cat (brk_cons rfl), tkl_par 41 _ (.inr rfl), tkl_nil]
  rfl

theorem val_grp5 (fl : List ByteArray) (x y : Nd) : valR fl (grp 5 [x, y]) = (valR fl x && valR fl y) := by
  have : grp 5 [x, y] = .mk 5 ⟨#[]⟩ (gkids 5 [x, y]) := by simp [grp]
  rw [this]; simp [valR, valG5, all_gkids]
theorem val_grp6 (fl : List ByteArray) (x y : Nd) : valR fl (grp 6 [x, y]) = (valR fl x || valR fl y) := by
  have : grp 6 [x, y] = .mk 6 ⟨#[]⟩ (gkids 6 [x, y]) := by simp [grp]
  rw [this]; simp [valR, valG6, any_gkids]
theorem val_not (fl : List ByteArray) (x : Nd) : valR fl (.mk 4 ⟨#[]⟩ [x]) = !valR fl x := by simp [valR, valH]

theorem laws_all {s t : ByteArray} {fl : List ByteArray} (hs : s.size ≤ 600) (ht : t.size ≤ 600) (h1 : (evalP s fl).2 = 0) (h2 : (evalP t fl).2 = 0) : ∃ D E : Nat,
    evalP (⟨#[40]⟩ ++ s ++ ⟨#[41, 32, 97, 110, 100, 32, 40]⟩ ++ t ++ ⟨#[41]⟩) fl = (if D > 16 then (false, 11) else ((evalP s fl).1 && (evalP t fl).1, 0)) ∧
    evalP (⟨#[40]⟩ ++ s ++ ⟨#[41, 32, 111, 114, 32, 40]⟩ ++ t ++ ⟨#[41]⟩) fl = (if D > 16 then (false, 11) else ((evalP s fl).1 || (evalP t fl).1, 0)) ∧
    evalP (⟨#[110, 111, 116, 32, 40]⟩ ++ s ++ ⟨#[41]⟩) fl = (if E > 16 then (false, 11) else (!(evalP s fl).1, 0)) := by
  obtain ⟨_, b1, x, a, r1, _, v1, _⟩ := eval_ok h1
  obtain ⟨_, b2, y, b, r2, _, v2, _⟩ := eval_ok h2
  refine ⟨max (a + 1) (b + 1), a + 2, ?_, ?_, ?_⟩
  · rw [v1, v2, ← val_grp5]
    refine eval_of ?_ (tk_and s t) ?_ (rd_and r1 r2 (by simp) (by simp; omega))
    · simp only [ByteArray.size_append]
      rw [show ByteArray.size ⟨#[40]⟩ = 1 from rfl, show ByteArray.size ⟨#[41, 32, 97, 110, 100, 32, 40]⟩ = 7 from rfl, show ByteArray.size ⟨#[41]⟩ = 1 from rfl]; omega
    · simp only [badI_cons, badI_app, b1, b2]; decide
  · rw [v1, v2, ← val_grp6]
    refine eval_of ?_ (tk_or s t) ?_ (rd_or r1 r2 (by simp) (by simp; omega))
    · simp only [ByteArray.size_append]
      rw [show ByteArray.size ⟨#[40]⟩ = 1 from rfl, show ByteArray.size ⟨#[41, 32, 111, 114, 32, 40]⟩ = 6 from rfl, show ByteArray.size ⟨#[41]⟩ = 1 from rfl]; omega
    · simp only [badI_cons, badI_app, b1, b2]; decide
  · rw [v1, ← val_not]
    refine eval_of ?_ (tk_not s) ?_ (rd_not r1 (by simp))
    · simp only [ByteArray.size_append]
      rw [show ByteArray.size ⟨#[110, 111, 116, 32, 40]⟩ = 5 from rfl, show ByteArray.size ⟨#[41]⟩ = 1 from rfl]; omega
    · simp only [badI_cons, badI_app, b1]; decide

theorem few_of {a b : Nat} (h : fewB a b = true) : a ≤ 600 ∧ b ≤ 40 := by simpa [fewB] using h
theorem app_le {x y : ByteArray} {a b : Nat} (hx : x.size ≤ a) (hy : y.size ≤ b) : (x ++ y).size ≤ a + b := by rw [ByteArray.size_append]; omega
theorem le_max {n m : Nat} (h : n ≤ m) (hm : m ≤ 5000) : n ≤ maxLen := by unfold maxLen; omega
theorem cat_le {x y : ByteArray} {a b : Nat} (hx : x.size ≤ a) (hy : y.size ≤ b) (h : a + b ≤ 5000) : ((ByteArray.size x + ByteArray.size y : Nat) : Int) ≤ IntKind.i64.max := by
  simp [IntKind.max, IntKind.signed, IntKind.bits]; omega
theorem zA7 : ByteArray.size ⟨#[41, 32, 97, 110, 100, 32, 40]⟩ = 7 := rfl
theorem zO6 : ByteArray.size ⟨#[41, 32, 111, 114, 32, 40]⟩ = 6 := rfl
theorem zN5 : ByteArray.size ⟨#[110, 111, 116, 32, 40]⟩ = 5 := rfl

end Go.Proofs.Ytdaglbjgdakmcaa
