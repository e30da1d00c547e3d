/- Tokens of texts, as lists of bytes. -/
import Derived.Test.YtdaglbjgdakmcaaLaw3
set_option linter.unusedSimpArgs false
set_option linter.unusedVariables false
namespace Go.Proofs.Ytdaglbjgdakmcaa
open Go Go.Eng

def sep (c : UInt8) : Bool := c == 32 || c == 40 || c == 41
def nsep (c : UInt8) : Bool := !sep c
def mkB (l : List UInt8) : ByteArray := ⟨l.toArray⟩

def tklN : Nat → List UInt8 → List ByteArray
  | 0, _ => []
  | _, [] => []
  | n + 1, c :: r => if c == 32 then tklN n r else if sep c then mkB [c] :: tklN n r else mkB (c :: r.takeWhile nsep) :: tklN n (r.dropWhile nsep)
def tkl (l : List UInt8) : List ByteArray := tklN l.length l

theorem tklN_eq : ∀ (n m : Nat) (l : List UInt8), l.length ≤ n → l.length ≤ m → tklN n l = tklN m l
  | 0, m, l, h1, h2 => by
    have : l = [] := List.length_eq_zero_iff.1 (by omega)
    subst this
    cases m <;> simp [tklN]
  | n + 1, 0, l, h1, h2 => by
    have : l = [] := List.length_eq_zero_iff.1 (by omega)
    subst this; simp [tklN]
  | n + 1, m + 1, [], h1, h2 => by simp [tklN]
  | n + 1, m + 1, c :: r, h1, h2 => by
    simp only [List.length_cons] at h1 h2
    have hd : (r.dropWhile nsep).length ≤ r.length := (List.dropWhile_sublist nsep).length_le
    simp only [tklN]
    rw [tklN_eq n m r (by omega) (by omega), tklN_eq n m (r.dropWhile nsep) (by omega) (by omega)]
theorem tkl_nil : tkl [] = [] := rfl
theorem tkl_sp (r : List UInt8) : tkl (32 :: r) = tkl r := by simp [tkl, tklN]
theorem tkl_par (c : UInt8) (r : List UInt8) (h : c = 40 ∨ c = 41) : tkl (c :: r) = mkB [c] :: tkl r := by
  rcases h with rfl | rfl <;> simp [tkl, tklN, sep]
theorem tkl_word (c : UInt8) (r : List UInt8) (h : sep c = false) : tkl (c :: r) = mkB (c :: r.takeWhile nsep) :: tkl (r.dropWhile nsep) := by
  have h32 : (c == 32) = false := by simp only [sep, Bool.or_eq_false_iff] at h; exact h.1.1
  have hd : (r.dropWhile nsep).length ≤ r.length := (List.dropWhile_sublist nsep).length_le
  simp only [tkl, List.length_cons, tklN, h32, h, Bool.false_eq_true, if_false]
  rw [tklN_eq r.length (r.dropWhile nsep).length _ hd (Nat.le_refl _)]
theorem sep_cases {c : UInt8} (h : sep c = true) : c = 32 ∨ c = 40 ∨ c = 41 := by
  simp only [sep, Bool.or_eq_true, beq_iff_eq] at h
  rcases h with (h | h) | h
  · exact .inl h
  · exact .inr (.inl h)
  · exact .inr (.inr h)

/-- What follows a text begins with a separator. -/
def Brk (r : List UInt8) : Prop := ∀ c, r.head? = some c → sep c = true
theorem brk_nil : Brk [] := by intro c h; simp at h
theorem brk_cons {c : UInt8} {r : List UInt8} (h : sep c = true) : Brk (c :: r) := by intro d hd; simp at hd; subst hd; exact h
theorem brk_take {r : List UInt8} (h : Brk r) : r.takeWhile nsep = [] ∧ r.dropWhile nsep = r := by
  cases r with
  | nil => simp
  | cons c r =>
    have hc := h c rfl
    have : nsep c = false := by simp [nsep, hc]
    simp [this]
theorem take_app {r : List UInt8} (h : Brk r) : ∀ l : List UInt8, (l ++ r).takeWhile nsep = l.takeWhile nsep ∧ (l ++ r).dropWhile nsep = l.dropWhile nsep ++ r
  | [] => by simpa using brk_take h
  | c :: l => by
    obtain ⟨h1, h2⟩ := take_app h l
    simp only [List.cons_append, List.takeWhile_cons, List.dropWhile_cons, h1, h2]
    split <;> simp
theorem tkl_app {r : List UInt8} (h : Brk r) : ∀ (n : Nat) (l : List UInt8), l.length ≤ n → tkl (l ++ r) = tkl l ++ tkl r
  | 0, l, hl => by
    have : l = [] := List.length_eq_zero_iff.1 (by omega)
    subst this; simp [tkl_nil]
  | n + 1, [], _ => by simp [tkl_nil]
  | n + 1, c :: l, hl => by
    simp only [List.length_cons] at hl
    simp only [List.cons_append]
    cases hs : sep c with
    | true =>
      rcases sep_cases hs with rfl | hc
      · rw [tkl_sp, tkl_sp, tkl_app h n l (by omega)]
      · rw [tkl_par c _ hc, tkl_par c _ hc, tkl_app h n l (by omega)]; rfl
    | false =>
      obtain ⟨h1, h2⟩ := take_app h l
      have hd : (l.dropWhile nsep).length ≤ l.length := (List.dropWhile_sublist nsep).length_le
      rw [tkl_word c _ hs, tkl_word c _ hs, h1, h2, tkl_app h n _ (by omega)]; rfl
theorem tkl_cat {l r : List UInt8} (h : Brk r) : tkl (l ++ r) = tkl l ++ tkl r := tkl_app h l.length l (Nat.le_refl _)
/-- A word is one token. -/
theorem tkl_one {l : List UInt8} (h0 : l ≠ []) (h : ∀ c ∈ l, sep c = false) : tkl l = [mkB l] := by
  match l, h0 with
  | c :: r, _ =>
    have h1 : ∀ d ∈ r, nsep d = true := fun d hd => by simp [nsep, h d (by simp [hd])]
    obtain ⟨e1, e2⟩ : r.takeWhile nsep = r ∧ r.dropWhile nsep = [] := by
      clear h
      induction r with
      | nil => simp
      | cons d r ih =>
        obtain ⟨i1, i2⟩ := ih (by simp) (fun x hx => h1 x (by simp [hx]))
        simp [List.takeWhile_cons, List.dropWhile_cons, h1 d (by simp), i1, i2]
    rw [tkl_word c r (h c (by simp)), e1, e2, tkl_nil]

/-! ### the same tokens -/
theorem byt_drop {s : ByteArray} {i : Nat} (h : i < s.size) : ∃ c : UInt8, s.data.toList.drop i = c :: s.data.toList.drop (i + 1) ∧ byt s i = c.toNat := by
  have hl : i < s.data.toList.length := by simpa using h
  refine ⟨s.data.toList[i], List.drop_eq_getElem_cons hl, ?_⟩
  have h2 : i < s.data.size := h
  simp [byt, Array.getD, h]
theorem sep_byt (c : UInt8) : sepB ((c.toNat : Nat) : Int) = sep c := by
  have e : ∀ n : Nat, n < 256 → (((c.toNat : Nat) : Int) == (n : Int)) = (c == (UInt8.ofNat n)) := by
    intro n hn
    rw [natbeq, Bool.eq_iff_iff]; simp only [beq_iff_eq]
    constructor
    · intro h; rw [← h]; simp
    · intro h; rw [h]; simp; omega
  simp only [sepB, sep]
  rw [show (32 : Int) = ((32 : Nat) : Int) from rfl, show (40 : Int) = ((40 : Nat) : Int) from rfl, show (41 : Int) = ((41 : Nat) : Int) from rfl, e 32 (by omega), e 40 (by omega), e 41 (by omega)]
  rfl
theorem ext_data (s : ByteArray) (a b : Nat) : (s.extract a b).data.toList = (s.data.toList.drop a).take (b - a) := by
  rw [ByteArray.data_extract]; simp [List.extract_eq_take_drop] 
theorem wend_drop (s : ByteArray) : ∀ (n k : Nat), s.size - k = n → k ≤ s.size → (s.data.toList.drop k).takeWhile nsep = (s.data.toList.drop k).take (wend s k - k) ∧ (s.data.toList.drop k).dropWhile nsep = s.data.toList.drop (wend s k) := by
  intro n
  induction n with
  | zero =>
    intro k h1 h2
    have : s.data.toList.drop k = [] := List.drop_eq_nil_of_le (by simp; omega)
    rw [wend_stop s k (by omega), this]; simp
  | succ n ih =>
    intro k h1 h2
    obtain ⟨c, hc, hb⟩ := byt_drop (s := s) (i := k) (by omega)
    cases hs : sepB ((byt s k : Nat) : Int) with
    | true =>
      rw [wend_sep s k hs, hc]
      have : nsep c = false := by rw [hb, sep_byt] at hs; simp [nsep, hs]
      simp [this]
    | false =>
      obtain ⟨i1, i2⟩ := ih (k + 1) (by omega) (by omega)
      have hgt := wend_gt s k (by omega) hs
      have hw := wend_step s k (by omega) hs
      have hn : nsep c = true := by rw [hb, sep_byt] at hs; simp [nsep, hs]
      rw [hc]
      simp only [List.takeWhile_cons, List.dropWhile_cons, hn, if_true]
      rw [i1, i2, ← hw]
      refine ⟨?_, rfl⟩
      rw [show wend s k - k = wend s k - (k + 1) + 1 by omega, List.take_succ_cons]
theorem toks_tkl (s : ByteArray) : ∀ (n i : Nat), s.size - i = n → toks s i = tkl (s.data.toList.drop i) := by
  intro n
  induction n using Nat.strongRecOn with
  | _ n ih =>
    intro i hn
    by_cases hi : s.size ≤ i
    · rw [toks_end s i hi, List.drop_eq_nil_of_le (by simpa using hi)]; rfl
    · have hlt : i < s.size := by omega
      obtain ⟨c, hc, hb⟩ := byt_drop hlt
      have hsb := sep_byt c
      rw [← hb] at hsb
      cases hs : sep c with
      | true =>
        rw [hs] at hsb
        by_cases h32 : ((byt s i : Nat) : Int) = 32
        · have hc32 : c = 32 := by
            rcases sep_cases hs with h | h | h
            · exact h
            · subst h; rw [hb] at h32; exact absurd h32 (by decide)
            · subst h; rw [hb] at h32; exact absurd h32 (by decide)
          rw [toks_sp s i hlt h32, ih (s.size - (i + 1)) (by omega) (i + 1) rfl, hc, hc32, tkl_sp]
        · have hp : ((byt s i : Nat) : Int) = 40 ∨ ((byt s i : Nat) : Int) = 41 := by
            simp only [sepB, Bool.or_eq_true, beq_iff_eq] at hsb
            rcases hsb with (h | h) | h
            · exact absurd h h32
            · exact .inl h
            · exact .inr h
          have hc4 : c = 40 ∨ c = 41 := by
            rcases sep_cases hs with h | h
            · subst h; rw [hb] at h32; exact absurd rfl h32
            · exact h
          rw [toks_par s i hlt hp, ih (s.size - (i + 1)) (by omega) (i + 1) rfl, hc, tkl_par c _ hc4]
          congr 1
          refine ba_ext (Array.toList_inj.1 ?_)
          rw [ext_data, hc]; simp [mkB]
      | false =>
        rw [hs] at hsb
        have hgt := wend_gt s i hlt hsb
        obtain ⟨w1, w2⟩ := wend_drop s _ i rfl (by omega)
        have hn' : nsep c = true := by simp [nsep, hs]
        rw [hc] at w1 w2
        simp only [List.takeWhile_cons, List.dropWhile_cons, hn', if_true] at w1 w2
        rw [toks_word s i hlt hsb, ih (s.size - wend s i) (by omega) (wend s i) rfl, hc, tkl_word c _ hs, w2]
        congr 1
        refine ba_ext (Array.toList_inj.1 ?_)
        rw [ext_data, hc, ← w1]; simp [mkB]
theorem toks_eq (s : ByteArray) : toks s 0 = tkl s.data.toList := by rw [toks_tkl s _ 0 rfl]; rfl

end Go.Proofs.Ytdaglbjgdakmcaa
