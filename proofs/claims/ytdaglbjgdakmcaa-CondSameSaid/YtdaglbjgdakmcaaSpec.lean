/- Tokens and nodes. -/
import Derived.Test.YtdaglbjgdakmcaaPlain
set_option linter.unusedSimpArgs false
set_option linter.unusedVariables false
namespace Go.Proofs.Ytdaglbjgdakmcaa
open Go Go.Eng

/-! ### tokens -/
def sepB (c : Int) : Bool := c == 32 || c == 40 || c == 41
def wendN (s : ByteArray) : Nat → Nat → Nat
  | 0, k => k
  | n + 1, k => if sepB (byt s k) then k else wendN s n (k + 1)
def wend (s : ByteArray) (k : Nat) : Nat := wendN s (s.size - k) k
def toksN (s : ByteArray) : Nat → Nat → List ByteArray
  | 0, _ => []
  | n + 1, i => if s.size ≤ i then [] else if byt s i == 32 then toksN s n (i + 1)
    else if byt s i == 40 || byt s i == 41 then s.extract i (i + 1) :: toksN s n (i + 1)
    else s.extract i (wend s i) :: toksN s n (wend s i)
def toks (s : ByteArray) (i : Nat) : List ByteArray := toksN s (s.size - i) i

theorem wend_stop (s : ByteArray) (k : Nat) (h : s.size ≤ k) : wend s k = k := by
  unfold wend; rw [show s.size - k = 0 by omega]; rfl
theorem wend_sep (s : ByteArray) (k : Nat) (h : sepB ((byt s k : Nat) : Int) = true) : wend s k = k := by
  unfold wend
  cases hn : s.size - k with
  | zero => rfl
  | succ n => rw [wendN, if_pos h]
theorem wend_step (s : ByteArray) (k : Nat) (h : k < s.size) (hb : sepB ((byt s k : Nat) : Int) = false) : wend s k = wend s (k + 1) := by
  unfold wend
  rw [show s.size - k = s.size - (k + 1) + 1 by omega, wendN, if_neg (by simp [hb])]
theorem wend_le (s : ByteArray) : ∀ (n k : Nat), s.size - k = n → k ≤ s.size → wend s k ≤ s.size ∧ k ≤ wend s k := by
  intro n
  induction n with
  | zero => intro k h1 h2; rw [wend_stop s k (by omega)]; omega
  | succ n ih =>
    intro k h1 h2
    cases hb : sepB ((byt s k : Nat) : Int) with
    | true => rw [wend_sep s k hb]; omega
    | false => rw [wend_step s k (by omega) hb]; have := ih (k + 1) (by omega) (by omega); omega
theorem wend_gt (s : ByteArray) (k : Nat) (h : k < s.size) (hb : sepB ((byt s k : Nat) : Int) = false) : wend s k ≤ s.size ∧ k < wend s k := by
  rw [wend_step s k h hb]; have := wend_le s (s.size - (k + 1)) (k + 1) rfl (by omega); omega

theorem byt_ne {a b : Nat} (h : ((a : Nat) : Int) ≠ (b : Nat)) : (a == b) = false := by
  rw [Bool.eq_false_iff]; intro h2; have := eq_of_beq h2; subst this; exact h rfl

theorem sep_false {c : Nat} (h : sepB (c : Int) = false) : (c == 32) = false ∧ (c == 40) = false ∧ (c == 41) = false := by
  simp only [sepB, Bool.or_eq_false_iff] at h
  obtain ⟨⟨h1, h2⟩, h3⟩ := h
  have f : ∀ n : Nat, (((c : Nat) : Int) == (n : Int)) = false → (c == n) = false := fun n hn => by rw [← natbeq]; exact hn
  exact ⟨f 32 h1, f 40 h2, f 41 h3⟩

/-- More than enough rounds change nothing. -/
theorem toksN_eq (s : ByteArray) : ∀ (n m i : Nat), s.size - i ≤ n → s.size - i ≤ m → toksN s n i = toksN s m i := by
  intro n
  induction n with
  | zero =>
    intro m i h1 h2
    cases m with
    | zero => rfl
    | succ m => rw [toksN, toksN, if_pos (by omega)]
  | succ n ih =>
    intro m i h1 h2
    cases m with
    | zero => rw [toksN, toksN, if_pos (by omega)]
    | succ m =>
      rw [toksN, toksN]
      by_cases hi : s.size ≤ i
      · rw [if_pos hi, if_pos hi]
      · rw [if_neg hi, if_neg hi]
        split
        · exact ih m (i + 1) (by omega) (by omega)
        · split
          · rw [ih m (i + 1) (by omega) (by omega)]
          · rename_i h3 h4
            have hs : sepB ((byt s i : Nat) : Int) = false := by
              simp only [sepB]
              have e : ∀ n : Nat, (((byt s i : Nat) : Int) == (n : Int)) = (byt s i == n) := fun n => natbeq _ _
              rw [show (32 : Int) = ((32 : Nat) : Int) from rfl, show (40 : Int) = ((40 : Nat) : Int) from rfl, show (41 : Int) = ((41 : Nat) : Int) from rfl, e, e, e]
              simp_all
            have := wend_gt s i (by omega) hs
            rw [ih m (wend s i) (by omega) (by omega)]

theorem toks_end (s : ByteArray) (i : Nat) (h : s.size ≤ i) : toks s i = [] := by
  unfold toks; rw [show s.size - i = 0 by omega]; rfl
theorem toks_sp (s : ByteArray) (i : Nat) (h : i < s.size) (hb : ((byt s i : Nat) : Int) = 32) : toks s i = toks s (i + 1) := by
  unfold toks
  rw [show s.size - i = s.size - (i + 1) + 1 by omega, toksN, if_neg (by omega), if_pos (by simp; omega)]
theorem toks_par (s : ByteArray) (i : Nat) (h : i < s.size) (hb : ((byt s i : Nat) : Int) = 40 ∨ ((byt s i : Nat) : Int) = 41) : toks s i = s.extract i (i + 1) :: toks s (i + 1) := by
  unfold toks
  rw [show s.size - i = s.size - (i + 1) + 1 by omega, toksN, if_neg (by omega), if_neg (by simp; omega), if_pos (by simp; omega)]
theorem toks_word (s : ByteArray) (i : Nat) (h : i < s.size) (hb : sepB ((byt s i : Nat) : Int) = false) : toks s i = s.extract i (wend s i) :: toks s (wend s i) := by
  have hw := wend_gt s i h hb
  obtain ⟨h1, h2, h3⟩ := sep_false hb
  unfold toks
  rw [show s.size - i = s.size - (i + 1) + 1 by omega, toksN, if_neg (by omega), if_neg (by simp [h1]), if_neg (by simp [h2, h3]), toksN_eq s _ (s.size - wend s i) _ (by omega) (by omega)]

/-- No separator from a on before b, and one (or the end) at b. -/
theorem wend_is (s : ByteArray) : ∀ (n a b : Nat), b - a = n → a ≤ b → b ≤ s.size → (∀ j, a ≤ j → j < b → sepB ((byt s j : Nat) : Int) = false) → (b = s.size ∨ sepB ((byt s b : Nat) : Int) = true) → wend s a = b := by
  intro n
  induction n with
  | zero =>
    intro a b h1 h2 h3 _ h5
    have : a = b := by omega
    subst this
    rcases h5 with h5 | h5
    · exact wend_stop s a (by omega)
    · exact wend_sep s a h5
  | succ n ih =>
    intro a b h1 h2 h3 h4 h5
    rw [wend_step s a (by omega) (h4 a (Nat.le_refl _) (by omega))]
    exact ih (a + 1) b (by omega) (by omega) h3 (fun j q1 q2 => h4 j (by omega) q2) h5

theorem toks_cut (s : ByteArray) (f i : Nat) (hf : f ≤ i) (hi : i ≤ s.size) (hN : ∀ j, f ≤ j → j < i → sepB ((byt s j : Nat) : Int) = false) (he : i = s.size ∨ sepB ((byt s i : Nat) : Int) = true) :
    toks s f = (if f < i then [s.extract f i] else []) ++ ((if i < s.size ∧ ((byt s i : Nat) : Int) ≠ 32 then [s.extract i (i + 1)] else []) ++ toks s (i + 1)) := by
  have tail : toks s i = (if i < s.size ∧ ((byt s i : Nat) : Int) ≠ 32 then [s.extract i (i + 1)] else []) ++ toks s (i + 1) := by
    rcases he with he | he
    · rw [if_neg (by omega), toks_end s i (by omega), toks_end s (i + 1) (by omega)]; rfl
    · by_cases hlt : i < s.size
      · by_cases h32 : ((byt s i : Nat) : Int) = 32
        · rw [if_neg (by omega), toks_sp s i hlt h32]; rfl
        · rw [if_pos ⟨hlt, h32⟩, toks_par s i hlt]; rfl
          simp only [sepB, Bool.or_eq_true, beq_iff_eq] at he
          rcases he with (he | he) | he
          · exact absurd he h32
          · exact .inl he
          · exact .inr he
      · rw [if_neg (by omega), toks_end s i (by omega), toks_end s (i + 1) (by omega)]; rfl
  by_cases hlt : f < i
  · rw [if_pos hlt, toks_word s f (by omega) (hN f (Nat.le_refl _) hlt), wend_is s (i - f) f i rfl hf hi hN he, tail]; rfl
  · have : f = i := by omega
    subst this
    rw [if_neg hlt, tail]; rfl

theorem nsep_snoc {s : ByteArray} {f i : Nat} (hN : ∀ j, f ≤ j → j < i → sepB ((byt s j : Nat) : Int) = false) (h : sepB ((byt s i : Nat) : Int) = false) : ∀ j, f ≤ j → j < i + 1 → sepB ((byt s j : Nat) : Int) = false := by
  intro j h1 h2
  rcases Nat.lt_or_ge j i with h3 | h3
  · exact hN j h1 h3
  · have : j = i := by omega
    subst this; exact h
theorem nsep_none {s : ByteArray} {i : Nat} : ∀ j, i + 1 ≤ j → j < i + 1 → sepB ((byt s j : Nat) : Int) = false := by intro j h1 h2; omega

/-- Whether a list has a string, from the i-th on. -/
def hasI (l : List ByteArray) (s : ByteArray) (i : Nat) : Bool := (l.drop i).any (fun x => eqs x s)
theorem hasI_end (l : List ByteArray) (s : ByteArray) (i : Nat) (h : l.length ≤ i) : hasI l s i = false := by
  simp [hasI, List.drop_eq_nil_of_le h]
theorem hasI_step (l : List ByteArray) (s : ByteArray) (i : Nat) (h : i < l.length) : hasI l s i = (eqs (nth l i) s || hasI l s (i + 1)) := by
  simp only [hasI]
  rw [List.drop_eq_getElem_cons h, List.any_cons]
  simp only [nth, List.getD_eq_getElem?_getD, List.getElem?_eq_getElem h, Option.getD_some]

/-! ### nodes -/
inductive Nd where
  | mk (kind : Int) (name : ByteArray) (kids : List Nd)
def Nd.kind : Nd → Int | .mk k _ _ => k
def Nd.name : Nd → ByteArray | .mk _ n _ => n
def Nd.kids : Nd → List Nd | .mk _ _ l => l
def nd0 : Nd := .mk 0 ⟨#[]⟩ []
mutual
def av1 : Nd → AV
  | .mk k n l => .agg [.val (.int .i64 k), .val (.string n), .sl (av2 l)]
def av2 : List Nd → List AV
  | [] => []
  | x :: l => av1 x :: av2 l
end
def nav (x : Nd) : AV := .agg [.val (.int .i64 x.kind), .val (.string x.name), .sl (av2 x.kids)]
theorem av1_eq (x : Nd) : av1 x = nav x := by cases x; simp only [av1, nav, Nd.kind, Nd.name, Nd.kids]
theorem av2_eq : ∀ l : List Nd, av2 l = l.map nav
  | [] => by simp only [av2]; rfl
  | x :: l => by simp only [av2, av1_eq, av2_eq l]; rfl
theorem av2_len (l : List Nd) : (av2 l).length = l.length := by rw [av2_eq]; simp
theorem av2_app (l : List Nd) (x : Nd) : av2 l ++ [nav x] = av2 (l ++ [x]) := by rw [av2_eq, av2_eq]; simp
theorem av2_cat (l m : List Nd) : av2 l ++ av2 m = av2 (l ++ m) := by rw [av2_eq, av2_eq, av2_eq]; simp
def ndth (l : List Nd) (i : Nat) : Nd := l.getD i nd0
theorem av2_at {l : List Nd} {i : Nat} (h : i < l.length) : 0 ≤ (i : Int) ∧ (av2 l)[i]? = some (nav (ndth l i)) := by
  refine ⟨by omega, ?_⟩
  rw [av2_eq]; simp [ndth, List.getElem?_map, List.getElem?_eq_getElem h]
theorem av2_uni (l : List Nd) : Uni 3 (av2 l) := by
  rw [av2_eq]
  intro x hx
  simp only [List.mem_map] at hx
  obtain ⟨y, _, rfl⟩ := hx
  simp [nav, AV.cells, AV.isTup]

end Go.Proofs.Ytdaglbjgdakmcaa
