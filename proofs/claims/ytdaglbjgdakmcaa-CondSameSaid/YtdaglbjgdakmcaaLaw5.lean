/- The reference's reader over lists of tokens. -/
import Derived.Test.YtdaglbjgdakmcaaLaw4
set_option linter.unusedSimpArgs false
set_option linter.unusedVariables false
namespace Go.Proofs.Ytdaglbjgdakmcaa
open Go Go.Eng

abbrev FR := Option (Nd × Nat × List ByteArray)
def f1 (rec lst : List ByteArray → FR) : List ByteArray → FR
  | [] => none
  | x :: r =>
    if eqs x ⟨#[111, 114]⟩ then none else if eqs x ⟨#[97, 110, 100]⟩ then none else if eqs x ⟨#[41]⟩ then none
    else if eqs x ⟨#[110, 111, 116]⟩ then match rec r with
      | some (y, h, q) => some (.mk 4 ⟨#[]⟩ [y], h + 1, q)
      | none => none
    else if eqs x ⟨#[40]⟩ then match lst r with
      | some (y, h, c :: q) => if eqs c ⟨#[41]⟩ then some (y, h + 1, q) else none
      | _ => none
    else if eqs x ⟨#[116, 114, 117, 101]⟩ then some (.mk 2 ⟨#[]⟩ [], 0, r)
    else if eqs x ⟨#[102, 97, 108, 115, 101]⟩ then some (.mk 3 ⟨#[]⟩ [], 0, r)
    else some (.mk 1 x [], 0, r)
def fl (opnd : List ByteArray → FR) (word : ByteArray) (op : Int) : Nat → List ByteArray → List Nd → Nat → FR
  | 0, _, _, _ => none
  | m + 1, ts, acc, h => match opnd ts with
    | none => none
    | some (y, h', []) => some (grp op (acc ++ [y]), max h h', [])
    | some (y, h', c :: q) => if eqs c word then fl opnd word op m q (acc ++ [y]) (max h h') else some (grp op (acc ++ [y]), max h h', c :: q)
def fand (g : List ByteArray → FR) (ts : List ByteArray) : FR := fl g ⟨#[97, 110, 100]⟩ 5 (ts.length + 1) ts [] 0
def foor (g : List ByteArray → FR) (ts : List ByteArray) : FR := fl (fand g) ⟨#[111, 114]⟩ 6 (ts.length + 1) ts [] 0
def fone : Nat → List ByteArray → FR
  | 0 => f1 (fun _ => none) (fun _ => none)
  | n + 1 => f1 (fone n) (foor (fone n))

/-- The same by places and by lists. -/
def Li (t : List ByteArray) (i l : Nat) (r : RR) (o : FR) : Prop :=
  match o with
  | none => r.ok = false
  | some (y, h, q) => r.ok = true ∧ r.nd = y ∧ r.most = ((l + h : Nat) : Int) ∧ i < r.to ∧ r.to ≤ t.length ∧ q = t.drop r.to

theorem nth_drop {t : List ByteArray} {i : Nat} (h : i < t.length) : t.drop i = nth t i :: t.drop (i + 1) := by
  rw [List.drop_eq_getElem_cons h]; simp [nth, List.getElem?_eq_getElem h]

theorem li_one {rec' lst' : Nat → Nat → RR} {rec lst : List ByteArray → FR} {t : List ByteArray} (hr : ∀ i l, i ≤ t.length → Li t i l (rec' i l) (rec (t.drop i))) (hl : ∀ i l, i ≤ t.length → Li t i l (lst' i l) (lst (t.drop i))) (i l : Nat) (hi : i ≤ t.length) :
    Li t i l (oneR rec' lst' t i l) (f1 rec lst (t.drop i)) := by
  unfold oneR
  by_cases h0 : t.length ≤ i
  · rw [if_pos h0, List.drop_eq_nil_of_le h0]; simp [f1, Li, rbad]
  · have hlt : i < t.length := by omega
    rw [if_neg h0, nth_drop hlt]
    simp only [f1]
    split
    · simp [Li, rbad]
    split
    · simp [Li, rbad]
    split
    · simp [Li, rbad]
    split
    · have := hr (i + 1) (l + 1) (by omega)
      cases hx : rec (t.drop (i + 1)) with
      | none => rw [hx] at this; simpa [Li] using this
      | some v =>
        obtain ⟨y, h, q⟩ := v
        rw [hx] at this
        obtain ⟨a1, a2, a3, a4, a5, a6⟩ := this
        exact ⟨a1, by simp only; rw [a2], by simp only; rw [a3]; omega, by simp only; omega, a5, a6⟩
    split
    · have := hl (i + 1) (l + 1) (by omega)
      cases hx : lst (t.drop (i + 1)) with
      | none => rw [hx] at this; simp only [Li] at this; rw [if_pos this]; simp [Li, rbad]
      | some v =>
        obtain ⟨y, h, q⟩ := v
        rw [hx] at this
        obtain ⟨a1, a2, a3, a4, a5, a6⟩ := this
        rw [if_neg (by rw [a1]; simp)]
        by_cases h3 : t.length ≤ (lst' (i + 1) (l + 1)).to
        · rw [if_pos h3]
          have : q = [] := by rw [a6]; exact List.drop_eq_nil_of_le h3
          subst this; simp [Li, rbad]
        · rw [if_neg h3]
          rw [nth_drop (by omega)] at a6
          subst a6
          simp only
          cases hc : eqs (nth t (lst' (i + 1) (l + 1)).to) ⟨#[41]⟩ with
          | false => simp [Li, rbad]
          | true =>
            simp only [Bool.true_eq_false, if_false, if_true]
            exact ⟨rfl, a2, by simp only; rw [a3]; omega, by simp only; omega, by simp only; omega, rfl⟩
    split
    · exact ⟨rfl, rfl, by simp, by simp, by simp only; omega, rfl⟩
    split
    · exact ⟨rfl, rfl, by simp, by simp, by simp only; omega, rfl⟩
    · exact ⟨rfl, rfl, by simp, by simp, by simp only; omega, rfl⟩

theorem li_list {opnd' : Nat → RR} {opnd : List ByteArray → FR} {word : ByteArray} {op : Int} {t : List ByteArray} {l : Nat} (ho : ∀ i, i ≤ t.length → Li t i l (opnd' i) (opnd (t.drop i))) (i0 : Nat) :
    ∀ (m m' i : Nat) (acc : List Nd) (most : Int) (h : Nat), i ≤ t.length → i0 ≤ i → t.length < i + m → t.length < i + m' → ((acc = [] ∧ most = 0 ∧ h = 0) ∨ most = ((l + h : Nat) : Int)) →
      Li t i0 l (listR opnd' word op t m i acc most) (fl opnd word op m' (t.drop i) acc h)
  | 0, m', i, acc, most, h, hi, h0, hm, hm', hh => by omega
  | m + 1, 0, i, acc, most, h, hi, h0, hm, hm', hh => by omega
  | m + 1, m' + 1, i, acc, most, h, hi, h0, hm, hm', hh => by
    simp only [listR, fl]
    have := ho i hi
    cases hx : opnd (t.drop i) with
    | none => rw [hx] at this; simp only [Li] at this; rw [if_pos this]; simp [Li, rbad]
    | some v =>
      obtain ⟨y, h', q⟩ := v
      rw [hx] at this
      obtain ⟨a1, a2, a3, a4, a5, a6⟩ := this
      rw [if_neg (by rw [a1]; simp)]
      have hmost : max most (opnd' i).most = ((l + max h h' : Nat) : Int) := by
        rw [a3]
        rcases hh with ⟨_, rfl, rfl⟩ | rfl <;> omega
      by_cases h3 : t.length ≤ (opnd' i).to
      · rw [if_pos h3]
        have : q = [] := by rw [a6]; exact List.drop_eq_nil_of_le h3
        subst this
        exact ⟨rfl, by simp only; rw [a2], hmost, by simp only; omega, a5, a6⟩
      · rw [if_neg h3]
        have a7 := a6
        rw [nth_drop (by omega)] at a6
        subst a6
        simp only
        cases hc : eqs (nth t (opnd' i).to) word with
        | false =>
          simp only [Bool.false_eq_true, if_false, if_true]
          exact ⟨rfl, by simp only; rw [a2], hmost, by simp only; omega, a5, a7⟩
        | true =>
          simp only [Bool.true_eq_false, if_false, if_true]
          rw [a2]
          exact li_list ho i0 m m' _ _ _ _ (by omega) (by omega) (by omega) (by omega) (.inr hmost)

theorem li_and {one' : Nat → Nat → RR} {one : List ByteArray → FR} {t : List ByteArray} (h : ∀ i l, i ≤ t.length → Li t i l (one' i l) (one (t.drop i))) (i l : Nat) (hi : i ≤ t.length) : Li t i l (randR one' t i l) (fand one (t.drop i)) :=
  li_list (fun i hi => h i l hi) i _ _ i [] 0 0 hi (Nat.le_refl _) (by omega) (by simp; omega) (.inl ⟨rfl, rfl, rfl⟩)
theorem li_or {one' : Nat → Nat → RR} {one : List ByteArray → FR} {t : List ByteArray} (h : ∀ i l, i ≤ t.length → Li t i l (one' i l) (one (t.drop i))) (i l : Nat) (hi : i ≤ t.length) : Li t i l (rorR one' t i l) (foor one (t.drop i)) :=
  li_list (fun i hi => li_and h i l hi) i _ _ i [] 0 0 hi (Nat.le_refl _) (by omega) (by simp; omega) (.inl ⟨rfl, rfl, rfl⟩)
theorem li_rone (t : List ByteArray) : ∀ (n i l : Nat), i ≤ t.length → Li t i l (rone t n i l) (fone n (t.drop i))
  | 0, i, l, hi => li_one (fun i l _ => by simp [Li, rbad]) (fun i l _ => by simp [Li, rbad]) i l hi
  | n + 1, i, l, hi => li_one (li_rone t n) (li_or (li_rone t n)) i l hi

/-- What Read says, by lists. -/
def readL (t : List ByteArray) : Nd × Int :=
  if badI t 0 then (nd0, 6) else match foor (fone t.length) t with
    | some (y, h, []) => if h > 16 then (nd0, 11) else (y, 0)
    | _ => (nd0, 5)
theorem readT_L (t : List ByteArray) : readT t = readL t := by
  unfold readT readL
  split
  · rfl
  · have := li_or (li_rone t t.length) 0 0 (Nat.zero_le _)
    rw [List.drop_zero] at this
    change Li t 0 0 (rtop t) _ at this
    cases hx : foor (fone t.length) t with
    | none => rw [hx] at this; simp only [Li] at this; rw [if_pos this]
    | some v =>
      obtain ⟨y, h, q⟩ := v
      rw [hx] at this
      obtain ⟨a1, a2, a3, a4, a5, a6⟩ := this
      rw [if_neg (by rw [a1]; simp)]
      cases q with
      | nil =>
        have hl : t.length ≤ (rtop t).to := by
          rcases Nat.lt_or_ge (rtop t).to t.length with h1 | h1
          · rw [nth_drop h1] at a6; simp at a6
          · exact h1
        rw [if_neg (by omega)]
        simp only
        by_cases h16 : h > 16
        · rw [if_pos (by rw [a3]; omega), if_pos h16]
        · rw [if_neg (by rw [a3]; omega), if_neg h16, a2]
      | cons c q =>
        have hl : (rtop t).to ≠ t.length := by
          intro h1; rw [h1, List.drop_length] at a6; simp at a6
        rw [if_pos hl]

end Go.Proofs.Ytdaglbjgdakmcaa
