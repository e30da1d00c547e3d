/- Values and normal forms of the program and of the reference are the same. -/
import Derived.Test.YtdaglbjgdakmcaaLaw1
set_option linter.unusedSimpArgs false
set_option linter.unusedVariables false
namespace Go.Proofs.Ytdaglbjgdakmcaa
open Go Go.Eng

mutual
/-- Trees that the program's reader makes. -/
def gP : Nd → Prop
  | .mk k nm kids => ((k = 1 ∨ k = 2) ∧ 2 ≤ kids.length ∨ k = 3 ∧ kids.length = 1 ∨ (k = 4 ∨ k = 5) ∧ kids = [] ∨ k = 6 ∧ kids = [] ∧ specB nm = false) ∧ gPs kids
def gPs : List Nd → Prop
  | [] => True
  | x :: l => gP x ∧ gPs l
end
theorem gPs_iff : ∀ l, gPs l ↔ ∀ x ∈ l, gP x
  | [] => by simp [gPs]
  | x :: l => by simp [gPs, gPs_iff l]
theorem gP_one {rec cnd : Nat → Int → Nat → PR} {t : List ByteArray} (hr : ∀ p d l, (rec p d l).ok = true → gP (rec p d l).nd) (hc : ∀ p d l, (cnd p d l).ok = true → gP (cnd p d l).nd) (p : Nat) (d : Int) (l : Nat) (h : (oneP rec cnd t p d l).ok = true) : gP (oneP rec cnd t p d l).nd := by
  unfold oneP at h ⊢
  split at h
  · rename_i h1; rw [if_pos h1]; simp only [gP, gPs]; exact ⟨.inr (.inl ⟨trivial, rfl⟩), hr _ _ _ h, trivial⟩
  rename_i h1; rw [if_neg h1]
  split at h
  · rename_i h2; rw [if_pos h2]
    split at h
    · rename_i h3; rw [if_pos h3]; exact hc _ _ _ h3
    · simp at h
  rename_i h2; rw [if_neg h2]
  split at h
  · rename_i h3; rw [if_pos h3]; simp [gP, gPs]
  rename_i h3; rw [if_neg h3]
  split at h
  · rename_i h4; rw [if_pos h4]; simp [gP, gPs]
  rename_i h4; rw [if_neg h4]
  split at h
  · simp at h
  rename_i h5; rw [if_neg h5]
  split at h
  · simp at h
  rename_i h6; rw [if_neg h6]
  simp only [gP, gPs]; exact ⟨.inr (.inr (.inr ⟨trivial, trivial, by simpa using h6⟩)), trivial⟩
theorem gP_mk {k : Int} (hk : k = 1 ∨ k = 2) {l : List Nd} (h : ∀ x ∈ l, gP x) (hl : l ≠ []) : gP (mkP k l) := by
  unfold mkP
  split
  · rename_i h1
    match l, h1 with
    | [x], _ => simpa [ndth] using h
  · rename_i h1
    simp only [gP]
    refine ⟨.inl ⟨hk, ?_⟩, (gPs_iff l).2 h⟩
    have := List.length_pos_iff.2 hl; omega
theorem gP_list {opnd : Nat → Int → PR} {word : ByteArray} {k : Int} (hk : k = 1 ∨ k = 2) {t : List ByteArray} (ho : ∀ p d, (opnd p d).ok = true → gP (opnd p d).nd) :
    ∀ (m p : Nat) (d : Int) (acc : List Nd), (∀ x ∈ acc, gP x) → (listP opnd word k t m p d acc).ok = true → gP (listP opnd word k t m p d acc).nd
  | 0, p, d, acc, _, h => by simp [listP] at h
  | m + 1, p, d, acc, ha, h => by
    simp only [listP] at h ⊢
    split at h
    · simp at h
    rename_i h1; rw [if_neg h1]
    have ha' : ∀ x ∈ acc ++ [(opnd p d).nd], gP x := by
      intro x hx
      rcases List.mem_append.1 hx with hx | hx
      · exact ha x hx
      · simp at hx; subst hx; exact ho p d (by simpa using h1)
    split at h
    · rename_i h2; rw [if_pos h2]; exact gP_list hk ho m _ _ _ ha' h
    · rename_i h2; rw [if_neg h2]; exact gP_mk hk ha' (by simp)
theorem gP_pone (t : List ByteArray) : ∀ (n p : Nat) (d : Int) (l : Nat), (pone t n p d l).ok = true → gP (pone t n p d l).nd
  | 0, p, d, l, h => gP_one (fun _ _ _ h => by simp at h) (fun _ _ _ h => by simp at h) p d l h
  | n + 1, p, d, l, h => gP_one (gP_pone t n) (fun p d l h => gP_list (.inl rfl) (fun p d h => gP_list (.inr rfl) (fun p d h => gP_pone t n p d l h) _ _ _ _ (by simp) h) _ _ _ _ (by simp) h) p d l h
theorem gP_parse {s : ByteArray} (h : (parseP s).2 = 0) : gP (parseP s).1 := by
  obtain ⟨_, _, h3, _, _, h6⟩ := parse_ok h
  rw [h6]
  exact gP_list (.inl rfl) (fun p d h => gP_list (.inr rfl) (fun p d h => gP_pone _ _ p d 0 h) _ _ _ _ (by simp) h) _ _ _ _ (by simp) h3

/-! ### values -/
theorem valG6 (fl : List ByteArray) : ∀ l, valG fl 6 l = l.any (valR fl)
  | [] => by simp only [valG, List.any_nil]; rfl
  | x :: l => by
    simp only [valG, List.any_cons, valG6 fl l]
    cases valR fl x <;> simp
theorem valG5 (fl : List ByteArray) : ∀ l, valG fl 5 l = l.all (valR fl)
  | [] => by simp only [valG, List.all_nil]; rfl
  | x :: l => by
    simp only [valG, List.all_cons, valG5 fl l]
    cases valR fl x <;> simp
theorem any_gkids (fl : List ByteArray) : ∀ l, (gkids 6 l).any (valR fl) = l.any (valR fl)
  | [] => rfl
  | x :: l => by
    have ih := any_gkids fl l
    simp only [gkids, List.flatMap_cons, List.any_append, List.any_cons] at ih ⊢
    rw [ih]; congr 1
    unfold gkid
    split
    · rename_i h
      cases x with
      | mk k nm kids => simp only [Nd.kind, beq_iff_eq] at h; subst h; simp [valR, Nd.kids, valG6]
    · simp
theorem all_gkids (fl : List ByteArray) : ∀ l, (gkids 5 l).all (valR fl) = l.all (valR fl)
  | [] => rfl
  | x :: l => by
    have ih := all_gkids fl l
    simp only [gkids, List.flatMap_cons, List.all_append, List.all_cons] at ih ⊢
    rw [ih]; congr 1
    unfold gkid
    split
    · rename_i h
      cases x with
      | mk k nm kids => simp only [Nd.kind, beq_iff_eq] at h; subst h; simp [valR, Nd.kids, valG5]
    · simp
mutual
theorem val_rc (fl : List ByteArray) : ∀ x, gP x → valR fl (rc x) = valP fl x
  | .mk k nm kids, h => by
    simp only [gP] at h
    obtain ⟨h, hk⟩ := h
    have ih := vals_rc fl kids hk
    rcases h with ⟨rfl | rfl, _⟩ | ⟨rfl, hl⟩ | ⟨rfl | rfl, _⟩ | ⟨rfl, _, _⟩
    · simp [rc, valR, valP, valG6, any_gkids, valPO_eq, rcs_eq, List.any_map, ih.1]
    · simp [rc, valR, valP, valG5, all_gkids, valPA_eq, rcs_eq, List.all_map, ih.2]
    · match kids, hl, hk with
      | [x], _, hk =>
        have := val_rc fl x hk.1
        simp [rc, rcs, valR, valP, valH, valPH, this]
    · simp [rc, valR, valP]
    · simp [rc, valR, valP]
    · simp [rc, valR, valP]
theorem vals_rc (fl : List ByteArray) : ∀ l, gPs l → l.any (valR fl ∘ rc) = l.any (valP fl) ∧ l.all (valR fl ∘ rc) = l.all (valP fl)
  | [], _ => ⟨rfl, rfl⟩
  | x :: l, h => by
    simp only [gPs] at h
    obtain ⟨i1, i2⟩ := vals_rc fl l h.2
    simp only [List.any_cons, List.all_cons, Function.comp, val_rc fl x h.1]
    exact ⟨by rw [← i1], by rw [← i2]⟩
end
theorem evalPR (s : ByteArray) (fl : List ByteArray) : evalR s fl = evalP s fl := by
  obtain ⟨h1, h2⟩ := read_same s
  unfold evalR evalP
  rw [h1]
  split
  · rename_i h; rw [h2 h, val_rc fl _ (gP_parse h)]
  · rfl
theorem namesPR (s : ByteArray) : namesR s = namesP s := by
  obtain ⟨h1, h2⟩ := read_same s
  unfold namesR namesP
  rw [h1]

theorem namesL_len : ∀ (t acc : List ByteArray), (namesL t acc).length ≤ acc.length + t.length
  | [], acc => by simp [namesL]
  | x :: t, acc => by
    simp only [namesL]
    split
    · have := namesL_len t (acc ++ [x]); simp at this ⊢; omega
    · have := namesL_len t acc; simp; omega
theorem names_len (s : ByteArray) : (namesP s).1.length ≤ 4096 := by
  unfold namesP
  split
  · rename_i h
    have h1 := (parse_ok h).1
    have h2 := namesL_len (toks s 0) []
    have h3 := toks_len s _ 0 rfl
    simp at h2 ⊢; omega
  · simp

end Go.Proofs.Ytdaglbjgdakmcaa
