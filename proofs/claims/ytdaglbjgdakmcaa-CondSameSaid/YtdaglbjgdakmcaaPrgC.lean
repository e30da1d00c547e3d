/- The program: what is read can be walked; Eval, Names. -/
import Derived.Test.YtdaglbjgdakmcaaPrgB
set_option linter.unusedSimpArgs false
set_option linter.unusedVariables false
namespace Go.Proofs.Ytdaglbjgdakmcaa
open Go Go.Eng

mutual
def okP : Nd → Prop
  | .mk k _ kids => (k = 3 → 1 ≤ kids.length) ∧ kids.length ≤ 1000000 ∧ okPs kids
def okPs : List Nd → Prop
  | [] => True
  | x :: l => okP x ∧ okPs l
end
theorem okPs_iff : ∀ l, okPs l ↔ ∀ x ∈ l, okP x
  | [] => by simp [okPs]
  | x :: l => by simp [okPs, okPs_iff l]
theorem okP_nd0 : okP nd0 := by simp [nd0, okP, okPs]
theorem okP_ndth {l : List Nd} (h : ∀ x ∈ l, okP x) (i : Nat) : okP (ndth l i) := by
  unfold ndth
  rw [List.getD_eq_getElem?_getD]
  rcases Nat.lt_or_ge i l.length with hi | hi
  · rw [List.getElem?_eq_getElem hi]; exact h _ (List.getElem_mem hi)
  · rw [List.getElem?_eq_none hi]; exact okP_nd0
theorem okP_mk {k : Int} {l : List Nd} (hk : k ≠ 3) (hl : l.length ≤ 1000000) (h : ∀ x ∈ l, okP x) : okP (mkP k l) := by
  unfold mkP
  split
  · exact okP_ndth h 0
  · simp only [okP]; exact ⟨fun e => absurd e hk, hl, (okPs_iff l).2 h⟩
theorem okP_one {rec cnd : Nat → Int → Nat → PR} {t : List ByteArray} (hr : ∀ p d l, p ≤ t.length → okP (rec p d l).nd) (hc : ∀ p d l, p ≤ t.length → okP (cnd p d l).nd) (p : Nat) (d : Int) (l : Nat) : okP (oneP rec cnd t p d l).nd := by
  unfold oneP
  split
  · rename_i h; have := (accP_t h).2
    simp only [okP, okPs]; exact ⟨fun _ => by simp, by simp, hr _ _ _ (by omega), trivial⟩
  split
  · rename_i h; have := (accP_t h).2
    split
    · exact hc _ _ _ (by omega)
    · exact hc _ _ _ (by omega)
  split
  · simp [okP, okPs]
  split
  · simp [okP, okPs]
  split
  · exact okP_nd0
  split
  · exact okP_nd0
  · simp [okP, okPs]
theorem okP_list {opnd : Nat → Int → PR} {word : ByteArray} {k : Int} (hk : k ≠ 3) {t : List ByteArray} (ht : t.length ≤ 4096) (hf : ∀ p d, p ≤ t.length → FairP t p (opnd p d)) (ho : ∀ p d, p ≤ t.length → okP (opnd p d).nd) :
    ∀ (m p : Nat) (d : Int) (acc : List Nd), p ≤ t.length → acc.length ≤ p → (∀ x ∈ acc, okP x) → okP (listP opnd word k t m p d acc).nd
  | 0, p, d, acc, _, _, _ => by simp only [listP]; exact okP_nd0
  | m + 1, p, d, acc, hp, hl, ha => by
    simp only [listP]
    split
    · exact okP_nd0
    · rename_i h1
      obtain ⟨f1, f2, f3⟩ := hf p d hp
      have f4 := f3 (by simpa using h1)
      have ha' : ∀ x ∈ acc ++ [(opnd p d).nd], okP x := by
        intro x hx
        rcases List.mem_append.1 hx with hx | hx
        · exact ha x hx
        · simp at hx; subst hx; exact ho p d hp
      split
      · rename_i h2
        have := (accP_t h2).2
        exact okP_list hk ht hf ho m _ _ _ (by omega) (by simp; omega) ha'
      · exact okP_mk hk (by simp; omega) ha'
theorem okP_all {one : Nat → Int → Nat → PR} {t : List ByteArray} (ht : t.length ≤ 4096) (hf : ∀ p d l, p ≤ t.length → FairP t p (one p d l)) (h : ∀ p d l, p ≤ t.length → okP (one p d l).nd) (p : Nat) (d : Int) (l : Nat) (hp : p ≤ t.length) : okP (allP one t p d l).nd :=
  okP_list (by decide) ht (fun p d hp => hf p d l hp) (fun p d hp => h p d l hp) _ p d [] hp (by simp) (by simp)
theorem okP_cnd {one : Nat → Int → Nat → PR} {t : List ByteArray} (ht : t.length ≤ 4096) (hf : ∀ p d l, p ≤ t.length → FairP t p (one p d l)) (h : ∀ p d l, p ≤ t.length → okP (one p d l).nd) (p : Nat) (d : Int) (l : Nat) (hp : p ≤ t.length) : okP (cndP one t p d l).nd :=
  okP_list (by decide) ht (fun p d hp => fairP_all hf p d l hp) (fun p d hp => okP_all ht hf h p d l hp) _ p d [] hp (by simp) (by simp)
theorem okP_pone {t : List ByteArray} (ht : t.length ≤ 4096) : ∀ (n p : Nat) (d : Int) (l : Nat), p ≤ t.length → okP (pone t n p d l).nd
  | 0, p, d, l, _ => okP_one (fun _ _ _ _ => okP_nd0) (fun _ _ _ _ => okP_nd0) p d l
  | n + 1, p, d, l, _ => okP_one (okP_pone ht n) (okP_cnd ht (fairP_pone t n) (okP_pone ht n)) p d l
theorem ok_parseP (s : ByteArray) : okP (parseP s).1 := by
  unfold parseP
  split
  · exact okP_nd0
  · rename_i h
    have hl := toks_len s _ 0 rfl
    unfold parseT
    split
    · exact okP_nd0
    split
    · exact okP_nd0
    split
    · exact okP_nd0
    split
    · exact okP_nd0
    · exact okP_cnd (by omega) (fairP_pone _ _) (okP_pone (by omega) _) 0 0 0 (Nat.zero_le _)

def evalP (s : ByteArray) (fl : List ByteArray) : Bool × Int := if (parseP s).2 = 0 then (valP fl (parseP s).1, 0) else (false, (parseP s).2)
def namesP (s : ByteArray) : List ByteArray × Int := if (parseP s).2 = 0 then (namesL (toks s 0) [], 0) else ([], (parseP s).2)

end Go.Proofs.Ytdaglbjgdakmcaa
