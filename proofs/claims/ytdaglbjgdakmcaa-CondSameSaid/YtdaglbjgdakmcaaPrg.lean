/- The program's reader, value, normal form; in plain Lean. -/
import Derived.Test.YtdaglbjgdakmcaaRefC
import Derived.Test.YtdaglbjgdakmcaaEngR
set_option linter.unusedSimpArgs false
set_option linter.unusedVariables false
namespace Go.Proofs.Ytdaglbjgdakmcaa
open Go Go.Eng

structure PR where
  nd : Nd
  pos : Nat
  deep : Int
  ok : Bool
def PR.av (r : PR) : SV := .av (.tup [nav r.nd, .val (.bool r.ok)])

theorem accP_t {t : List ByteArray} {p : Nat} {x : ByteArray} (h : accB t p x = true) : accP t p x = p + 1 ∧ p < t.length := by
  refine ⟨by simp [accP, h], ?_⟩
  simp only [accB, Bool.and_eq_true, decide_eq_true_eq] at h; exact h.1
theorem accP_f {t : List ByteArray} {p : Nat} {x : ByteArray} (h : accB t p x = false) : accP t p x = p := by simp [accP, h]
theorem accP_le (t : List ByteArray) (p : Nat) (x : ByteArray) (h : p ≤ t.length) : p ≤ accP t p x ∧ accP t p x ≤ t.length := by
  cases hb : accB t p x with
  | true => have := accP_t hb; omega
  | false => rw [accP_f hb]; omega

def oneP (rec cnd : Nat → Int → Nat → PR) (t : List ByteArray) (p : Nat) (d : Int) (l : Nat) : PR :=
  if accB t p ⟨#[110, 111, 116]⟩ then ⟨.mk 3 ⟨#[]⟩ [(rec (p + 1) (max d (l : Int)) (l + 1)).nd], (rec (p + 1) (max d (l : Int)) (l + 1)).pos, (rec (p + 1) (max d (l : Int)) (l + 1)).deep, (rec (p + 1) (max d (l : Int)) (l + 1)).ok⟩
  else if accB t p ⟨#[40]⟩ then
    if (cnd (p + 1) (max d (l : Int)) (l + 1)).ok then ⟨(cnd (p + 1) (max d (l : Int)) (l + 1)).nd, accP t (cnd (p + 1) (max d (l : Int)) (l + 1)).pos ⟨#[41]⟩, (cnd (p + 1) (max d (l : Int)) (l + 1)).deep, accB t (cnd (p + 1) (max d (l : Int)) (l + 1)).pos ⟨#[41]⟩⟩
    else ⟨(cnd (p + 1) (max d (l : Int)) (l + 1)).nd, (cnd (p + 1) (max d (l : Int)) (l + 1)).pos, (cnd (p + 1) (max d (l : Int)) (l + 1)).deep, false⟩
  else if accB t p ⟨#[116, 114, 117, 101]⟩ then ⟨.mk 4 ⟨#[]⟩ [], p + 1, max d (l : Int), true⟩
  else if accB t p ⟨#[102, 97, 108, 115, 101]⟩ then ⟨.mk 5 ⟨#[]⟩ [], p + 1, max d (l : Int), true⟩
  else if t.length ≤ p then ⟨nd0, p, max d (l : Int), false⟩
  else if specB (nth t p) then ⟨nd0, p, max d (l : Int), false⟩
  else ⟨.mk 6 (nth t p) [], p + 1, max d (l : Int), true⟩

def mkP (k : Int) (l : List Nd) : Nd := if l.length = 1 then ndth l 0 else .mk k ⟨#[]⟩ l
def listP (opnd : Nat → Int → PR) (word : ByteArray) (k : Int) (t : List ByteArray) : Nat → Nat → Int → List Nd → PR
  | 0, p, d, _ => ⟨nd0, p, d, false⟩
  | m + 1, p, d, acc => if (opnd p d).ok = false then ⟨nd0, (opnd p d).pos, (opnd p d).deep, false⟩
    else if accB t (opnd p d).pos word then listP opnd word k t m ((opnd p d).pos + 1) (opnd p d).deep (acc ++ [(opnd p d).nd])
    else ⟨mkP k (acc ++ [(opnd p d).nd]), (opnd p d).pos, (opnd p d).deep, true⟩
def allP (one : Nat → Int → Nat → PR) (t : List ByteArray) (p : Nat) (d : Int) (l : Nat) : PR := listP (fun p d => one p d l) ⟨#[97, 110, 100]⟩ 2 t (t.length + 1) p d []
def cndP (one : Nat → Int → Nat → PR) (t : List ByteArray) (p : Nat) (d : Int) (l : Nat) : PR := listP (fun p d => allP one t p d l) ⟨#[111, 114]⟩ 1 t (t.length + 1) p d []
def pone (t : List ByteArray) : Nat → Nat → Int → Nat → PR
  | 0 => oneP (fun p d _ => ⟨nd0, p, d, false⟩) (fun p d _ => ⟨nd0, p, d, false⟩) t
  | n + 1 => oneP (pone t n) (cndP (pone t n) t) t

/-- Where what was read ends. -/
def FairP (t : List ByteArray) (p : Nat) (r : PR) : Prop := p ≤ r.pos ∧ r.pos ≤ t.length ∧ (r.ok = true → p < r.pos)

theorem fairP_one {rec cnd : Nat → Int → Nat → PR} {t : List ByteArray} (hr : ∀ p d l, p ≤ t.length → FairP t p (rec p d l)) (hc : ∀ p d l, p ≤ t.length → FairP t p (cnd p d l)) (p : Nat) (d : Int) (l : Nat) (hp : p ≤ t.length) : FairP t p (oneP rec cnd t p d l) := by
  unfold oneP
  split
  · rename_i h
    have h1 := (accP_t h).2
    obtain ⟨a, b, c⟩ := hr (p + 1) (max d (l : Int)) (l + 1) (by omega)
    exact ⟨by simp only; omega, b, fun _ => by simp only; omega⟩
  split
  · rename_i h
    have h1 := (accP_t h).2
    obtain ⟨a, b, c⟩ := hc (p + 1) (max d (l : Int)) (l + 1) (by omega)
    have := accP_le t (cnd (p + 1) (max d (l : Int)) (l + 1)).pos ⟨#[41]⟩ b
    split
    · exact ⟨by simp only; omega, by simp only; omega, fun _ => by simp only; omega⟩
    · exact ⟨by simp only; omega, b, fun h => by simp at h⟩
  split
  · rename_i h; have h1 := (accP_t h).2; exact ⟨by simp only; omega, by simp only; omega, fun _ => by simp only; omega⟩
  split
  · rename_i h; have h1 := (accP_t h).2; exact ⟨by simp only; omega, by simp only; omega, fun _ => by simp only; omega⟩
  split
  · exact ⟨by simp only; omega, by simp only; omega, fun h => by simp at h⟩
  split
  · exact ⟨by simp only; omega, by simp only; omega, fun h => by simp at h⟩
  · exact ⟨by simp only; omega, by simp only; omega, fun _ => by simp only; omega⟩

theorem fairP_list {opnd : Nat → Int → PR} {word : ByteArray} {k : Int} {t : List ByteArray} (ho : ∀ p d, p ≤ t.length → FairP t p (opnd p d)) (p0 : Nat) : ∀ (m p : Nat) (d : Int) (acc : List Nd), p ≤ t.length → p0 ≤ p → FairP t p0 (listP opnd word k t m p d acc)
  | 0, p, d, acc, hp, h0 => by simp only [listP]; exact ⟨h0, hp, fun h => by simp at h⟩
  | m + 1, p, d, acc, hp, h0 => by
    simp only [listP]
    obtain ⟨a, b, c⟩ := ho p d hp
    split
    · exact ⟨by simp only; omega, b, fun h => by simp at h⟩
    · rename_i h1
      have h2 := c (by simpa using h1)
      split
      · rename_i h3
        have := (accP_t h3).2
        exact fairP_list ho p0 m _ _ _ (by omega) (by omega)
      · exact ⟨by simp only; omega, b, fun _ => by simp only; omega⟩

theorem fairP_all {one : Nat → Int → Nat → PR} {t : List ByteArray} (h : ∀ p d l, p ≤ t.length → FairP t p (one p d l)) (p : Nat) (d : Int) (l : Nat) (hp : p ≤ t.length) : FairP t p (allP one t p d l) :=
  fairP_list (fun p d hp => h p d l hp) p _ p d [] hp (Nat.le_refl _)
theorem fairP_cnd {one : Nat → Int → Nat → PR} {t : List ByteArray} (h : ∀ p d l, p ≤ t.length → FairP t p (one p d l)) (p : Nat) (d : Int) (l : Nat) (hp : p ≤ t.length) : FairP t p (cndP one t p d l) :=
  fairP_list (fun p d hp => fairP_all h p d l hp) p _ p d [] hp (Nat.le_refl _)
theorem fairP_pone (t : List ByteArray) : ∀ (n p : Nat) (d : Int) (l : Nat), p ≤ t.length → FairP t p (pone t n p d l)
  | 0, p, d, l, hp => fairP_one (fun p d _ hp => ⟨Nat.le_refl _, hp, fun h => by simp at h⟩) (fun p d _ hp => ⟨Nat.le_refl _, hp, fun h => by simp at h⟩) p d l hp
  | n + 1, p, d, l, hp => fairP_one (fairP_pone t n) (fairP_cnd (fairP_pone t n)) p d l hp

end Go.Proofs.Ytdaglbjgdakmcaa
