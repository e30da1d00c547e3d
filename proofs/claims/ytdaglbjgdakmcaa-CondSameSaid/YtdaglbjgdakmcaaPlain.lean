/- The plain functions that the walks come to. -/
import Derived.Test.YtdaglbjgdakmcaaEngM
set_option linter.unusedSimpArgs false
set_option linter.unusedVariables false
namespace Go.Proofs.Ytdaglbjgdakmcaa
open Go Go.Eng

def letB (c : Int) : Bool := (decide (97 ≤ c) && decide (c ≤ 122)) || (decide (65 ≤ c) && decide (c ≤ 90))
def inB (c : Int) : Bool := letB c || (decide (48 ≤ c) && decide (c ≤ 57)) || c == 45 || c == 95 || c == 46 || c == 58
/-- Where the characters of names from k on end. -/
def scanE (s : ByteArray) : Nat → Nat → Nat
  | 0, k => k
  | n + 1, k => if inB (byt s k) then scanE s n (k + 1) else k

theorem scanE_stop (s : ByteArray) (k : Nat) (h : s.size ≤ k) : scanE s (s.size - k) k = k := by
  rw [show s.size - k = 0 by omega]; rfl
theorem scanE_step (s : ByteArray) (k : Nat) (h : k < s.size) (hb : inB ((byt s k : Nat) : Int) = true) : scanE s (s.size - k) k = scanE s (s.size - (k + 1)) (k + 1) := by
  rw [show s.size - k = s.size - (k + 1) + 1 by omega, scanE]
  rw [if_pos hb]
theorem scanE_no (s : ByteArray) (k : Nat) (hb : inB ((byt s k : Nat) : Int) = false) : scanE s (s.size - k) k = k := by
  cases hn : s.size - k with
  | zero => rfl
  | succ n => rw [scanE, if_neg (by simp [hb])]

def nameB (s : ByteArray) : Bool := decide (1 ≤ s.size) && decide (s.size ≤ 60) && letB (byt s 0) && (scanE s s.size 0 == s.size)

theorem natbeq (a b : Nat) : (((a : Nat) : Int) == ((b : Nat) : Int)) = (a == b) := by
  rw [Bool.eq_iff_iff]; simp; omega

theorem nameB_last (s : ByteArray) (h1 : 1 ≤ s.size) (h2 : s.size ≤ 60) (h3 : letB ((byt s 0 : Nat) : Int) = true) : (((scanE s (s.size - 0) 0 : Nat) : Int) == ((s.size : Nat) : Int)) = nameB s := by
  rw [natbeq, Nat.sub_zero]; simp [nameB, h1, h2, h3]

def kwB (s : ByteArray) : Bool := eqs s ⟨#[111, 114]⟩ || eqs s ⟨#[97, 110, 100]⟩ || eqs s ⟨#[110, 111, 116]⟩ || eqs s ⟨#[116, 114, 117, 101]⟩ || eqs s ⟨#[102, 97, 108, 115, 101]⟩
def specB (s : ByteArray) : Bool := eqs s ⟨#[40]⟩ || eqs s ⟨#[41]⟩ || kwB s

def nth (t : List ByteArray) (i : Nat) : ByteArray := t.getD i ⟨#[]⟩
theorem nth_get {t : List ByteArray} {i : Nat} (h : i < t.length) : (t.map strAV)[i]? = some (strAV (nth t i)) := by
  simp [nth, List.getElem?_map, List.getElem?_eq_getElem h]
theorem nth_at {t : List ByteArray} {i : Nat} (h : (i : Int) < ((t.map strAV).length : Int)) : 0 ≤ (i : Int) ∧ (t.map strAV)[i]? = some (strAV (nth t i)) :=
  ⟨by omega, nth_get (by simpa using h)⟩
/-- Whether the token at p is this one. -/
def accB (t : List ByteArray) (p : Nat) (x : ByteArray) : Bool := decide (p < t.length) && eqs (nth t p) x
def accP (t : List ByteArray) (p : Nat) (x : ByteArray) : Nat := if accB t p x then p + 1 else p

theorem accB_out {t : List ByteArray} {p : Nat} (x : ByteArray) (h : ¬ p < t.length) : accB t p x = false := by simp [accB, h]
theorem accB_in {t : List ByteArray} {p : Nat} (x : ByteArray) (h : p < t.length) : accB t p x = eqs (nth t p) x := by simp [accB, h]
theorem mlen (t : List ByteArray) : (t.map strAV).length = t.length := by simp

end Go.Proofs.Ytdaglbjgdakmcaa
