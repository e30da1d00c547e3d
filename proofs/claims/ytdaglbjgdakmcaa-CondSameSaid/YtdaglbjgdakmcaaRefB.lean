/- The reference: Read, value, Names, printed; in plain Lean. -/
import Derived.Test.YtdaglbjgdakmcaaRef
set_option linter.unusedSimpArgs false
set_option linter.unusedVariables false
namespace Go.Proofs.Ytdaglbjgdakmcaa
open Go Go.Eng

theorem toks_len (s : ByteArray) : ∀ (n i : Nat), s.size - i = n → (toks s i).length ≤ s.size - i := by
  intro n
  induction n using Nat.strongRecOn with
  | _ n ih =>
    intro i hn
    by_cases hi : s.size ≤ i
    · rw [toks_end s i hi]; simp
    · have hlt : i < s.size := by omega
      cases hb : sepB ((byt s i : Nat) : Int) with
      | true =>
        by_cases h32 : ((byt s i : Nat) : Int) = 32
        · rw [toks_sp s i hlt h32]; have := ih (s.size - (i + 1)) (by omega) (i + 1) rfl; omega
        · have : ((byt s i : Nat) : Int) = 40 ∨ ((byt s i : Nat) : Int) = 41 := by
            simp only [sepB, Bool.or_eq_true, beq_iff_eq] at hb
            rcases hb with (hb | hb) | hb
            · exact absurd hb h32
            · exact .inl hb
            · exact .inr hb
          rw [toks_par s i hlt this]; have := ih (s.size - (i + 1)) (by omega) (i + 1) rfl
          simp only [List.length_cons]; omega
      | false =>
        have hw := wend_gt s i hlt hb
        rw [toks_word s i hlt hb]
        have := ih (s.size - wend s i) (by omega) (wend s i) rfl
        simp only [List.length_cons]; omega

theorem toks_size (s : ByteArray) : ∀ (n i : Nat), s.size - i = n → ∀ x ∈ toks s i, x.size ≤ s.size := by
  intro n
  induction n using Nat.strongRecOn with
  | _ n ih =>
    intro i hn x hx
    have hex : ∀ a b, (s.extract a b).size ≤ s.size := by intro a b; rw [ByteArray.size_extract]; omega
    by_cases hi : s.size ≤ i
    · rw [toks_end s i hi] at hx; simp at hx
    · have hlt : i < s.size := by omega
      cases hb : sepB ((byt s i : Nat) : Int) with
      | true =>
        by_cases h32 : ((byt s i : Nat) : Int) = 32
        · rw [toks_sp s i hlt h32] at hx; exact ih (s.size - (i + 1)) (by omega) (i + 1) rfl x hx
        · have : ((byt s i : Nat) : Int) = 40 ∨ ((byt s i : Nat) : Int) = 41 := by
            simp only [sepB, Bool.or_eq_true, beq_iff_eq] at hb
            rcases hb with (hb | hb) | hb
            · exact absurd hb h32
            · exact .inl hb
            · exact .inr hb
          rw [toks_par s i hlt this] at hx
          rcases List.mem_cons.1 hx with rfl | hx
          · exact hex _ _
          · exact ih (s.size - (i + 1)) (by omega) (i + 1) rfl x hx
      | false =>
        have hw := wend_gt s i hlt hb
        rw [toks_word s i hlt hb] at hx
        rcases List.mem_cons.1 hx with rfl | hx
        · exact hex _ _
        · exact ih (s.size - wend s i) (by omega) (wend s i) rfl x hx

theorem nth_mem {t : List ByteArray} {i : Nat} (h : i < t.length) : nth t i ∈ t := by
  simp [nth, List.getElem?_eq_getElem h]

def badF (x : ByteArray) : Bool := !specB x && !nameB x
def badI (t : List ByteArray) (i : Nat) : Bool := (t.drop i).any badF
theorem badI_end (t : List ByteArray) (i : Nat) (h : t.length ≤ i) : badI t i = false := by
  simp [badI, List.drop_eq_nil_of_le h]
theorem badI_step (t : List ByteArray) (i : Nat) (h : i < t.length) : badI t i = (badF (nth t i) || badI t (i + 1)) := by
  simp only [badI]
  rw [List.drop_eq_getElem_cons h, List.any_cons]
  simp only [nth, List.getD_eq_getElem?_getD, List.getElem?_eq_getElem h, Option.getD_some]

def NE (x : Nd × Int) : SV := .av (.tup [nav x.1, .val (.int .i64 x.2)])
def rtop (t : List ByteArray) : RR := rorR (rone t t.length) t 0 0
def readT (t : List ByteArray) : Nd × Int :=
  if badI t 0 then (nd0, 6) else if (rtop t).ok = false then (nd0, 5) else if (rtop t).to ≠ t.length then (nd0, 5) else if (rtop t).most > 16 then (nd0, 11) else ((rtop t).nd, 0)
def readR (s : ByteArray) : Nd × Int := if s.size > 4096 then (nd0, 3) else readT (toks s 0)

/-- The value, one level; v: that of the kids. -/
def valL (v : Nd → Bool) (k : Int) : List Nd → Bool
  | [] => k == 5
  | x :: l => if v x == (k == 6) then k == 6 else valL v k l
def valB (v : Nd → Bool) (fl : List ByteArray) (x : Nd) : Bool :=
  if x.kind == 1 then hasI fl x.name 0 else if x.kind == 2 then true else if x.kind == 4 then !v (ndth x.kids 0)
  else if x.kind == 5 || x.kind == 6 then valL v x.kind x.kids else false
theorem valL_step (v : Nd → Bool) (k : Int) (l : List Nd) (i : Nat) (h : i < l.length) : valL v k (l.drop i) = if v (ndth l i) == (k == 6) then k == 6 else valL v k (l.drop (i + 1)) := by
  rw [List.drop_eq_getElem_cons h, valL]
  simp only [ndth, List.getD_eq_getElem?_getD, List.getElem?_eq_getElem h, Option.getD_some]
theorem valL_end (v : Nd → Bool) (k : Int) (l : List Nd) (i : Nat) (h : l.length ≤ i) : valL v k (l.drop i) = (k == 5) := by
  rw [List.drop_eq_nil_of_le h]; rfl

mutual
def valR (fl : List ByteArray) : Nd → Bool
  | .mk k nm kids => if k == 1 then hasI fl nm 0 else if k == 2 then true else if k == 4 then !valH fl kids
    else if k == 5 || k == 6 then valG fl k kids else false
def valH (fl : List ByteArray) : List Nd → Bool
  | [] => false
  | x :: _ => valR fl x
def valG (fl : List ByteArray) (k : Int) : List Nd → Bool
  | [] => k == 5
  | x :: l => if valR fl x == (k == 6) then k == 6 else valG fl k l
end
theorem valG_eq (fl : List ByteArray) (k : Int) : ∀ l, valG fl k l = valL (valR fl) k l
  | [] => by simp only [valG, valL]
  | x :: l => by simp only [valG, valL, valG_eq fl k l]
theorem valH_eq (fl : List ByteArray) : ∀ l, valH fl l = valR fl (ndth l 0)
  | [] => by simp [valH, ndth, nd0, valR]
  | x :: l => by simp [valH, ndth]
theorem valR_eq (fl : List ByteArray) (x : Nd) : valR fl x = valB (valR fl) fl x := by
  cases x with
  | mk k nm kids => simp only [valR, valB, Nd.kind, Nd.name, Nd.kids, valG_eq, valH_eq]; rfl

mutual
/-- Nodes that the reader can have made: a negation has an operand; the lists are short. -/
def okN : Nd → Prop
  | .mk k _ kids => (k = 4 → 1 ≤ kids.length) ∧ kids.length ≤ 1000000 ∧ okNs kids
def okNs : List Nd → Prop
  | [] => True
  | x :: l => okN x ∧ okNs l
end
theorem okNs_iff : ∀ l, okNs l ↔ ∀ x ∈ l, okN x
  | [] => by simp [okNs]
  | x :: l => by simp [okNs, okNs_iff l]

end Go.Proofs.Ytdaglbjgdakmcaa
