/- The reference's reader, in plain Lean. -/
import Derived.Test.YtdaglbjgdakmcaaSpec
set_option linter.unusedSimpArgs false
set_option linter.unusedVariables false
namespace Go.Proofs.Ytdaglbjgdakmcaa
open Go Go.Eng

def gkid (op : Int) (x : Nd) : List Nd := if x.kind == op then x.kids else [x]
def gkids (op : Int) (l : List Nd) : List Nd := l.flatMap (gkid op)
def grp (op : Int) (l : List Nd) : Nd := if l.length = 1 then ndth l 0 else .mk op ⟨#[]⟩ (gkids op l)

theorem gkids_step (op : Int) (l : List Nd) (i : Nat) (h : i < l.length) : gkids op (l.drop i) = gkid op (ndth l i) ++ gkids op (l.drop (i + 1)) := by
  rw [List.drop_eq_getElem_cons h]
  simp only [gkids, List.flatMap_cons, ndth, List.getD_eq_getElem?_getD, List.getElem?_eq_getElem h, Option.getD_some]
theorem gkids_end (op : Int) (l : List Nd) (i : Nat) (h : l.length ≤ i) : gkids op (l.drop i) = [] := by
  rw [List.drop_eq_nil_of_le h]; rfl
def wt (x : Nd) : Nat := max 1 x.kids.length
def wsum (l : List Nd) : Nat := (l.map wt).sum
theorem wsum_app (l : List Nd) (x : Nd) : wsum (l ++ [x]) = wsum l + wt x := by simp [wsum]
theorem gkids_le (op : Int) : ∀ l : List Nd, (gkids op l).length ≤ wsum l
  | [] => by simp [gkids, wsum]
  | x :: l => by
    have h := gkids_le op l
    have : (gkid op x).length ≤ wt x := by unfold gkid wt; split <;> first | omega | (simp only [List.length_cons, List.length_nil]; omega)
    simp only [gkids, List.flatMap_cons, List.length_append, wsum, List.map_cons, List.sum_cons] at h ⊢
    omega
theorem wt_grp (op : Int) (l : List Nd) (h : l ≠ []) : wt (grp op l) ≤ wsum l := by
  unfold grp
  split
  · rename_i h1
    match l, h1 with
    | [x], _ => simp [ndth, wsum]
  · have := gkids_le op l
    have h2 : 1 ≤ wsum l := by
      match l, h with
      | x :: l, _ => simp only [wsum, List.map_cons, List.sum_cons, wt]; omega
    unfold wt; simp only [Nd.kids]; omega

structure RR where
  nd : Nd
  to : Nat
  most : Int
  ok : Bool
def rbad : RR := ⟨nd0, 0, 0, false⟩
def RR.av (r : RR) : SV := .av (.tup [nav r.nd, .val (.int .i64 (r.to : Int)), .val (.int .i64 r.most), .val (.bool r.ok)])

def bOr : ByteArray := ⟨#[111, 114]⟩
def bAnd : ByteArray := ⟨#[97, 110, 100]⟩
def bNot : ByteArray := ⟨#[110, 111, 116]⟩
def bTrue : ByteArray := ⟨#[116, 114, 117, 101]⟩
def bFalse : ByteArray := ⟨#[102, 97, 108, 115, 101]⟩
def bOpen : ByteArray := ⟨#[40]⟩
def bClose : ByteArray := ⟨#[41]⟩

def oneR (rec lst : Nat → Nat → RR) (t : List ByteArray) (i l : Nat) : RR :=
  if t.length ≤ i then rbad else if eqs (nth t i) ⟨#[111, 114]⟩ then rbad else if eqs (nth t i) ⟨#[97, 110, 100]⟩ then rbad else if eqs (nth t i) ⟨#[41]⟩ then rbad
  else if eqs (nth t i) ⟨#[110, 111, 116]⟩ then ⟨.mk 4 ⟨#[]⟩ [(rec (i + 1) (l + 1)).nd], (rec (i + 1) (l + 1)).to, (rec (i + 1) (l + 1)).most, (rec (i + 1) (l + 1)).ok⟩
  else if eqs (nth t i) ⟨#[40]⟩ then
    if (lst (i + 1) (l + 1)).ok = false then rbad else if t.length ≤ (lst (i + 1) (l + 1)).to then rbad else if eqs (nth t (lst (i + 1) (l + 1)).to) ⟨#[41]⟩ = false then rbad
    else ⟨(lst (i + 1) (l + 1)).nd, (lst (i + 1) (l + 1)).to + 1, max (lst (i + 1) (l + 1)).most (l : Int), true⟩
  else if eqs (nth t i) ⟨#[116, 114, 117, 101]⟩ then ⟨.mk 2 ⟨#[]⟩ [], i + 1, l, true⟩
  else if eqs (nth t i) ⟨#[102, 97, 108, 115, 101]⟩ then ⟨.mk 3 ⟨#[]⟩ [], i + 1, l, true⟩
  else ⟨.mk 1 (nth t i) [], i + 1, l, true⟩

def listR (opnd : Nat → RR) (word : ByteArray) (op : Int) (t : List ByteArray) : Nat → Nat → List Nd → Int → RR
  | 0, _, _, _ => rbad
  | m + 1, i, acc, most => if (opnd i).ok = false then rbad
    else if t.length ≤ (opnd i).to then ⟨grp op (acc ++ [(opnd i).nd]), (opnd i).to, max most (opnd i).most, true⟩
    else if eqs (nth t (opnd i).to) word = false then ⟨grp op (acc ++ [(opnd i).nd]), (opnd i).to, max most (opnd i).most, true⟩
    else listR opnd word op t m ((opnd i).to + 1) (acc ++ [(opnd i).nd]) (max most (opnd i).most)

def randR (one : Nat → Nat → RR) (t : List ByteArray) (i l : Nat) : RR := listR (fun k => one k l) ⟨#[97, 110, 100]⟩ 5 t (t.length + 1) i [] 0
def rorR (one : Nat → Nat → RR) (t : List ByteArray) (i l : Nat) : RR := listR (fun k => randR one t k l) ⟨#[111, 114]⟩ 6 t (t.length + 1) i [] 0
def rone (t : List ByteArray) : Nat → Nat → Nat → RR
  | 0 => oneR (fun _ _ => rbad) (fun _ _ => rbad) t
  | n + 1 => oneR (rone t n) (rorR (rone t n) t) t

/-- What is read is not longer than its tokens. -/
def Fair (t : List ByteArray) (i : Nat) (r : RR) : Prop := r.ok = true → i + wt r.nd ≤ r.to ∧ r.to ≤ t.length

theorem fair_bad (t : List ByteArray) (i : Nat) : Fair t i rbad := by intro h; simp [rbad] at h

theorem fair_one {rec lst : Nat → Nat → RR} {t : List ByteArray} (hr : ∀ i l, i ≤ t.length → Fair t i (rec i l)) (hl : ∀ i l, i ≤ t.length → Fair t i (lst i l)) (i l : Nat) : Fair t i (oneR rec lst t i l) := by
  unfold oneR
  split
  · exact fair_bad t i
  · rename_i h0
    split
    · exact fair_bad t i
    split
    · exact fair_bad t i
    split
    · exact fair_bad t i
    split
    · intro h; have := hr (i + 1) (l + 1) (by omega) h
      simp only [wt, Nd.kids, List.length_singleton] at this ⊢; omega
    split
    · split
      · exact fair_bad t i
      split
      · exact fair_bad t i
      split
      · exact fair_bad t i
      · rename_i h1 h2 h3
        intro _
        have := hl (i + 1) (l + 1) (by omega) (by simpa using h1)
        simp only at this ⊢; omega
    split
    · intro _; simp only [wt, Nd.kids]; simp; omega
    split
    · intro _; simp only [wt, Nd.kids]; simp; omega
    · intro _; simp only [wt, Nd.kids]; simp; omega

theorem fair_list {opnd : Nat → RR} {word : ByteArray} {op : Int} {t : List ByteArray} (ho : ∀ i, i ≤ t.length → Fair t i (opnd i)) (i0 : Nat) : ∀ (m i : Nat) (acc : List Nd) (most : Int), i ≤ t.length → i0 + wsum acc ≤ i → Fair t i0 (listR opnd word op t m i acc most)
  | 0, i, acc, most, _, _ => by simp only [listR]; exact fair_bad t i0
  | m + 1, i, acc, most, hi, hw => by
    simp only [listR]
    split
    · exact fair_bad t i0
    · rename_i h1
      have hf := ho i hi (by simpa using h1)
      have hs := wsum_app acc (opnd i).nd
      have hg := wt_grp op (acc ++ [(opnd i).nd]) (by simp)
      split
      · intro _; simp only; omega
      · split
        · intro _; simp only; omega
        · exact fair_list ho i0 m _ _ _ (by omega) (by omega)

theorem fair_and {one : Nat → Nat → RR} {t : List ByteArray} (h : ∀ i l, i ≤ t.length → Fair t i (one i l)) (i l : Nat) (hi : i ≤ t.length) : Fair t i (randR one t i l) :=
  fair_list (fun j hj => h j l hj) i _ i [] 0 hi (by simp [wsum])
theorem fair_or {one : Nat → Nat → RR} {t : List ByteArray} (h : ∀ i l, i ≤ t.length → Fair t i (one i l)) (i l : Nat) (hi : i ≤ t.length) : Fair t i (rorR one t i l) :=
  fair_list (fun j hj => fair_and h j l hj) i _ i [] 0 hi (by simp [wsum])
theorem fair_rone (t : List ByteArray) : ∀ (n i l : Nat), i ≤ t.length → Fair t i (rone t n i l)
  | 0, i, l, _ => fair_one (fun j _ _ => fair_bad t j) (fun j _ _ => fair_bad t j) i l
  | n + 1, i, l, _ => fair_one (fair_rone t n) (fair_or (fair_rone t n)) i l

end Go.Proofs.Ytdaglbjgdakmcaa
