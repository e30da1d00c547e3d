/- The reference: Eval, Names, printed; in plain Lean. -/
import Derived.Test.YtdaglbjgdakmcaaRefB
set_option linter.unusedSimpArgs false
set_option linter.unusedVariables false
namespace Go.Proofs.Ytdaglbjgdakmcaa
open Go Go.Eng

def evalR (s : ByteArray) (fl : List ByteArray) : Bool × Int := if (readR s).2 = 0 then (valR fl (readR s).1, 0) else (false, (readR s).2)

/-- The flags among tokens, each once, in the order of the text. -/
def namesL : List ByteArray → List ByteArray → List ByteArray
  | [], acc => acc
  | x :: l, acc => if !specB x && !hasI acc x 0 then namesL l (acc ++ [x]) else namesL l acc
theorem namesL_step (t acc : List ByteArray) (i : Nat) (h : i < t.length) : namesL (t.drop i) acc = if !specB (nth t i) && !hasI acc (nth t i) 0 then namesL (t.drop (i + 1)) (acc ++ [nth t i]) else namesL (t.drop (i + 1)) acc := by
  rw [List.drop_eq_getElem_cons h, namesL]
  simp only [nth, List.getD_eq_getElem?_getD, List.getElem?_eq_getElem h, Option.getD_some]
theorem namesL_end (t acc : List ByteArray) (i : Nat) (h : t.length ≤ i) : namesL (t.drop i) acc = acc := by
  rw [List.drop_eq_nil_of_le h]; rfl
def namesR (s : ByteArray) : List ByteArray × Int := if (readR s).2 = 0 then (namesL (toks s 0) [], 0) else ([], (readR s).2)

/-! ### printed -/
def jnL (p : Nd → Int → ByteArray) (w : ByteArray) (k : Int) : List Nd → Nat → ByteArray → ByteArray
  | [], _, acc => acc
  | x :: l, i, acc => jnL p w k l (i + 1) ((if 0 < i then acc ++ w else acc) ++ p x k)
theorem jnL_step (p : Nd → Int → ByteArray) (w : ByteArray) (k : Int) (l : List Nd) (i : Nat) (acc : ByteArray) (h : i < l.length) : jnL p w k (l.drop i) i acc = jnL p w k (l.drop (i + 1)) (i + 1) ((if 0 < i then acc ++ w else acc) ++ p (ndth l i) k) := by
  rw [List.drop_eq_getElem_cons h, jnL]
  simp only [ndth, List.getD_eq_getElem?_getD, List.getElem?_eq_getElem h, Option.getD_some]
theorem jnL_end (p : Nd → Int → ByteArray) (w : ByteArray) (k : Int) (l : List Nd) (i j : Nat) (acc : ByteArray) (h : l.length ≤ i) : jnL p w k (l.drop i) j acc = acc := by
  rw [List.drop_eq_nil_of_le h]; rfl
theorem jnL_mono (p : Nd → Int → ByteArray) (w : ByteArray) (k : Int) : ∀ (l : List Nd) (i : Nat) (acc : ByteArray), acc.size ≤ (jnL p w k l i acc).size
  | [], i, acc => by simp [jnL]
  | x :: l, i, acc => by
    simp only [jnL]
    refine Nat.le_trans ?_ (jnL_mono p w k l (i + 1) _)
    split <;> simp [ByteArray.size_append] <;> omega
def wordR (k : Int) : ByteArray := if k == 6 then ⟨#[32, 111, 114, 32]⟩ else ⟨#[32, 97, 110, 100, 32]⟩
def prB (p : Nd → Int → ByteArray) (x : Nd) (within : Int) : ByteArray :=
  if x.kind == 1 then x.name else if x.kind == 2 then ⟨#[116, 114, 117, 101]⟩ else if x.kind == 3 then ⟨#[102, 97, 108, 115, 101]⟩
  else if x.kind == 4 then ⟨#[110, 111, 116, 32]⟩ ++ p (ndth x.kids 0) 4
  else if within == 4 || within == 5 then ⟨#[40]⟩ ++ jnL p (wordR x.kind) x.kind x.kids 0 ⟨#[]⟩ ++ ⟨#[41]⟩ else jnL p (wordR x.kind) x.kind x.kids 0 ⟨#[]⟩

mutual
def prR : Nd → Int → ByteArray
  | .mk k nm kids, within => if k == 1 then nm else if k == 2 then ⟨#[116, 114, 117, 101]⟩ else if k == 3 then ⟨#[102, 97, 108, 115, 101]⟩
    else if k == 4 then ⟨#[110, 111, 116, 32]⟩ ++ prH kids
    else if within == 4 || within == 5 then ⟨#[40]⟩ ++ prG k kids 0 ⟨#[]⟩ ++ ⟨#[41]⟩ else prG k kids 0 ⟨#[]⟩
def prH : List Nd → ByteArray
  | [] => ⟨#[]⟩
  | x :: _ => prR x 4
def prG (k : Int) : List Nd → Nat → ByteArray → ByteArray
  | [], _, acc => acc
  | x :: l, i, acc => prG k l (i + 1) ((if 0 < i then acc ++ wordR k else acc) ++ prR x k)
end
theorem prG_eq (k : Int) : ∀ (l : List Nd) (i : Nat) (acc : ByteArray), prG k l i acc = jnL prR (wordR k) k l i acc
  | [], i, acc => by simp only [prG, jnL]
  | x :: l, i, acc => by simp only [prG, jnL, prG_eq k l]
theorem prR_nd0 (w : Int) : prR nd0 w = if w == 4 || w == 5 then ⟨#[40]⟩ ++ ⟨#[]⟩ ++ ⟨#[41]⟩ else ⟨#[]⟩ := by
  simp [nd0, prR, prG]
theorem prR_eq (x : Nd) (w : Int) (h : x.kind = 4 → 1 ≤ x.kids.length) : prR x w = prB prR x w := by
  cases x with
  | mk k nm kids =>
    cases kids with
    | nil =>
      by_cases h4 : k = 4
      · have := h h4; simp [Nd.kids] at this
      · have h4' : (k == 4) = false := by simpa using h4
        simp only [prR, prB, Nd.kind, Nd.name, Nd.kids, prG_eq, h4']; rfl
    | cons y l => simp only [prR, prB, Nd.kind, Nd.name, Nd.kids, prG_eq, prH]; rfl

/-! ### what is read can be walked -/
theorem okN_kids {x : Nd} (h : okN x) : ∀ y ∈ x.kids, okN y := by
  cases x with
  | mk k nm kids => simp only [okN] at h; exact (okNs_iff kids).1 h.2.2
theorem okN_nd0 : okN nd0 := by simp [nd0, okN, okNs]
theorem okN_ndth {l : List Nd} (h : ∀ x ∈ l, okN x) (i : Nat) : okN (ndth l i) := by
  unfold ndth
  rw [List.getD_eq_getElem?_getD]
  rcases Nat.lt_or_ge i l.length with hi | hi
  · rw [List.getElem?_eq_getElem hi]; exact h _ (List.getElem_mem hi)
  · rw [List.getElem?_eq_none hi]; exact okN_nd0
theorem okN_grp {op : Int} {l : List Nd} (ho : op ≠ 4) (hw : wsum l ≤ 1000000) (h : ∀ x ∈ l, okN x) : okN (grp op l) := by
  unfold grp
  split
  · exact okN_ndth h 0
  · simp only [okN]
    refine ⟨fun e => absurd e ho, Nat.le_trans (gkids_le op l) hw, (okNs_iff _).2 fun y hy => ?_⟩
    simp only [gkids, List.mem_flatMap] at hy
    obtain ⟨x, hx, hy⟩ := hy
    unfold gkid at hy
    split at hy
    · exact okN_kids (h x hx) y hy
    · simp at hy; subst hy; exact h _ hx

theorem ok_one {rec lst : Nat → Nat → RR} {t : List ByteArray} (hr : ∀ i l, i ≤ t.length → okN (rec i l).nd) (hl : ∀ i l, i ≤ t.length → okN (lst i l).nd) (i l : Nat) : okN (oneR rec lst t i l).nd := by
  unfold oneR
  split
  · exact okN_nd0
  · rename_i h0
    split
    · exact okN_nd0
    split
    · exact okN_nd0
    split
    · exact okN_nd0
    split
    · simp only [okN, okNs]; exact ⟨fun _ => by simp, by simp, hr _ _ (by omega), trivial⟩
    split
    · split
      · exact okN_nd0
      split
      · exact okN_nd0
      split
      · exact okN_nd0
      · exact hl _ _ (by omega)
    split
    · simp [okN, okNs]
    split
    · simp [okN, okNs]
    · simp [okN, okNs]

theorem ok_list {opnd : Nat → RR} {word : ByteArray} {op : Int} (hop : op ≠ 4) {t : List ByteArray} (ht : t.length ≤ 4096) (hf : ∀ i, i ≤ t.length → Fair t i (opnd i)) (ho : ∀ i, i ≤ t.length → okN (opnd i).nd) :
    ∀ (m i : Nat) (acc : List Nd) (most : Int), i ≤ t.length → wsum acc ≤ i → (∀ x ∈ acc, okN x) → okN (listR opnd word op t m i acc most).nd
  | 0, i, acc, most, _, _, _ => by simp only [listR]; exact okN_nd0
  | m + 1, i, acc, most, hi, hw, ha => by
    simp only [listR]
    split
    · exact okN_nd0
    · rename_i h1
      have hf1 := hf i hi (by simpa using h1)
      have hs := wsum_app acc (opnd i).nd
      have ha' : ∀ x ∈ acc ++ [(opnd i).nd], okN x := by
        intro x hx
        rcases List.mem_append.1 hx with hx | hx
        · exact ha x hx
        · simp at hx; subst hx; exact ho i hi
      split
      · exact okN_grp hop (by omega) ha'
      · split
        · exact okN_grp hop (by omega) ha'
        · exact ok_list hop ht hf ho m _ _ _ (by omega) (by omega) ha'

theorem ok_and {one : Nat → Nat → RR} {t : List ByteArray} (ht : t.length ≤ 4096) (hf : ∀ i l, i ≤ t.length → Fair t i (one i l)) (h : ∀ i l, i ≤ t.length → okN (one i l).nd) (i l : Nat) (hi : i ≤ t.length) : okN (randR one t i l).nd :=
  ok_list (by decide) ht (fun j hj => hf j l hj) (fun j hj => h j l hj) _ i [] 0 hi (by simp [wsum]) (by simp)
theorem ok_or {one : Nat → Nat → RR} {t : List ByteArray} (ht : t.length ≤ 4096) (hf : ∀ i l, i ≤ t.length → Fair t i (one i l)) (h : ∀ i l, i ≤ t.length → okN (one i l).nd) (i l : Nat) (hi : i ≤ t.length) : okN (rorR one t i l).nd :=
  ok_list (by decide) ht (fun j hj => fair_and hf j l hj) (fun j hj => ok_and ht hf h j l hj) _ i [] 0 hi (by simp [wsum]) (by simp)
theorem ok_rone {t : List ByteArray} (ht : t.length ≤ 4096) : ∀ (n i l : Nat), i ≤ t.length → okN (rone t n i l).nd
  | 0, i, l, _ => ok_one (fun _ _ _ => okN_nd0) (fun _ _ _ => okN_nd0) i l
  | n + 1, i, l, _ => ok_one (ok_rone ht n) (ok_or ht (fair_rone t n) (ok_rone ht n)) i l
theorem ok_readR (s : ByteArray) : okN (readR s).1 := by
  unfold readR
  split
  · exact okN_nd0
  · rename_i h
    have hl := toks_len s _ 0 rfl
    unfold readT
    split
    · exact okN_nd0
    split
    · exact okN_nd0
    split
    · exact okN_nd0
    split
    · exact okN_nd0
    · exact ok_or (by omega) (fair_rone _ _) (ok_rone (by omega) _) 0 0 (Nat.zero_le _)

end Go.Proofs.Ytdaglbjgdakmcaa
