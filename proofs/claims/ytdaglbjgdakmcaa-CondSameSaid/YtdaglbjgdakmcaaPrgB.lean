/- The program: parse, value, the set of flags, Names, the normal form; in plain Lean. -/
import Derived.Test.YtdaglbjgdakmcaaPrg
import Derived.Lib.Strings
set_option linter.unusedSimpArgs false
set_option linter.unusedVariables false
namespace Go.Proofs.Ytdaglbjgdakmcaa
open Go Go.Eng

def ptop (t : List ByteArray) : PR := cndP (pone t t.length) t 0 0 0
def parseT (t : List ByteArray) : Nd × Int :=
  if badI t 0 then (nd0, 6) else if (ptop t).ok = false then (nd0, 5) else if (ptop t).pos < t.length then (nd0, 5) else if (ptop t).deep > 16 then (nd0, 11) else ((ptop t).nd, 0)
def parseP (s : ByteArray) : Nd × Int := if s.size > 4096 then (nd0, 3) else parseT (toks s 0)

/-! ### value -/
def anyI (v : Nd → Bool) (l : List Nd) (i : Nat) : Bool := (l.drop i).any v
theorem anyI_end (v : Nd → Bool) (l : List Nd) (i : Nat) (h : l.length ≤ i) : anyI v l i = false := by simp [anyI, List.drop_eq_nil_of_le h]
theorem anyI_step (v : Nd → Bool) (l : List Nd) (i : Nat) (h : i < l.length) : anyI v l i = (v (ndth l i) || anyI v l (i + 1)) := by
  simp only [anyI]
  rw [List.drop_eq_getElem_cons h, List.any_cons]
  simp only [ndth, List.getD_eq_getElem?_getD, List.getElem?_eq_getElem h, Option.getD_some]
def allI (v : Nd → Bool) (l : List Nd) (i : Nat) : Bool := (l.drop i).all v
theorem allI_end (v : Nd → Bool) (l : List Nd) (i : Nat) (h : l.length ≤ i) : allI v l i = true := by simp [allI, List.drop_eq_nil_of_le h]
theorem allI_step (v : Nd → Bool) (l : List Nd) (i : Nat) (h : i < l.length) : allI v l i = (v (ndth l i) && allI v l (i + 1)) := by
  simp only [allI]
  rw [List.drop_eq_getElem_cons h, List.all_cons]
  simp only [ndth, List.getD_eq_getElem?_getD, List.getElem?_eq_getElem h, Option.getD_some]
def valPB (v : Nd → Bool) (fl : List ByteArray) (x : Nd) : Bool :=
  if x.kind == 1 then anyI v x.kids 0 else if x.kind == 2 then allI v x.kids 0 else if x.kind == 3 then !v (ndth x.kids 0) else if x.kind == 6 then hasI fl x.name 0 else x.kind == 4
mutual
def valP (fl : List ByteArray) : Nd → Bool
  | .mk k nm kids => if k == 1 then valPO fl kids else if k == 2 then valPA fl kids else if k == 3 then !valPH fl kids else if k == 6 then hasI fl nm 0 else k == 4
def valPH (fl : List ByteArray) : List Nd → Bool
  | [] => false
  | x :: _ => valP fl x
def valPO (fl : List ByteArray) : List Nd → Bool
  | [] => false
  | x :: l => valP fl x || valPO fl l
def valPA (fl : List ByteArray) : List Nd → Bool
  | [] => true
  | x :: l => valP fl x && valPA fl l
end
theorem valPO_eq (fl : List ByteArray) : ∀ l, valPO fl l = l.any (valP fl)
  | [] => by simp only [valPO, List.any_nil]
  | x :: l => by simp only [valPO, List.any_cons, valPO_eq fl l]
theorem valPA_eq (fl : List ByteArray) : ∀ l, valPA fl l = l.all (valP fl)
  | [] => by simp only [valPA, List.all_nil]
  | x :: l => by simp only [valPA, List.all_cons, valPA_eq fl l]
theorem valP_nd0 (fl : List ByteArray) : valP fl nd0 = false := by simp [nd0, valP]
theorem valPH_eq (fl : List ByteArray) : ∀ l, valPH fl l = valP fl (ndth l 0)
  | [] => by simp only [valPH]; rw [show ndth ([] : List Nd) 0 = nd0 from rfl, valP_nd0]
  | x :: l => by simp [valPH, ndth]
theorem valP_eq (fl : List ByteArray) (x : Nd) : valP fl x = valPB (valP fl) fl x := by
  cases x with
  | mk k nm kids => simp only [valP, valPB, Nd.kind, Nd.name, Nd.kids, valPO_eq, valPA_eq, valPH_eq, anyI, allI, List.drop_zero]; rfl

/-! ### sets -/
theorem eqs_iff {a b : ByteArray} : eqs a b = true ↔ a = b := by
  unfold eqs
  constructor
  · intro h
    have h1 := eq_of_beq h
    have h2 : a.data.toList = b.data.toList := h1
    cases a; cases b; simp only at h2; congr; exact Array.toList_inj.1 h2
  · intro h; subst h; simp
theorem eqs_beq (a b : ByteArray) : (a == b) = eqs a b := by
  rw [Bool.eq_iff_iff, bytes_eq, eqs_iff]
theorem eqs_comm (a b : ByteArray) : eqs a b = eqs b a := by
  rw [Bool.eq_iff_iff, eqs_iff, eqs_iff]; exact ⟨Eq.symm, Eq.symm⟩
theorem kpos_has (s : ByteArray) : ∀ ks : List ByteArray, (kpos ks s).isSome = hasI ks s 0
  | [] => rfl
  | k :: ks => by
    have ih := kpos_has s ks
    simp only [kpos, hasI, List.drop_zero, List.any_cons] at ih ⊢
    rw [eqs_beq, eqs_comm s k]
    cases hk : eqs k s with
    | true => simp
    | false => simp [ih]
def trues (ks : List ByteArray) : List AV := ks.map (fun _ => vB true)
theorem mget_has (ks : List ByteArray) (s : ByteArray) : mgetT false (vB false) ks (trues ks) s = vB (hasI ks s 0) := by
  rw [← kpos_has]
  simp only [mgetT, mget, Bool.false_eq_true, if_false]
  cases h : kpos ks s with
  | none => rfl
  | some j =>
    have hj := kpos_get h
    have hlt : j < ks.length := by
      rcases Nat.lt_or_ge j ks.length with h | h
      · exact h
      · simp [List.getElem?_eq_none h] at hj
    simp [trues, hlt]
theorem mput_trues (ks : List ByteArray) (s : ByteArray) : mputV ks (trues ks) s (vB true) = trues (mputK ks s) := by
  unfold mputV mputK
  cases h : kpos ks s with
  | none => simp [trues]
  | some j =>
    simp only [trues]
    apply List.ext_getElem?
    intro i
    simp only [List.getElem?_set, List.getElem?_map, List.length_map]
    split
    · rename_i hij; subst hij
      split
      · rename_i hlt; simp [hlt]
      · rename_i hlt; simp [Nat.le_of_not_lt hlt]
    · rfl
theorem mputK_new {ks : List ByteArray} {s : ByteArray} (h : hasI ks s 0 = false) : mputK ks s = ks ++ [s] := by
  unfold mputK
  rw [← kpos_has] at h
  cases hk : kpos ks s with
  | none => rfl
  | some j => rw [hk] at h; simp at h
theorem map_new {ks : List ByteArray} {s : ByteArray} (h : hasI ks s 0 = false) : ABox.map (mputK ks s) (mputV ks (trues ks) s (vB true)) = ABox.map (ks ++ [s]) (trues (ks ++ [s])) := by
  rw [mput_trues, mputK_new h]
def setF (l ks : List ByteArray) : List ByteArray := l.foldl mputK ks
theorem setF_step (l ks : List ByteArray) (i : Nat) (h : i < l.length) : setF (l.drop i) ks = setF (l.drop (i + 1)) (mputK ks (nth l i)) := by
  rw [List.drop_eq_getElem_cons h]
  simp only [setF, List.foldl_cons, nth, List.getD_eq_getElem?_getD, List.getElem?_eq_getElem h, Option.getD_some]
theorem setF_end (l ks : List ByteArray) (i : Nat) (h : l.length ≤ i) : setF (l.drop i) ks = ks := by
  rw [List.drop_eq_nil_of_le h]; rfl
theorem has_mputK (ks : List ByteArray) (x s : ByteArray) : hasI (mputK ks x) s 0 = (hasI ks s 0 || eqs x s) := by
  cases h : hasI ks x 0 with
  | false => rw [mputK_new h]; simp [hasI]
  | true =>
    have hk : mputK ks x = ks := by
      unfold mputK
      rw [← kpos_has] at h
      cases hk : kpos ks x with
      | none => rw [hk] at h; simp at h
      | some j => rfl
    rw [hk]
    cases he : eqs x s with
    | false => simp
    | true => rw [eqs_iff] at he; subst he; simp [h]
theorem has_setF : ∀ (l ks : List ByteArray) (s : ByteArray), hasI (setF l ks) s 0 = (hasI ks s 0 || hasI l s 0)
  | [], ks, s => by simp [setF, hasI]
  | x :: l, ks, s => by
    have ih := has_setF l (mputK ks x) s
    simp only [setF, List.foldl_cons] at ih ⊢
    rw [ih, has_mputK]
    simp [hasI, Bool.or_assoc]
theorem mget_set (l : List ByteArray) (s : ByteArray) : mgetT false (vB false) (setF l []) (trues (setF l [])) s = vB (hasI l s 0) := by
  rw [mget_has, has_setF]; simp [hasI]

/-! ### the normal form -/
abbrev WS := ByteArray × Nat
def wput (s : ByteArray) (σ : WS) : WS := (σ.1 ++ s, σ.2 + 1)
def opB (w : Nd → WS → WS) (x : Nd) (inside : Bool) (σ : WS) : WS := if inside then wput ⟨#[41]⟩ (w x (wput ⟨#[40]⟩ σ)) else w x σ
def wrOr (w : Nd → WS → WS) : List Nd → Nat → WS → WS
  | [], _, σ => σ
  | x :: l, i, σ => wrOr w l (i + 1) (w x (if 0 < i then wput ⟨#[32, 111, 114, 32]⟩ σ else σ))
def wrAnd (w : Nd → WS → WS) : List Nd → Nat → WS → WS
  | [], _, σ => σ
  | x :: l, i, σ => wrAnd w l (i + 1) (opB w x (x.kind == 1) (if 0 < i then wput ⟨#[32, 97, 110, 100, 32]⟩ σ else σ))
def wrB (w : Nd → WS → WS) (x : Nd) (σ : WS) : WS :=
  if x.kind == 1 then wrOr w x.kids 0 σ else if x.kind == 2 then wrAnd w x.kids 0 σ
  else if x.kind == 3 then opB w (ndth x.kids 0) ((ndth x.kids 0).kind == 1 || (ndth x.kids 0).kind == 2) (wput ⟨#[110, 111, 116, 32]⟩ σ)
  else if x.kind == 4 then wput ⟨#[116, 114, 117, 101]⟩ σ else if x.kind == 5 then wput ⟨#[102, 97, 108, 115, 101]⟩ σ else wput x.name σ
theorem wrOr_step (w : Nd → WS → WS) (l : List Nd) (i : Nat) (σ : WS) (h : i < l.length) : wrOr w (l.drop i) i σ = wrOr w (l.drop (i + 1)) (i + 1) (w (ndth l i) (if 0 < i then wput ⟨#[32, 111, 114, 32]⟩ σ else σ)) := by
  rw [List.drop_eq_getElem_cons h, wrOr]
  simp only [ndth, List.getD_eq_getElem?_getD, List.getElem?_eq_getElem h, Option.getD_some]
theorem wrAnd_step (w : Nd → WS → WS) (l : List Nd) (i : Nat) (σ : WS) (h : i < l.length) : wrAnd w (l.drop i) i σ = wrAnd w (l.drop (i + 1)) (i + 1) (opB w (ndth l i) ((ndth l i).kind == 1) (if 0 < i then wput ⟨#[32, 97, 110, 100, 32]⟩ σ else σ)) := by
  rw [List.drop_eq_getElem_cons h, wrAnd]
  simp only [ndth, List.getD_eq_getElem?_getD, List.getElem?_eq_getElem h, Option.getD_some]
theorem wrOr_end (w : Nd → WS → WS) (l : List Nd) (i j : Nat) (σ : WS) (h : l.length ≤ i) : wrOr w (l.drop i) j σ = σ := by rw [List.drop_eq_nil_of_le h]; rfl
theorem wrAnd_end (w : Nd → WS → WS) (l : List Nd) (i j : Nat) (σ : WS) (h : l.length ≤ i) : wrAnd w (l.drop i) j σ = σ := by rw [List.drop_eq_nil_of_le h]; rfl
/-- Nothing that was written goes. -/
def Grows (w : Nd → WS → WS) : Prop := ∀ x σ, σ.1.size ≤ (w x σ).1.size
theorem wput_size (s : ByteArray) (σ : WS) : (wput s σ).1.size = σ.1.size + s.size := by simp [wput, ByteArray.size_append]
theorem opB_grows {w : Nd → WS → WS} (h : Grows w) (x : Nd) (b : Bool) (σ : WS) : σ.1.size ≤ (opB w x b σ).1.size := by
  unfold opB
  split
  · have h1 := h x (wput ⟨#[40]⟩ σ)
    rw [wput_size] at h1 ⊢; omega
  · exact h x σ
theorem ifput_size (s : ByteArray) (i : Nat) (σ : WS) : σ.1.size ≤ (if 0 < i then wput s σ else σ).1.size := by
  split
  · rw [wput_size]; omega
  · exact Nat.le_refl _
theorem wrOr_grows {w : Nd → WS → WS} (h : Grows w) : ∀ (l : List Nd) (i : Nat) (σ : WS), σ.1.size ≤ (wrOr w l i σ).1.size
  | [], i, σ => Nat.le_refl _
  | x :: l, i, σ => by
    simp only [wrOr]
    exact Nat.le_trans (Nat.le_trans (ifput_size _ i σ) (h x _)) (wrOr_grows h l (i + 1) _)
theorem wrAnd_grows {w : Nd → WS → WS} (h : Grows w) : ∀ (l : List Nd) (i : Nat) (σ : WS), σ.1.size ≤ (wrAnd w l i σ).1.size
  | [], i, σ => Nat.le_refl _
  | x :: l, i, σ => by
    simp only [wrAnd]
    exact Nat.le_trans (Nat.le_trans (ifput_size _ i σ) (opB_grows h x _ _)) (wrAnd_grows h l (i + 1) _)
theorem wrB_grows {w : Nd → WS → WS} (h : Grows w) : Grows (wrB w) := by
  intro x σ
  unfold wrB
  split
  · exact wrOr_grows h _ _ _
  split
  · exact wrAnd_grows h _ _ _
  split
  · refine Nat.le_trans ?_ (opB_grows h _ _ _); rw [wput_size]; omega
  split
  · rw [wput_size]; omega
  split
  · rw [wput_size]; omega
  · rw [wput_size]; omega

mutual
def wr : Nd → WS → WS
  | .mk k nm kids, σ => if k == 1 then wrO kids 0 σ else if k == 2 then wrA kids 0 σ
    else if k == 3 then wrH kids (wput ⟨#[110, 111, 116, 32]⟩ σ)
    else if k == 4 then wput ⟨#[116, 114, 117, 101]⟩ σ else if k == 5 then wput ⟨#[102, 97, 108, 115, 101]⟩ σ else wput nm σ
def wrH : List Nd → WS → WS
  | [], σ => wput ⟨#[]⟩ σ
  | x :: _, σ => if x.kind == 1 || x.kind == 2 then wput ⟨#[41]⟩ (wr x (wput ⟨#[40]⟩ σ)) else wr x σ
def wrO : List Nd → Nat → WS → WS
  | [], _, σ => σ
  | x :: l, i, σ => wrO l (i + 1) (wr x (if 0 < i then wput ⟨#[32, 111, 114, 32]⟩ σ else σ))
def wrA : List Nd → Nat → WS → WS
  | [], _, σ => σ
  | x :: l, i, σ => wrA l (i + 1) (if x.kind == 1 then wput ⟨#[41]⟩ (wr x (wput ⟨#[40]⟩ (if 0 < i then wput ⟨#[32, 97, 110, 100, 32]⟩ σ else σ))) else wr x (if 0 < i then wput ⟨#[32, 97, 110, 100, 32]⟩ σ else σ))
end
theorem wrO_eq : ∀ (l : List Nd) (i : Nat) (σ : WS), wrO l i σ = wrOr wr l i σ
  | [], i, σ => by simp only [wrO, wrOr]
  | x :: l, i, σ => by simp only [wrO, wrOr, wrO_eq l]
theorem wrA_eq : ∀ (l : List Nd) (i : Nat) (σ : WS), wrA l i σ = wrAnd wr l i σ
  | [], i, σ => by simp only [wrA, wrAnd]
  | x :: l, i, σ => by simp only [wrA, wrAnd, wrA_eq l, opB]
theorem wrH_eq : ∀ (l : List Nd) (σ : WS), wrH l σ = opB wr (ndth l 0) ((ndth l 0).kind == 1 || (ndth l 0).kind == 2) σ
  | [], σ => by simp [wrH, ndth, nd0, opB, Nd.kind, wr]
  | x :: l, σ => by simp [wrH, ndth, opB]
theorem wr_eq (x : Nd) (σ : WS) : wr x σ = wrB wr x σ := by
  cases x with
  | mk k nm kids => simp only [wr, wrB, Nd.kind, Nd.name, Nd.kids, wrO_eq, wrA_eq, wrH_eq]; rfl
mutual
theorem wr_grows : ∀ (x : Nd) (σ : WS), σ.1.size ≤ (wr x σ).1.size
  | .mk k nm kids, σ => by
    simp only [wr]
    split
    · exact wrO_grows kids 0 σ
    split
    · exact wrA_grows kids 0 σ
    split
    · refine Nat.le_trans ?_ (wrH_grows kids _); rw [wput_size]; omega
    split
    · rw [wput_size]; omega
    split
    · rw [wput_size]; omega
    · rw [wput_size]; omega
theorem wrH_grows : ∀ (l : List Nd) (σ : WS), σ.1.size ≤ (wrH l σ).1.size
  | [], σ => by simp only [wrH, wput_size]; omega
  | x :: l, σ => by
    simp only [wrH]
    split
    · have h1 := wr_grows x (wput ⟨#[40]⟩ σ)
      rw [wput_size] at h1 ⊢; omega
    · exact wr_grows x σ
theorem wrO_grows : ∀ (l : List Nd) (i : Nat) (σ : WS), σ.1.size ≤ (wrO l i σ).1.size
  | [], i, σ => by simp only [wrO]; exact Nat.le_refl _
  | x :: l, i, σ => by
    simp only [wrO]
    exact Nat.le_trans (Nat.le_trans (ifput_size _ i σ) (wr_grows x _)) (wrO_grows l (i + 1) _)
theorem wrA_grows : ∀ (l : List Nd) (i : Nat) (σ : WS), σ.1.size ≤ (wrA l i σ).1.size
  | [], i, σ => by simp only [wrA]; exact Nat.le_refl _
  | x :: l, i, σ => by
    simp only [wrA]
    refine Nat.le_trans ?_ (wrA_grows l (i + 1) _)
    refine Nat.le_trans (ifput_size ⟨#[32, 97, 110, 100, 32]⟩ i σ) ?_
    generalize (if 0 < i then wput ⟨#[32, 97, 110, 100, 32]⟩ σ else σ) = τ
    split
    · have h1 := wr_grows x (wput ⟨#[40]⟩ τ)
      rw [wput_size] at h1 ⊢; omega
    · exact wr_grows x τ
end

end Go.Proofs.Ytdaglbjgdakmcaa
