/- The program: how long a normal form can be. -/
import Derived.Test.YtdaglbjgdakmcaaPrgC
set_option linter.unusedSimpArgs false
set_option linter.unusedVariables false
namespace Go.Proofs.Ytdaglbjgdakmcaa
open Go Go.Eng

theorem zNot : ByteArray.size ⟨#[110, 111, 116, 32]⟩ = 4 := rfl
theorem zTrue : ByteArray.size ⟨#[116, 114, 117, 101]⟩ = 4 := rfl
theorem zFalse : ByteArray.size ⟨#[102, 97, 108, 115, 101]⟩ = 5 := rfl
theorem zOpen : ByteArray.size ⟨#[40]⟩ = 1 := rfl
theorem zClose : ByteArray.size ⟨#[41]⟩ = 1 := rfl
theorem zOrS : ByteArray.size ⟨#[32, 111, 114, 32]⟩ = 4 := rfl
theorem zAndS : ByteArray.size ⟨#[32, 97, 110, 100, 32]⟩ = 5 := rfl
theorem zNil : ByteArray.size ⟨#[]⟩ = 0 := rfl

mutual
def wgt : Nd → Nat
  | .mk _ nm kids => 16 + nm.size + wgts kids
def wgts : List Nd → Nat
  | [] => 0
  | x :: l => wgt x + wgts l
end
theorem wgts_app : ∀ (l m : List Nd), wgts (l ++ m) = wgts l + wgts m
  | [], m => by simp [wgts]
  | x :: l, m => by simp only [List.cons_append, wgts, wgts_app l m]; omega
theorem wgts_one (x : Nd) : wgts [x] = wgt x := by simp [wgts]
theorem wgt_nd0 : wgt nd0 = 16 := by simp only [nd0, wgt, wgts, zNil]


mutual
theorem wr_le : ∀ (x : Nd) (σ : WS), (wr x σ).1.size + 8 ≤ σ.1.size + wgt x
  | .mk k nm kids, σ => by
    simp only [wr, wgt]
    split
    · have := wrO_le kids 0 σ; omega
    split
    · have := wrA_le kids 0 σ; omega
    split
    · have := wrH_le kids (wput ⟨#[110, 111, 116, 32]⟩ σ)
      simp only [wput_size, zNot, zTrue, zFalse, zOpen, zClose, zOrS, zAndS, zNil] at this; omega
    split
    · simp only [wput_size, zNot, zTrue, zFalse, zOpen, zClose, zOrS, zAndS, zNil]; omega
    split
    · simp only [wput_size, zNot, zTrue, zFalse, zOpen, zClose, zOrS, zAndS, zNil]; omega
    · rw [wput_size]; omega
theorem wrH_le : ∀ (l : List Nd) (σ : WS), (wrH l σ).1.size ≤ σ.1.size + wgts l
  | [], σ => by simp only [wrH, wput_size, zNot, zTrue, zFalse, zOpen, zClose, zOrS, zAndS, zNil, wgts]; omega
  | x :: l, σ => by
    simp only [wrH, wgts]
    split
    · have h1 := wr_le x (wput ⟨#[40]⟩ σ)
      simp only [wput_size, zNot, zTrue, zFalse, zOpen, zClose, zOrS, zAndS, zNil] at h1 ⊢; omega
    · have := wr_le x σ; omega
theorem wrO_le : ∀ (l : List Nd) (i : Nat) (σ : WS), (wrO l i σ).1.size ≤ σ.1.size + wgts l
  | [], i, σ => by simp only [wrO, wgts]; omega
  | x :: l, i, σ => by
    simp only [wrO, wgts]
    have h1 := wrO_le l (i + 1) (wr x (if 0 < i then wput ⟨#[32, 111, 114, 32]⟩ σ else σ))
    have h2 := wr_le x (if 0 < i then wput ⟨#[32, 111, 114, 32]⟩ σ else σ)
    have h3 : (if 0 < i then wput ⟨#[32, 111, 114, 32]⟩ σ else σ).1.size ≤ σ.1.size + 4 := by
      split
      · simp only [wput_size, zNot, zTrue, zFalse, zOpen, zClose, zOrS, zAndS, zNil]; omega
      · omega
    omega
theorem wrA_le : ∀ (l : List Nd) (i : Nat) (σ : WS), (wrA l i σ).1.size ≤ σ.1.size + wgts l
  | [], i, σ => by simp only [wrA, wgts]; omega
  | x :: l, i, σ => by
    simp only [wrA, wgts]
    have h3 : (if 0 < i then wput ⟨#[32, 97, 110, 100, 32]⟩ σ else σ).1.size ≤ σ.1.size + 5 := by
      split
      · simp only [wput_size, zNot, zTrue, zFalse, zOpen, zClose, zOrS, zAndS, zNil]; omega
      · omega
    generalize (if 0 < i then wput ⟨#[32, 97, 110, 100, 32]⟩ σ else σ) = τ at h3
    have h1 := wrA_le l (i + 1) (if x.kind == 1 then wput ⟨#[41]⟩ (wr x (wput ⟨#[40]⟩ τ)) else wr x τ)
    have h4 : (if x.kind == 1 then wput ⟨#[41]⟩ (wr x (wput ⟨#[40]⟩ τ)) else wr x τ).1.size + 6 ≤ τ.1.size + wgt x := by
      split
      · have h2 := wr_le x (wput ⟨#[40]⟩ τ)
        simp only [wput_size, zNot, zTrue, zFalse, zOpen, zClose, zOrS, zAndS, zNil] at h2 ⊢; omega
      · have h2 := wr_le x τ; omega
    omega
end

/-- It writes something. -/
def Pos (x : Nd) : Prop := ∀ σ : WS, σ.1.size < (wr x σ).1.size

def Small (t : List ByteArray) : Prop := ∀ x ∈ t, 0 < x.size ∧ x.size ≤ 4096
/-- What is read from p on. -/
def Wee (p : Nat) (r : PR) : Prop := r.ok = true → p ≤ r.pos ∧ wgt r.nd ≤ 5000 * (r.pos - p) ∧ Pos r.nd

theorem pos_not (x : Nd) : Pos (.mk 3 ⟨#[]⟩ [x]) := by
  intro σ
  simp only [wr]
  have := wrH_grows [x] (wput ⟨#[110, 111, 116, 32]⟩ σ)
  simp only [wput_size, zNot, zTrue, zFalse, zOpen, zClose, zOrS, zAndS, zNil] at this ⊢; simp at this ⊢; omega
theorem pos_or {l : List Nd} (h : ∀ x ∈ l, Pos x) (hl : l ≠ []) : Pos (.mk 1 ⟨#[]⟩ l) := by
  intro σ
  match l, hl with
  | x :: l, _ =>
    simp only [wr]
    simp only [wrO]
    have h1 := h x (by simp) σ
    have h2 := wrO_grows l (0 + 1) (wr x (if 0 < 0 then wput ⟨#[32, 111, 114, 32]⟩ σ else σ))
    simp at h2 ⊢; omega
theorem pos_and {l : List Nd} (h : ∀ x ∈ l, Pos x) (hl : l ≠ []) : Pos (.mk 2 ⟨#[]⟩ l) := by
  intro σ
  match l, hl with
  | x :: l, _ =>
    simp only [wr]
    simp only [wrA]
    have h1 := h x (by simp) σ
    have h4 : σ.1.size < (if x.kind == 1 then wput ⟨#[41]⟩ (wr x (wput ⟨#[40]⟩ σ)) else wr x σ).1.size := by
      split
      · have := wr_grows x (wput ⟨#[40]⟩ σ)
        simp only [wput_size, zNot, zTrue, zFalse, zOpen, zClose, zOrS, zAndS, zNil] at this ⊢; omega
      · exact h1
    have h2 := wrA_grows l (0 + 1) (if x.kind == 1 then wput ⟨#[41]⟩ (wr x (wput ⟨#[40]⟩ σ)) else wr x σ)
    simp at h2 h4 ⊢; omega

theorem wee_one {rec cnd : Nat → Int → Nat → PR} {t : List ByteArray} (ht : Small t) (hr : ∀ p d l, p ≤ t.length → Wee p (rec p d l)) (hc : ∀ p d l, p ≤ t.length → Wee p (cnd p d l)) (p : Nat) (d : Int) (l : Nat) : Wee p (oneP rec cnd t p d l) := by
  unfold oneP
  split
  · rename_i h; have := (accP_t h).2
    intro ho
    obtain ⟨h1, h2, h3⟩ := hr (p + 1) (max d (l : Int)) (l + 1) (by omega) ho
    refine ⟨by simp only; omega, ?_, pos_not _⟩
    simp only [wgt, wgts, zNot, zTrue, zFalse, zOpen, zClose, zOrS, zAndS, zNil]; omega
  split
  · rename_i h; have := (accP_t h).2
    split
    · rename_i hok
      intro ho
      obtain ⟨h1, h2, h3⟩ := hc (p + 1) (max d (l : Int)) (l + 1) (by omega) hok
      have := (accP_t ho).1
      refine ⟨by simp only; omega, ?_, h3⟩
      simp only; omega
    · intro ho; simp at ho
  split
  · intro _; refine ⟨by simp only; omega, by simp only [wgt, wgts, zNot, zTrue, zFalse, zOpen, zClose, zOrS, zAndS, zNil]; omega, fun σ => ?_⟩
    simp only [wr]; simp only [Int.reduceBEq, Bool.false_eq_true, if_false, if_true, wput_size, zNot, zTrue, zFalse, zOpen, zClose, zOrS, zAndS, zNil]; omega
  split
  · intro _; refine ⟨by simp only; omega, by simp only [wgt, wgts, zNot, zTrue, zFalse, zOpen, zClose, zOrS, zAndS, zNil]; omega, fun σ => ?_⟩
    simp only [wr]; simp only [Int.reduceBEq, Bool.false_eq_true, if_false, if_true, wput_size, zNot, zTrue, zFalse, zOpen, zClose, zOrS, zAndS, zNil]; omega
  split
  · intro ho; simp at ho
  split
  · intro ho; simp at ho
  · rename_i h1 h2
    obtain ⟨s1, s2⟩ := ht _ (nth_mem (t := t) (i := p) (by omega))
    intro _; refine ⟨by simp only; omega, by simp only [wgt, wgts]; omega, fun σ => ?_⟩
    simp only [wr]; simp; rw [wput_size]; omega

theorem wgts_ndth {l : List Nd} (h : l.length = 1) : wgt (ndth l 0) = wgts l := by
  match l, h with
  | [x], _ => simp [ndth, wgts]

theorem wee_list {opnd : Nat → Int → PR} {word : ByteArray} {k : Int} (hk : k = 1 ∨ k = 2) {t : List ByteArray} (hf : ∀ p d, p ≤ t.length → FairP t p (opnd p d)) (ho : ∀ p d, p ≤ t.length → Wee p (opnd p d)) (p0 : Nat) :
    ∀ (m p : Nat) (d : Int) (acc : List Nd), p ≤ t.length → ((acc = [] ∧ p = p0) ∨ (acc ≠ [] ∧ p0 ≤ p ∧ wgts acc + 5000 ≤ 5000 * (p - p0))) → (∀ x ∈ acc, Pos x) → Wee p0 (listP opnd word k t m p d acc)
  | 0, p, d, acc, _, _, _ => by simp only [listP]; intro h; simp at h
  | m + 1, p, d, acc, hp, hi, ha => by
    simp only [listP]
    split
    · intro h; simp at h
    · rename_i h1
      have hok : (opnd p d).ok = true := by simpa using h1
      obtain ⟨f1, f2, f3⟩ := hf p d hp
      have f4 := f3 hok
      obtain ⟨w1, w2, w3⟩ := ho p d hp hok
      have ha' : ∀ x ∈ acc ++ [(opnd p d).nd], Pos x := by
        intro x hx
        rcases List.mem_append.1 hx with hx | hx
        · exact ha x hx
        · simp at hx; subst hx; exact w3
      have hw : wgts (acc ++ [(opnd p d).nd]) = wgts acc + wgt (opnd p d).nd := by rw [wgts_app, wgts_one]
      split
      · rename_i h2
        have := (accP_t h2).2
        refine wee_list hk hf ho p0 m _ _ _ (by omega) (.inr ⟨by simp, ?_, ?_⟩) ha'
        · rcases hi with ⟨_, hi⟩ | ⟨_, hi, _⟩ <;> omega
        · rw [hw]
          rcases hi with ⟨hi, hi2⟩ | ⟨_, hi, hi2⟩
          · subst hi; simp only [wgts]; omega
          · omega
      · intro _
        refine ⟨?_, ?_, ?_⟩
        · rcases hi with ⟨_, hi⟩ | ⟨_, hi, _⟩ <;> (simp only; omega)
        · simp only
          unfold mkP
          split
          · rename_i hlen
            rw [wgts_ndth hlen, hw]
            rcases hi with ⟨hi, hi2⟩ | ⟨_, hi, hi2⟩
            · subst hi; simp only [wgts]; omega
            · omega
          · rename_i hlen
            simp only [wgt, hw, zNot, zTrue, zFalse, zOpen, zClose, zOrS, zAndS, zNil]
            rcases hi with ⟨hi, hi2⟩ | ⟨_, hi, hi2⟩
            · subst hi; simp at hlen
            · omega
        · unfold mkP
          split
          · rename_i hlen
            have : ndth (acc ++ [(opnd p d).nd]) 0 ∈ acc ++ [(opnd p d).nd] := by
              unfold ndth; rw [List.getD_eq_getElem?_getD, List.getElem?_eq_getElem (by omega)]; exact List.getElem_mem _
            exact ha' _ this
          · rcases hk with rfl | rfl
            · exact pos_or ha' (by simp)
            · exact pos_and ha' (by simp)

theorem wee_all {one : Nat → Int → Nat → PR} {t : List ByteArray} (hf : ∀ p d l, p ≤ t.length → FairP t p (one p d l)) (h : ∀ p d l, p ≤ t.length → Wee p (one p d l)) (p : Nat) (d : Int) (l : Nat) (hp : p ≤ t.length) : Wee p (allP one t p d l) :=
  wee_list (.inr rfl) (fun p d hp => hf p d l hp) (fun p d hp => h p d l hp) p _ p d [] hp (.inl ⟨rfl, rfl⟩) (by simp)
theorem wee_cnd {one : Nat → Int → Nat → PR} {t : List ByteArray} (hf : ∀ p d l, p ≤ t.length → FairP t p (one p d l)) (h : ∀ p d l, p ≤ t.length → Wee p (one p d l)) (p : Nat) (d : Int) (l : Nat) (hp : p ≤ t.length) : Wee p (cndP one t p d l) :=
  wee_list (.inl rfl) (fun p d hp => fairP_all hf p d l hp) (fun p d hp => wee_all hf h p d l hp) p _ p d [] hp (.inl ⟨rfl, rfl⟩) (by simp)
theorem wee_pone {t : List ByteArray} (ht : Small t) : ∀ (n p : Nat) (d : Int) (l : Nat), p ≤ t.length → Wee p (pone t n p d l)
  | 0, p, d, l, _ => wee_one ht (fun p d l _ h => by simp at h) (fun p d l _ h => by simp at h) p d l
  | n + 1, p, d, l, _ => wee_one ht (wee_pone ht n) (wee_cnd (fairP_pone t n) (wee_pone ht n)) p d l

theorem toks_pos (s : ByteArray) : ∀ (n i : Nat), s.size - i = n → ∀ x ∈ toks s i, 0 < x.size := by
  intro n
  induction n using Nat.strongRecOn with
  | _ n ih =>
    intro i hn x hx
    by_cases hi : s.size ≤ i
    · rw [toks_end s i hi] at hx; simp at hx
    · have hlt : i < s.size := by omega
      cases hb : sepB ((byt s i : Nat) : Int) with
      | true =>
        by_cases h32 : ((byt s i : Nat) : Int) = 32
        · rw [toks_sp s i hlt h32] at hx; exact ih (s.size - (i + 1)) (by omega) (i + 1) rfl x hx
        · have : ((byt s i : Nat) : Int) = 40 ∨ ((byt s i : Nat) : Int) = 41 := by
            simp only [sepB, Bool.or_eq_true, beq_iff_eq] at hb
            rcases hb with (hb | hb) | hb
            · exact absurd hb h32
            · exact .inl hb
            · exact .inr hb
          rw [toks_par s i hlt this] at hx
          rcases List.mem_cons.1 hx with rfl | hx
          · rw [ByteArray.size_extract]; omega
          · exact ih (s.size - (i + 1)) (by omega) (i + 1) rfl x hx
      | false =>
        have hw := wend_gt s i hlt hb
        rw [toks_word s i hlt hb] at hx
        rcases List.mem_cons.1 hx with rfl | hx
        · rw [ByteArray.size_extract]; omega
        · exact ih (s.size - wend s i) (by omega) (wend s i) rfl x hx

theorem small_toks (s : ByteArray) (h : s.size ≤ 4096) : Small (toks s 0) := fun x hx =>
  ⟨toks_pos s _ 0 rfl x hx, by have := toks_size s _ 0 rfl x hx; omega⟩

/-- The tree of a text that is read. -/
theorem parse_ok {s : ByteArray} (h : (parseP s).2 = 0) : s.size ≤ 4096 ∧ badI (toks s 0) 0 = false ∧ (ptop (toks s 0)).ok = true ∧ (ptop (toks s 0)).pos = (toks s 0).length ∧ (ptop (toks s 0)).deep ≤ 16 ∧ (parseP s).1 = (ptop (toks s 0)).nd := by
  unfold parseP at h ⊢
  split at h
  · simp at h
  · rename_i h0
    rw [if_neg h0]
    unfold parseT at h ⊢
    split at h
    · simp at h
    rename_i h1
    split at h
    · simp at h
    rename_i h2
    split at h
    · simp at h
    rename_i h3
    split at h
    · simp at h
    rename_i h4
    have hf := (fairP_cnd (fairP_pone (toks s 0) (toks s 0).length) 0 0 0 (Nat.zero_le _)).2.1
    rw [if_neg h1, if_neg h2, if_neg h3, if_neg h4]
    refine ⟨by omega, by simpa using h1, by simpa using h2, ?_, by omega, rfl⟩
    show (cndP (pone (toks s 0) (toks s 0).length) (toks s 0) 0 0 0).pos = _
    unfold ptop at h3
    omega

theorem norm_wee {s : ByteArray} (h : (parseP s).2 = 0) : wgt (parseP s).1 ≤ 20480000 ∧ Pos (parseP s).1 := by
  obtain ⟨h1, h2, h3, h4, h5, h6⟩ := parse_ok h
  rw [h6]
  obtain ⟨w1, w2, w3⟩ := wee_cnd (fairP_pone _ _) (wee_pone (small_toks s h1) _) 0 0 0 (Nat.zero_le _) h3
  have hl := toks_len s _ 0 rfl
  refine ⟨?_, w3⟩
  have e : (cndP (pone (toks s 0) (toks s 0).length) (toks s 0) 0 0 0) = ptop (toks s 0) := rfl
  rw [e] at w2; omega
theorem parse_bad {s : ByteArray} (h : (parseP s).2 ≠ 0) : (parseP s).1 = nd0 := by
  unfold parseP at h ⊢
  split
  · rfl
  · rename_i h0
    rw [if_neg h0] at h
    unfold parseT at h ⊢
    split
    · rfl
    split
    · rfl
    split
    · rfl
    split
    · rfl
    · rename_i h1 h2 h3 h4; rw [if_neg h1, if_neg h2, if_neg h3, if_neg h4] at h; simp at h
theorem norm_le (s : ByteArray) : (wr (parseP s).1 (⟨#[]⟩, 0)).1.size ≤ 1000000000 := by
  have h := wr_le (parseP s).1 (⟨#[]⟩, 0)
  simp only [zNot, zTrue, zFalse, zOpen, zClose, zOrS, zAndS, zNil] at h
  by_cases h0 : (parseP s).2 = 0
  · have := (norm_wee h0).1; omega
  · rw [parse_bad h0] at h ⊢; rw [wgt_nd0] at h; omega
theorem norm_pos {s : ByteArray} (h : (parseP s).2 = 0) : 0 < (wr (parseP s).1 (⟨#[]⟩, 0)).1.size := by
  have h1 := (norm_wee h).2 (⟨#[]⟩, 0)
  exact Nat.lt_of_le_of_lt (Nat.zero_le _) h1
def normP (s : ByteArray) : ByteArray × Int := if (parseP s).2 = 0 then ((wr (parseP s).1 (⟨#[]⟩, 0)).1, 0) else (⟨#[]⟩, (parseP s).2)

def fewB (a b : Nat) : Bool := decide (a ≤ 600) && decide (b ≤ 40)
theorem eqs_self (s : ByteArray) : eqs s s = true := by simp [eqs]
theorem bytes_len (s : ByteArray) : (bytesAV s).length = s.size := by simp [bytesAV]
theorem bytes_cat (a b : ByteArray) : bytesAV (a ++ b) = bytesAV a ++ bytesAV b := by simp [bytesAV]
theorem bytes_uni (s : ByteArray) : Uni 1 (bytesAV s) := by
  intro x hx
  simp only [bytesAV, List.mem_map] at hx
  obtain ⟨b, _, rfl⟩ := hx
  simp [AV.cells, AV.isTup]

end Go.Proofs.Ytdaglbjgdakmcaa
