/- Normal forms of the program and of the reference are the same. -/
import Derived.Test.YtdaglbjgdakmcaaLaw2
set_option linter.unusedSimpArgs false
set_option linter.unusedVariables false
namespace Go.Proofs.Ytdaglbjgdakmcaa
open Go Go.Eng

theorem ba_ext {a b : ByteArray} (h : a.data = b.data) : a = b := by cases a; cases b; simp only at h; rw [h]
theorem ba_assoc (a b c : ByteArray) : a ++ b ++ c = a ++ (b ++ c) := ba_ext (by simp [Array.append_assoc])
theorem nil_ba (a : ByteArray) : (⟨#[]⟩ : ByteArray) ++ a = a := ba_ext (by simp)
theorem ba_nil (a : ByteArray) : a ++ (⟨#[]⟩ : ByteArray) = a := ba_ext (by simp)

def jt (w : ByteArray) : List ByteArray → ByteArray
  | [] => ⟨#[]⟩
  | s :: l => w ++ s ++ jt w l
def jn (w : ByteArray) : List ByteArray → ByteArray
  | [] => ⟨#[]⟩
  | s :: l => s ++ jt w l
theorem jn_nil (w : ByteArray) : jn w [] = ⟨#[]⟩ := rfl
theorem jn_cons (w s : ByteArray) (l : List ByteArray) : jn w (s :: l) = s ++ jt w l := rfl
theorem jt_app (w : ByteArray) : ∀ l m : List ByteArray, jt w (l ++ m) = jt w l ++ jt w m
  | [], m => by simp only [List.nil_append, jt, nil_ba]
  | s :: l, m => by simp only [List.cons_append, jt, jt_app w l m, ba_assoc]
theorem jt_ne (w : ByteArray) {l : List ByteArray} (h : l ≠ []) : jt w l = w ++ jn w l := by
  match l, h with
  | s :: l, _ => simp only [jt, jn_cons, ba_assoc]
theorem jt_flat {α : Type} (w : ByteArray) (f : α → List ByteArray) : ∀ l : List α, (∀ x ∈ l, f x ≠ []) → jt w (l.flatMap f) = jt w (l.map (fun x => jn w (f x)))
  | [], _ => rfl
  | x :: l, h => by
    simp only [List.flatMap_cons, List.map_cons, jt_app, jt]
    rw [jt_ne w (h x (by simp)), jt_flat w f l (fun y hy => h y (by simp [hy]))]
theorem jn_flat {α : Type} (w : ByteArray) (f : α → List ByteArray) : ∀ l : List α, (∀ x ∈ l, f x ≠ []) → jn w (l.flatMap f) = jn w (l.map (fun x => jn w (f x)))
  | [], _ => rfl
  | x :: l, h => by
    simp only [List.flatMap_cons, List.map_cons]
    have h1 := h x (by simp)
    match hf : f x, h1 with
    | s :: r, _ =>
      simp only [List.cons_append, jn_cons, jt_app, ba_assoc]
      rw [jt_flat w f l (fun y hy => h y (by simp [hy]))]

def bOr4 : ByteArray := ⟨#[32, 111, 114, 32]⟩
def bAnd5 : ByteArray := ⟨#[32, 97, 110, 100, 32]⟩

mutual
/-- The normal form. -/
def sP : Nd → ByteArray
  | .mk k nm kids => if k == 1 then jn ⟨#[32, 111, 114, 32]⟩ (sPs kids) else if k == 2 then jn ⟨#[32, 97, 110, 100, 32]⟩ (sPa kids) else if k == 3 then ⟨#[110, 111, 116, 32]⟩ ++ sPh kids
    else if k == 4 then ⟨#[116, 114, 117, 101]⟩ else if k == 5 then ⟨#[102, 97, 108, 115, 101]⟩ else nm
def sPs : List Nd → List ByteArray
  | [] => []
  | x :: l => sP x :: sPs l
def sPa : List Nd → List ByteArray
  | [] => []
  | x :: l => (if x.kind == 1 then ⟨#[40]⟩ ++ sP x ++ ⟨#[41]⟩ else sP x) :: sPa l
def sPh : List Nd → ByteArray
  | [] => ⟨#[]⟩
  | x :: _ => if x.kind == 1 || x.kind == 2 then ⟨#[40]⟩ ++ sP x ++ ⟨#[41]⟩ else sP x
end
mutual
theorem wr_sP : ∀ (x : Nd) (σ : WS), (wr x σ).1 = σ.1 ++ sP x
  | .mk k nm kids, σ => by
    simp only [wr, sP]
    split
    · rw [wrO_sP]; rfl
    split
    · rw [wrA_sP]; rfl
    split
    · rw [wrH_sP]; simp only [wput, ba_assoc]
    split
    · rfl
    split
    · rfl
    · rfl
theorem wrH_sP : ∀ (l : List Nd) (σ : WS), (wrH l σ).1 = σ.1 ++ sPh l
  | [], σ => by simp only [wrH, sPh, wput]
  | x :: l, σ => by
    simp only [wrH, sPh]
    split
    · simp only [wput, wr_sP x, ba_assoc]
    · exact wr_sP x σ
theorem wrO_sP : ∀ (l : List Nd) (i : Nat) (σ : WS), (wrO l i σ).1 = σ.1 ++ (if i = 0 then jn ⟨#[32, 111, 114, 32]⟩ (sPs l) else jt ⟨#[32, 111, 114, 32]⟩ (sPs l))
  | [], i, σ => by simp only [wrO, sPs, jn_nil, jt, ite_self, ba_nil]
  | x :: l, i, σ => by
    simp only [wrO, sPs, jn_cons, jt]
    rw [wrO_sP l (i + 1), wr_sP x, if_neg (show ¬ i + 1 = 0 by omega)]
    by_cases hi : i = 0
    · subst hi; simp [ba_assoc]
    · rw [if_pos (show 0 < i by omega), if_neg hi]; simp only [wput, ba_assoc]
theorem wrA_sP : ∀ (l : List Nd) (i : Nat) (σ : WS), (wrA l i σ).1 = σ.1 ++ (if i = 0 then jn ⟨#[32, 97, 110, 100, 32]⟩ (sPa l) else jt ⟨#[32, 97, 110, 100, 32]⟩ (sPa l))
  | [], i, σ => by simp only [wrA, sPa, jn_nil, jt, ite_self, ba_nil]
  | x :: l, i, σ => by
    simp only [wrA, sPa, jn_cons, jt]
    rw [wrA_sP l (i + 1), if_neg (show ¬ i + 1 = 0 by omega)]
    have key : ∀ τ : WS, (if x.kind == 1 then wput ⟨#[41]⟩ (wr x (wput ⟨#[40]⟩ τ)) else wr x τ).1 = τ.1 ++ (if x.kind == 1 then ⟨#[40]⟩ ++ sP x ++ ⟨#[41]⟩ else sP x) := by
      intro τ
      split
      · simp only [wput, wr_sP x, ba_assoc]
      · exact wr_sP x τ
    rw [key]
    by_cases hi : i = 0
    · subst hi; simp [ba_assoc]
    · rw [if_pos (show 0 < i by omega), if_neg hi]; simp only [wput, ba_assoc]
end

theorem prG_jn (k : Int) : ∀ (l : List Nd) (i : Nat) (acc : ByteArray), prG k l i acc = acc ++ (if i = 0 then jn (wordR k) (l.map (fun x => prR x k)) else jt (wordR k) (l.map (fun x => prR x k)))
  | [], i, acc => by simp only [prG, List.map_nil, jn_nil, jt, ite_self, ba_nil]
  | x :: l, i, acc => by
    simp only [prG, List.map_cons, jn_cons, jt]
    rw [prG_jn k l (i + 1), if_neg (show ¬ i + 1 = 0 by omega)]
    by_cases hi : i = 0
    · subst hi; simp [ba_assoc]
    · rw [if_pos (show 0 < i by omega), if_neg hi]; simp only [ba_assoc]
theorem prG0 (k : Int) (l : List Nd) : prG k l 0 ⟨#[]⟩ = jn (wordR k) (l.map (fun x => prR x k)) := by rw [prG_jn]; simp only [if_true, nil_ba]

theorem rc_kind {x : Nd} (h : gP x) : ((rc x).kind == 6) = (x.kind == 1) ∧ ((rc x).kind == 5) = (x.kind == 2) := by
  cases x with
  | mk k nm kids =>
    simp only [gP] at h
    rcases h.1 with ⟨rfl | rfl, _⟩ | ⟨rfl, hl⟩ | ⟨rfl | rfl, _⟩ | ⟨rfl, _, _⟩ <;> simp [rc, Nd.kind]

mutual
theorem ne_rc : ∀ x, gP x → ∀ op : Int, op = 5 ∨ op = 6 → gkid op (rc x) ≠ []
  | .mk k nm kids, h, op, ho => by
    simp only [gP] at h
    obtain ⟨h, hk⟩ := h
    unfold gkid
    split
    · rename_i hop
      rcases h with ⟨rfl | rfl, hl⟩ | ⟨rfl, hl⟩ | ⟨rfl | rfl, hl⟩ | ⟨rfl, hl, _⟩
      · have := nes_rc kids hk 6 (.inr rfl) (by omega)
        simpa [rc, Nd.kids] using this
      · have := nes_rc kids hk 5 (.inl rfl) (by omega)
        simpa [rc, Nd.kids] using this
      · simp [rc, Nd.kind] at hop; omega
      · simp [rc, Nd.kind] at hop; omega
      · simp [rc, Nd.kind] at hop; omega
      · simp [rc, Nd.kind] at hop; omega
    · simp
theorem nes_rc : ∀ l, gPs l → ∀ op : Int, op = 5 ∨ op = 6 → 1 ≤ l.length → gkids op (rcs l) ≠ []
  | [], _, _, _, h => by simp at h
  | x :: l, h, op, ho, _ => by
    simp only [gPs] at h
    have := ne_rc x h.1 op ho
    simp only [gkids, rcs, List.flatMap_cons]
    intro h0
    rw [List.append_eq_nil_iff] at h0
    exact this h0.1
end

theorem jn_one (w s : ByteArray) : jn w [s] = s := by simp only [jn_cons, jt, ba_nil]

/-- The strings of operands, side by side. -/
theorem jn_gkids (op : Int) (f : Nd → ByteArray) (kids : List Nd) (h1 : ∀ x ∈ kids, gkid op (rc x) ≠ []) (h2 : ∀ x ∈ kids, jn (wordR op) ((gkid op (rc x)).map (fun y => prR y op)) = f x) :
    jn (wordR op) ((gkids op (rcs kids)).map (fun y => prR y op)) = jn (wordR op) (kids.map f) := by
  have e : (gkids op (rcs kids)).map (fun y => prR y op) = kids.flatMap (fun x => (gkid op (rc x)).map (fun y => prR y op)) := by
    simp only [gkids, rcs_eq, List.map_flatMap, List.flatMap_map]
  rw [e, jn_flat _ _ kids (fun x hx => by simpa using h1 x hx)]
  congr 1
  exact List.map_congr_left h2

theorem sPs_eq : ∀ l, sPs l = l.map sP
  | [] => by simp only [sPs, List.map_nil]
  | x :: l => by simp only [sPs, List.map_cons, sPs_eq l]
def sPq (x : Nd) : ByteArray := if x.kind == 1 then ⟨#[40]⟩ ++ sP x ++ ⟨#[41]⟩ else sP x
theorem sPa_eq : ∀ l, sPa l = l.map sPq
  | [] => by simp only [sPa, List.map_nil]
  | x :: l => by simp only [sPa, List.map_cons, sPa_eq l, sPq]

/-- What the reference prints of the node for x, within an operator. -/
def inP (x : Nd) (w : Int) : ByteArray := if (x.kind == 1 || x.kind == 2) && (w == 4 || w == 5) then ⟨#[40]⟩ ++ sP x ++ ⟨#[41]⟩ else sP x

theorem pr_same_op {y : Nd} {op : Int} (ho : op = 5 ∨ op = 6) (hk : y.kind = op) : jn (wordR op) (y.kids.map (fun z => prR z op)) = prR y 0 := by
  cases y with
  | mk k nm kids =>
    simp only [Nd.kind] at hk; subst hk
    simp only [Nd.kids, ← prG0]
    rcases ho with rfl | rfl <;> simp [prR]

theorem jn_rc {x : Nd} (h : gP x) (hp : ∀ w, prR (rc x) w = inP x w) : jn (wordR 6) ((gkid 6 (rc x)).map (fun y => prR y 6)) = sP x ∧ jn (wordR 5) ((gkid 5 (rc x)).map (fun y => prR y 5)) = sPq x := by
  obtain ⟨k6, k5⟩ := rc_kind h
  refine ⟨?_, ?_⟩
  · unfold gkid
    split
    · rename_i hh
      rw [pr_same_op (.inr rfl) (by simpa using hh), hp 0]; simp [inP]
    · rename_i hh
      simp only [List.map_cons, List.map_nil, jn_one, hp 6]; simp [inP]
  · unfold gkid
    split
    · rename_i hh
      have hh2 := hh
      rw [k5] at hh2
      have h2 : x.kind = 2 := by simpa using hh2
      rw [pr_same_op (.inl rfl) (by simpa using hh), hp 0]; simp [inP, sPq, h2]
    · rename_i hh
      rw [k5] at hh
      have h2 : (x.kind == 2) = false := by simpa using hh
      simp only [List.map_cons, List.map_nil, jn_one, hp 5, inP, sPq, h2, Bool.or_false]; simp

mutual
theorem pr_rc : ∀ x, gP x → ∀ w, prR (rc x) w = inP x w
  | .mk k nm kids, h, w => by
    simp only [gP] at h
    obtain ⟨h, hk⟩ := h
    have ih := prs_rc kids hk
    have hg := (gPs_iff kids).1 hk
    rcases h with ⟨rfl | rfl, hl⟩ | ⟨rfl, hl⟩ | ⟨rfl | rfl, hl⟩ | ⟨rfl, hl, _⟩
    · have e : jn (wordR 6) ((gkids 6 (rcs kids)).map (fun y => prR y 6)) = jn (wordR 6) (kids.map sP) :=
        jn_gkids 6 sP kids (fun x hx => ne_rc x (hg x hx) 6 (.inr rfl)) (fun x hx => (jn_rc (hg x hx) (ih x hx)).1)
      have e2 : prG 6 (gkids 6 (rcs kids)) 0 ⟨#[]⟩ = sP (.mk 1 nm kids) := by rw [prG0, e]; simp only [sP, sPs_eq]; rfl
      have e3 : rc (.mk 1 nm kids) = .mk 6 ⟨#[]⟩ (gkids 6 (rcs kids)) := by simp [rc]
      rw [e3]
      simp only [prR, e2, inP, Nd.kind]; simp
    · have e : jn (wordR 5) ((gkids 5 (rcs kids)).map (fun y => prR y 5)) = jn (wordR 5) (kids.map sPq) :=
        jn_gkids 5 sPq kids (fun x hx => ne_rc x (hg x hx) 5 (.inl rfl)) (fun x hx => (jn_rc (hg x hx) (ih x hx)).2)
      have e2 : prG 5 (gkids 5 (rcs kids)) 0 ⟨#[]⟩ = sP (.mk 2 nm kids) := by rw [prG0, e]; simp only [sP, sPa_eq]; rfl
      have e3 : rc (.mk 2 nm kids) = .mk 5 ⟨#[]⟩ (gkids 5 (rcs kids)) := by simp [rc]
      rw [e3]
      simp only [prR, e2, inP, Nd.kind]; simp
    · match kids, hl, ih with
      | [x], _, ih =>
        have h1 := ih x (by simp) 4
        have e3 : rc (.mk 3 nm [x]) = .mk 4 ⟨#[]⟩ [rc x] := by simp [rc, rcs]
        rw [e3]
        simp only [prR, prH, h1, inP, Nd.kind, sP, sPh]
        simp
    · simp [rc, prR, inP, Nd.kind, sP]
    · simp [rc, prR, inP, Nd.kind, sP]
    · simp [rc, prR, inP, Nd.kind, sP]
theorem prs_rc : ∀ l, gPs l → ∀ x ∈ l, ∀ w, prR (rc x) w = inP x w
  | [], _, x, hx => by simp at hx
  | y :: l, h, x, hx => by
    simp only [gPs] at h
    rcases List.mem_cons.1 hx with h1 | h1
    · rw [h1]; exact pr_rc y h.1
    · exact prs_rc l h.2 x h1
end

def normR (s : ByteArray) : ByteArray × Int := if (readR s).2 = 0 then (prR (readR s).1 0, 0) else (⟨#[]⟩, (readR s).2)
theorem normPR (s : ByteArray) : normR s = normP s := by
  obtain ⟨h1, h2⟩ := read_same s
  unfold normR normP
  rw [h1]
  split
  · rename_i h
    rw [h2 h, pr_rc _ (gP_parse h) 0, wr_sP, nil_ba]; simp [inP]
  · rfl

/-! ### how long what the reference prints is -/
mutual
theorem pr_le : ∀ (x : Nd) (w : Int), (prR x w).size + 6 ≤ wgt x
  | .mk k nm kids, w => by
    simp only [prR, wgt]
    split
    · omega
    split
    · rw [zTrue]; omega
    split
    · rw [zFalse]; omega
    split
    · have := prH_le kids; rw [ByteArray.size_append, zNot]; omega
    have := prG_le k kids 0 ⟨#[]⟩
    rw [zNil] at this
    split
    · rw [ByteArray.size_append, ByteArray.size_append, zOpen, zClose]; omega
    · omega
theorem prH_le : ∀ l : List Nd, (prH l).size ≤ wgts l
  | [] => by simp only [prH, zNil, wgts]; omega
  | x :: l => by simp only [prH, wgts]; have := pr_le x 4; omega
theorem prG_le (k : Int) : ∀ (l : List Nd) (i : Nat) (acc : ByteArray), (prG k l i acc).size ≤ acc.size + wgts l
  | [], i, acc => by simp only [prG, wgts]; omega
  | x :: l, i, acc => by
    simp only [prG, wgts]
    have h1 := prG_le k l (i + 1) ((if 0 < i then acc ++ wordR k else acc) ++ prR x k)
    have h2 := pr_le x k
    have h3 : (wordR k).size ≤ 5 := by unfold wordR; split <;> first | (rw [zOrS]; omega) | (rw [zAndS]; omega)
    rw [ByteArray.size_append] at h1
    have h4 : (if 0 < i then acc ++ wordR k else acc).size ≤ acc.size + 5 := by
      split
      · rw [ByteArray.size_append]; omega
      · omega
    omega
end
theorem wgts_gkid (op : Int) (x : Nd) : wgts (gkid op x) ≤ wgt x := by
  unfold gkid
  split
  · cases x with
    | mk k nm kids => simp only [Nd.kids, wgt]; omega
  · rw [wgts_one]; omega
theorem wgts_gkids (op : Int) : ∀ l : List Nd, wgts (gkids op l) ≤ wgts l
  | [] => by simp [gkids, wgts]
  | x :: l => by
    have h1 := wgts_gkids op l
    have h2 := wgts_gkid op x
    simp only [gkids, List.flatMap_cons, wgts_app, wgts] at h1 ⊢; omega
mutual
theorem wgt_rc : ∀ x, wgt (rc x) ≤ wgt x
  | .mk k nm kids => by
    have ih := wgts_rc kids
    have h6 := wgts_gkids 6 (rcs kids)
    have h5 := wgts_gkids 5 (rcs kids)
    simp only [rc]
    split
    · simp only [wgt, zNil]; omega
    split
    · simp only [wgt, zNil]; omega
    split
    · simp only [wgt, zNil]; omega
    split
    · simp only [wgt, zNil, wgts]; omega
    split
    · simp only [wgt, zNil, wgts]; omega
    · simp only [wgt, wgts]; omega
theorem wgts_rc : ∀ l, wgts (rcs l) ≤ wgts l
  | [] => by simp only [rcs]; omega
  | x :: l => by simp only [rcs, wgts]; have := wgt_rc x; have := wgts_rc l; omega
end
theorem read_wgt (s : ByteArray) : wgt (readR s).1 ≤ 20480000 := by
  obtain ⟨h1, h2⟩ := read_same s
  by_cases h : (parseP s).2 = 0
  · rw [h2 h]; have := (norm_wee h).1; have := wgt_rc (parseP s).1; omega
  · have h3 : (readR s).1 = nd0 := by
      rw [← h1] at h
      unfold readR at h ⊢
      split
      · rfl
      · rename_i h0
        rw [if_neg h0] at h
        unfold readT at h ⊢
        split
        · rfl
        split
        · rfl
        split
        · rfl
        split
        · rfl
        · rename_i q1 q2 q3 q4; rw [if_neg q1, if_neg q2, if_neg q3, if_neg q4] at h; simp at h
    rw [h3, wgt_nd0]; omega
theorem wgts_mem {x : Nd} : ∀ {l : List Nd}, x ∈ l → wgt x ≤ wgts l
  | [], h => by simp at h
  | y :: l, h => by
    simp only [List.mem_cons] at h
    simp only [wgts]
    rcases h with rfl | h
    · omega
    · have := wgts_mem h; omega

end Go.Proofs.Ytdaglbjgdakmcaa
