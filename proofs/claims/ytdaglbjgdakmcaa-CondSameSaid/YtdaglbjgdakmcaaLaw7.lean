/- The tokens of a normal form; what is read is not longer than its text. -/
import Derived.Test.YtdaglbjgdakmcaaLaw6
set_option linter.unusedSimpArgs false
set_option linter.unusedVariables false
namespace Go.Proofs.Ytdaglbjgdakmcaa
open Go Go.Eng

def tjt (w : ByteArray) : List (List ByteArray) → List ByteArray
  | [] => []
  | l :: r => w :: (l ++ tjt w r)
def tjn (w : ByteArray) : List (List ByteArray) → List ByteArray
  | [] => []
  | l :: r => l ++ tjt w r
theorem tjn_cons (w : ByteArray) (l : List ByteArray) (r : List (List ByteArray)) : tjn w (l :: r) = l ++ tjt w r := rfl
theorem tjn_nil (w : ByteArray) : tjn w [] = [] := rfl
theorem tjt_app (w : ByteArray) : ∀ l m, tjt w (l ++ m) = tjt w l ++ tjt w m
  | [], m => rfl
  | a :: l, m => by simp only [List.cons_append, tjt, tjt_app w l m, List.append_assoc]
theorem tjt_ne (w : ByteArray) {l : List (List ByteArray)} (h : l ≠ []) : tjt w l = w :: tjn w l := by
  match l, h with
  | a :: l, _ => rfl
theorem tjt_flat {α : Type} (w : ByteArray) (f : α → List (List ByteArray)) : ∀ l : List α, (∀ x ∈ l, f x ≠ []) → tjt w (l.flatMap f) = tjt w (l.map (fun x => tjn w (f x)))
  | [], _ => rfl
  | x :: l, h => by
    simp only [List.flatMap_cons, List.map_cons, tjt_app, tjt]
    rw [tjt_ne w (h x (by simp)), tjt_flat w f l (fun y hy => h y (by simp [hy]))]; rfl
theorem tjn_flat {α : Type} (w : ByteArray) (f : α → List (List ByteArray)) : ∀ l : List α, (∀ x ∈ l, f x ≠ []) → tjn w (l.flatMap f) = tjn w (l.map (fun x => tjn w (f x)))
  | [], _ => rfl
  | x :: l, h => by
    simp only [List.flatMap_cons, List.map_cons, tjn_cons]
    have h1 := h x (by simp)
    match hf : f x, h1 with
    | s :: r, _ =>
      simp only [List.cons_append, tjn_cons, tjt_app, List.append_assoc]
      rw [tjt_flat w f l (fun y hy => h y (by simp [hy]))]

mutual
/-- The tokens of a node's normal form. -/
def tk0 : Nd → List ByteArray
  | .mk k nm kids => if k == 1 then [nm] else if k == 2 then [⟨#[116, 114, 117, 101]⟩] else if k == 3 then [⟨#[102, 97, 108, 115, 101]⟩] else if k == 4 then ⟨#[110, 111, 116]⟩ :: tkH kids
    else if k == 5 then tjn ⟨#[97, 110, 100]⟩ (tkAs kids) else tjn ⟨#[111, 114]⟩ (tk0s kids)
def tkH : List Nd → List ByteArray
  | [] => []
  | x :: _ => if x.kind == 5 || x.kind == 6 then ⟨#[40]⟩ :: (tk0 x ++ [⟨#[41]⟩]) else tk0 x
def tkAs : List Nd → List (List ByteArray)
  | [] => []
  | x :: l => (if x.kind == 5 || x.kind == 6 then ⟨#[40]⟩ :: (tk0 x ++ [⟨#[41]⟩]) else tk0 x) :: tkAs l
def tk0s : List Nd → List (List ByteArray)
  | [] => []
  | x :: l => tk0 x :: tk0s l
end
def tkA (x : Nd) : List ByteArray := if x.kind == 5 || x.kind == 6 then ⟨#[40]⟩ :: (tk0 x ++ [⟨#[41]⟩]) else tk0 x
def tkB (x : Nd) : List ByteArray := if x.kind == 6 then ⟨#[40]⟩ :: (tk0 x ++ [⟨#[41]⟩]) else tk0 x
theorem tkAs_eq : ∀ l, tkAs l = l.map tkA
  | [] => by simp only [tkAs, List.map_nil]
  | x :: l => by simp only [tkAs, List.map_cons, tkAs_eq l, tkA]
theorem tk0s_eq : ∀ l, tk0s l = l.map tk0
  | [] => by simp only [tk0s, List.map_nil]
  | x :: l => by simp only [tk0s, List.map_cons, tk0s_eq l]

def maxL (f : Nd → Nat) : List Nd → Nat
  | [] => 0
  | x :: l => max (f x) (maxL f l)
theorem maxL_le {f : Nd → Nat} {n : Nat} : ∀ {l : List Nd}, (∀ x ∈ l, f x ≤ n) → maxL f l ≤ n
  | [], _ => by simp [maxL]
  | x :: l, h => by simp only [maxL]; have := h x (by simp); have := maxL_le (f := f) (n := n) (l := l) (fun y hy => h y (by simp [hy])); omega
theorem le_maxL {f : Nd → Nat} {x : Nd} : ∀ {l : List Nd}, x ∈ l → f x ≤ maxL f l
  | [], h => by simp at h
  | y :: l, h => by
    simp only [maxL]
    rcases List.mem_cons.1 h with rfl | h
    · omega
    · have := le_maxL (f := f) h; omega
mutual
def d0 : Nd → Nat
  | .mk k nm kids => if k == 4 then 1 + dH kids else if k == 5 then dAs kids else if k == 6 then dBs kids else 0
def dH : List Nd → Nat
  | [] => 0
  | x :: _ => if x.kind == 5 || x.kind == 6 then d0 x + 1 else d0 x
def dAs : List Nd → Nat
  | [] => 0
  | x :: l => max (if x.kind == 5 || x.kind == 6 then d0 x + 1 else d0 x) (dAs l)
def dBs : List Nd → Nat
  | [] => 0
  | x :: l => max (if x.kind == 6 then d0 x + 1 else d0 x) (dBs l)
end
def dA (x : Nd) : Nat := if x.kind == 5 || x.kind == 6 then d0 x + 1 else d0 x
def dB (x : Nd) : Nat := if x.kind == 6 then d0 x + 1 else d0 x
theorem dAs_eq : ∀ l, dAs l = maxL dA l
  | [] => by simp only [dAs, maxL]
  | x :: l => by simp only [dAs, maxL, dAs_eq l, dA]
theorem dBs_eq : ∀ l, dBs l = maxL dB l
  | [] => by simp only [dBs, maxL]
  | x :: l => by simp only [dBs, maxL, dBs_eq l, dB]

mutual
/-- Trees that the reference's reader makes. -/
def gR : Nd → Prop
  | .mk k nm kids => (k = 1 ∧ kids = [] ∧ specB nm = false ∧ nameB nm = true ∨ (k = 2 ∨ k = 3) ∧ kids = [] ∧ nm = ⟨#[]⟩ ∨ k = 4 ∧ kids.length = 1 ∧ nm = ⟨#[]⟩ ∨ (k = 5 ∨ k = 6) ∧ nm = ⟨#[]⟩ ∧ 2 ≤ kids.length ∧ ∀ x ∈ kids, x.kind ≠ k) ∧ gRs kids
def gRs : List Nd → Prop
  | [] => True
  | x :: l => gR x ∧ gRs l
end
theorem gRs_iff : ∀ l, gRs l ↔ ∀ x ∈ l, gR x
  | [] => by simp [gRs]
  | x :: l => by simp [gRs, gRs_iff l]
theorem gR_kids {x : Nd} (h : gR x) : ∀ y ∈ x.kids, gR y := by
  cases x with
  | mk k nm kids => simp only [gR] at h; exact (gRs_iff kids).1 h.2
theorem gR_op {x : Nd} {op : Int} (h : gR x) (hk : x.kind = op) (ho : op = 5 ∨ op = 6) : x = .mk op ⟨#[]⟩ x.kids ∧ 2 ≤ x.kids.length ∧ ∀ y ∈ x.kids, y.kind ≠ op := by
  cases x with
  | mk k nm kids =>
    simp only [Nd.kind] at hk; subst hk
    simp only [gR] at h
    rcases h.1 with ⟨rfl, _⟩ | ⟨rfl | rfl, _⟩ | ⟨rfl, _⟩ | ⟨_, rfl, h2, h3⟩
    · omega
    · omega
    · omega
    · omega
    · exact ⟨rfl, h2, h3⟩

def bsum (l : List ByteArray) : Nat := (l.map (fun x => x.size + 1)).sum
theorem bsum_nil : bsum [] = 0 := rfl
theorem bsum_cons (x : ByteArray) (l : List ByteArray) : bsum (x :: l) = x.size + 1 + bsum l := by simp [bsum]
theorem bsum_app (a b : List ByteArray) : bsum (a ++ b) = bsum a + bsum b := by simp [bsum]
def flt (l : List ByteArray) : List ByteArray := l.filter (fun x => !specB x)
theorem flt_app (a b : List ByteArray) : flt (a ++ b) = flt a ++ flt b := by simp [flt]
theorem flt_spec {x : ByteArray} (l : List ByteArray) (h : specB x = true) : flt (x :: l) = flt l := by simp [flt, h]

theorem tkA_b (x : Nd) : bsum (tk0 x) ≤ bsum (tkA x) ∧ bsum (tkA x) ≤ bsum (tk0 x) + 4 ∧ flt (tkA x) = flt (tk0 x) := by
  unfold tkA
  split
  · simp only [bsum_cons, bsum_app, bsum_nil, zOpen, zClose]
    refine ⟨by omega, by omega, ?_⟩
    rw [flt_spec _ (by decide), flt_app, flt_spec _ (by decide)]; simp [flt]
  · exact ⟨Nat.le_refl _, by omega, rfl⟩
theorem tkB_b (x : Nd) : bsum (tk0 x) ≤ bsum (tkB x) ∧ bsum (tkB x) ≤ bsum (tkA x) ∧ flt (tkB x) = flt (tk0 x) ∧ dB x ≤ dA x ∧ d0 x ≤ dB x := by
  unfold tkB tkA dA dB
  split
  · rename_i h
    simp only [h, Bool.or_true, if_true]
    simp only [bsum_cons, bsum_app, bsum_nil, zOpen, zClose]
    refine ⟨by omega, by omega, ?_, by omega, by omega⟩
    rw [flt_spec _ (by decide), flt_app, flt_spec _ (by decide)]; simp [flt]
  · refine ⟨Nat.le_refl _, ?_, rfl, ?_, Nat.le_refl _⟩
    · exact (tkA_b x).1
    · split <;> omega

/-- What a reader leaves. -/
structure Rd (T : Nd → List ByteArray) (D : Nd → Nat) (ts : List ByteArray) (y : Nd) (h : Nat) (q : List ByteArray) : Prop where
  g : gR y
  d : D y ≤ h
  b : bsum (T y) + bsum q ≤ bsum ts
  f : flt (T y) ++ flt q = flt ts
  m : ∀ x ∈ q, x ∈ ts
def OkF (g : List ByteArray → FR) (T : Nd → List ByteArray) (D : Nd → Nat) : Prop := ∀ ts y h q, (∀ x ∈ ts, badF x = false) → g ts = some (y, h, q) → Rd T D ts y h q

theorem f1_rd {rec lst : List ByteArray → FR} (hr : OkF rec tkA dA) (hl : OkF lst tk0 d0) : OkF (f1 rec lst) tkA dA := by
  intro ts y h q hb hv
  cases ts with
  | nil => simp [f1] at hv
  | cons x r =>
    have hb' : ∀ z ∈ r, badF z = false := fun z hz => hb z (by simp [hz])
    simp only [f1] at hv
    split at hv
    · simp at hv
    rename_i h1
    split at hv
    · simp at hv
    rename_i h2
    split at hv
    · simp at hv
    rename_i h3
    split at hv
    · rename_i h4
      rw [eqs_iff] at h4; subst h4
      cases hx : rec r with
      | none => rw [hx] at hv; simp at hv
      | some w =>
        obtain ⟨y', h', q'⟩ := w
        rw [hx] at hv
        simp only [Option.some.injEq, Prod.mk.injEq] at hv
        obtain ⟨rfl, rfl, rfl⟩ := hv
        have R := hr r y' h' q' hb' hx
        have e1 : tkA (.mk 4 ⟨#[]⟩ [y']) = ⟨#[110, 111, 116]⟩ :: tkA y' := by simp [tkA, tk0, tkH, Nd.kind]
        have e2 : dA (.mk 4 ⟨#[]⟩ [y']) = 1 + dA y' := by simp [dA, d0, dH, Nd.kind]
        refine ⟨?_, by rw [e2]; have := R.d; omega, ?_, ?_, fun z hz => by simp [R.m z hz]⟩
        · simp only [gR, gRs]; exact ⟨.inr (.inr (.inl ⟨trivial, rfl, trivial⟩)), R.g, trivial⟩
        · rw [e1, bsum_cons, bsum_cons]; have := R.b; omega
        · rw [e1, flt_spec _ (by decide), flt_spec _ (by decide)]; exact R.f
    rename_i h4
    split at hv
    · rename_i h5
      rw [eqs_iff] at h5; subst h5
      cases hx : lst r with
      | none => rw [hx] at hv; simp at hv
      | some w =>
        obtain ⟨y', h', q'⟩ := w
        rw [hx] at hv
        cases q' with
        | nil => simp at hv
        | cons d q' =>
          simp only at hv
          split at hv
          · rename_i hd
            rw [eqs_iff] at hd; subst hd
            simp only [Option.some.injEq, Prod.mk.injEq] at hv
            obtain ⟨rfl, rfl, rfl⟩ := hv
            have R := hl r y' h' _ hb' hx
            obtain ⟨t1, t2, t3⟩ := tkA_b y'
            have Rb := R.b; have Rf := R.f
            rw [bsum_cons, zClose] at Rb
            rw [flt_spec _ (by decide)] at Rf
            refine ⟨R.g, ?_, ?_, ?_, fun z hz => by simp [R.m z (by simp [hz])]⟩
            · have := R.d; unfold dA; split <;> omega
            · rw [bsum_cons, zOpen]; omega
            · rw [t3, flt_spec _ (by decide)]; exact Rf
          · simp at hv
    rename_i h5
    split at hv
    · rename_i h6
      rw [eqs_iff] at h6; subst h6
      simp only [Option.some.injEq, Prod.mk.injEq] at hv
      obtain ⟨rfl, rfl, rfl⟩ := hv
      have e1 : tkA (.mk 2 ⟨#[]⟩ []) = [⟨#[116, 114, 117, 101]⟩] := by simp [tkA, tk0, Nd.kind]
      refine ⟨by simp [gR, gRs], by simp [dA, d0, Nd.kind], by rw [e1, bsum_cons, bsum_cons, bsum_nil]; omega, ?_, fun z hz => by simp [hz]⟩
      rw [e1, flt_spec _ (by decide), flt_spec _ (by decide)]; simp [flt]
    rename_i h6
    split at hv
    · rename_i h7
      rw [eqs_iff] at h7; subst h7
      simp only [Option.some.injEq, Prod.mk.injEq] at hv
      obtain ⟨rfl, rfl, rfl⟩ := hv
      have e1 : tkA (.mk 3 ⟨#[]⟩ []) = [⟨#[102, 97, 108, 115, 101]⟩] := by simp [tkA, tk0, Nd.kind]
      refine ⟨by simp [gR, gRs], by simp [dA, d0, Nd.kind], by rw [e1, bsum_cons, bsum_cons, bsum_nil]; omega, ?_, fun z hz => by simp [hz]⟩
      rw [e1, flt_spec _ (by decide), flt_spec _ (by decide)]; simp [flt]
    · rename_i h7
      simp only [Option.some.injEq, Prod.mk.injEq] at hv
      obtain ⟨rfl, rfl, rfl⟩ := hv
      have hs : specB x = false := by simp [specB, kwB, h1, h2, h3, h4, h5, h6, h7]
      have hn : nameB x = true := by have := hb x (by simp); simpa [badF, hs] using this
      have e1 : tkA (.mk 1 x []) = [x] := by simp [tkA, tk0, Nd.kind]
      refine ⟨by simp [gR, gRs, hs, hn], by simp [dA, d0, Nd.kind], by rw [e1, bsum_cons, bsum_cons, bsum_nil]; omega, ?_, fun z hz => by simp [hz]⟩
      rw [e1]; simp [flt, hs]

theorem bsum_tjn_app (w : ByteArray) (a : List ByteArray) (r : List (List ByteArray)) (h : r ≠ []) : bsum (tjn w (a :: r)) = bsum a + (w.size + 1) + bsum (tjn w r) := by
  rw [tjn_cons, tjt_ne w h, bsum_app, bsum_cons]; omega
theorem flt_tjn_app {w : ByteArray} (hw : specB w = true) (a : List ByteArray) (r : List (List ByteArray)) : flt (tjn w (a :: r)) = flt a ++ flt (tjn w r) := by
  rw [tjn_cons]
  cases r with
  | nil => simp [tjt, tjn, flt]
  | cons b r => rw [tjt_ne w (by simp), flt_app, flt_spec _ hw]

theorem fl_rd {opnd : List ByteArray → FR} {word : ByteArray} {op : Int} {T : Nd → List ByteArray} {D : Nd → Nat} (hw : specB word = true) (ho : OkF opnd T D) : ∀ (m : Nat) (ts : List ByteArray) (acc : List Nd) (h0 : Nat) (y : Nd) (h : Nat) (q : List ByteArray), (∀ x ∈ ts, badF x = false) →
    fl opnd word op m ts acc h0 = some (y, h, q) → ∃ new : List Nd, new ≠ [] ∧ y = grp op (acc ++ new) ∧ h0 ≤ h ∧ (∀ z ∈ new, gR z ∧ D z ≤ h) ∧ bsum (tjn word (new.map T)) + bsum q ≤ bsum ts ∧ flt (tjn word (new.map T)) ++ flt q = flt ts ∧ ∀ x ∈ q, x ∈ ts
  | 0, ts, acc, h0, y, h, q, hb, hv => by simp [fl] at hv
  | m + 1, ts, acc, h0, y, h, q, hb, hv => by
    simp only [fl] at hv
    cases hx : opnd ts with
    | none => rw [hx] at hv; simp at hv
    | some w =>
      obtain ⟨y1, h1, q1⟩ := w
      rw [hx] at hv
      have R := ho ts y1 h1 q1 hb hx
      have done : ∃ new : List Nd, new ≠ [] ∧ grp op (acc ++ [y1]) = grp op (acc ++ new) ∧ h0 ≤ max h0 h1 ∧ (∀ z ∈ new, gR z ∧ D z ≤ max h0 h1) ∧ bsum (tjn word (new.map T)) + bsum q1 ≤ bsum ts ∧ flt (tjn word (new.map T)) ++ flt q1 = flt ts ∧ ∀ x ∈ q1, x ∈ ts := by
        refine ⟨[y1], by simp, rfl, by omega, fun z hz => ?_, ?_, ?_, R.m⟩
        · simp at hz; subst hz; exact ⟨R.g, by have := R.d; omega⟩
        · simp only [List.map_cons, List.map_nil, tjn_cons, tjt, List.append_nil]; exact R.b
        · simp only [List.map_cons, List.map_nil, tjn_cons, tjt, List.append_nil]; exact R.f
      cases q1 with
      | nil =>
        simp only [Option.some.injEq, Prod.mk.injEq] at hv
        obtain ⟨rfl, rfl, rfl⟩ := hv
        exact done
      | cons d q1 =>
        simp only at hv
        split at hv
        · rename_i hd
          rw [eqs_iff] at hd; subst hd
          obtain ⟨new, n1, n2, n3, n4, n5, n6, n7⟩ := fl_rd hw ho m q1 _ _ y h q (fun x hx => hb x (R.m x (by simp [hx]))) hv
          have Rb := R.b; have Rf := R.f
          rw [bsum_cons] at Rb
          rw [flt_spec _ hw] at Rf
          refine ⟨y1 :: new, by simp, by rw [n2]; simp, by omega, fun z hz => ?_, ?_, ?_, fun x hx => R.m x (by simp [n7 x hx])⟩
          · rcases List.mem_cons.1 hz with rfl | hz
            · exact ⟨R.g, by have := R.d; omega⟩
            · exact n4 z hz
          · rw [List.map_cons, bsum_tjn_app d _ _ (by simpa using n1)]; omega
          · rw [List.map_cons, flt_tjn_app hw, ← Rf, List.append_assoc, n6]
        · simp only [Option.some.injEq, Prod.mk.injEq] at hv
          obtain ⟨rfl, rfl, rfl⟩ := hv
          exact done

theorem bsum_tjn_le (w : ByteArray) {f g : Nd → List ByteArray} : ∀ l : List Nd, (∀ x ∈ l, bsum (f x) ≤ bsum (g x)) → bsum (tjn w (l.map f)) ≤ bsum (tjn w (l.map g))
  | [], _ => Nat.le_refl _
  | [x], h => by simp only [List.map_cons, List.map_nil, tjn_cons, tjt, List.append_nil]; exact h x (by simp)
  | x :: y :: l, h => by
    have ih := bsum_tjn_le w (f := f) (g := g) (y :: l) (fun z hz => h z (by simp [hz]))
    rw [List.map_cons, List.map_cons (l := y :: l) (f := g), bsum_tjn_app w _ _ (by simp), bsum_tjn_app w _ _ (by simp)]
    have := h x (by simp); omega
theorem flt_tjn_eq {w : ByteArray} (hw : specB w = true) {f g : Nd → List ByteArray} : ∀ l : List Nd, (∀ x ∈ l, flt (f x) = flt (g x)) → flt (tjn w (l.map f)) = flt (tjn w (l.map g))
  | [], _ => rfl
  | x :: l, h => by
    rw [List.map_cons, List.map_cons, flt_tjn_app hw, flt_tjn_app hw, h x (by simp), flt_tjn_eq hw l (fun z hz => h z (by simp [hz]))]

theorem gkid_ne {op : Int} (ho : op = 5 ∨ op = 6) {x : Nd} (h : gR x) : gkid op x ≠ [] := by
  unfold gkid
  split
  · rename_i hk
    obtain ⟨_, h2, _⟩ := gR_op h (by simpa using hk) ho
    intro h0; rw [h0] at h2; simp at h2
  · simp
theorem gkid_mem {op : Int} (ho : op = 5 ∨ op = 6) {x z : Nd} (h : gR x) (hz : z ∈ gkid op x) : gR z ∧ z.kind ≠ op := by
  unfold gkid at hz
  split at hz
  · rename_i hk
    obtain ⟨_, _, h3⟩ := gR_op h (by simpa using hk) ho
    exact ⟨gR_kids h z hz, h3 z hz⟩
  · rename_i hk; simp at hz; subst hz; exact ⟨h, by simpa using hk⟩
theorem gkids_len {op : Int} (ho : op = 5 ∨ op = 6) : ∀ l : List Nd, (∀ x ∈ l, gR x) → l.length ≤ (gkids op l).length
  | [], _ => by simp [gkids]
  | x :: l, h => by
    have ih := gkids_len ho l (fun y hy => h y (by simp [hy]))
    have := List.length_pos_iff.2 (gkid_ne ho (h x (by simp)))
    simp only [gkids, List.flatMap_cons, List.length_append, List.length_cons] at ih ⊢; omega
theorem gR_grp {op : Int} (ho : op = 5 ∨ op = 6) {l : List Nd} (h : ∀ x ∈ l, gR x) (hl : l ≠ []) (h1 : l.length ≠ 1) : gR (.mk op ⟨#[]⟩ (gkids op l)) := by
  simp only [gR]
  have hm : ∀ z ∈ gkids op l, gR z ∧ z.kind ≠ op := by
    intro z hz
    simp only [gkids, List.mem_flatMap] at hz
    obtain ⟨x, hx, hz⟩ := hz
    exact gkid_mem ho (h x hx) hz
  have := gkids_len ho l h
  have := List.length_pos_iff.2 hl
  exact ⟨.inr (.inr (.inr ⟨ho, trivial, by omega, fun z hz => (hm z hz).2⟩)), (gRs_iff _).2 (fun z hz => (hm z hz).1)⟩
theorem grp_one {op : Int} {l : List Nd} (h : l.length = 1) : ∃ z, l = [z] ∧ grp op l = z := by
  match l, h with
  | [z], _ => exact ⟨z, rfl, by simp [grp, ndth]⟩

def tkF (x : Nd) : List ByteArray := if x.kind == 5 then tk0 x else tkA x
theorem tk_and_grp {l : List Nd} (h : ∀ x ∈ l, gR x) : tk0 (.mk 5 ⟨#[]⟩ (gkids 5 l)) = tjn ⟨#[97, 110, 100]⟩ (l.map tkF) := by
  have e : tk0 (.mk 5 ⟨#[]⟩ (gkids 5 l)) = tjn ⟨#[97, 110, 100]⟩ ((gkids 5 l).map tkA) := by simp [tk0, tkAs_eq]
  rw [e]
  have e2 : (gkids 5 l).map tkA = l.flatMap (fun x => (gkid 5 x).map tkA) := by simp only [gkids, List.map_flatMap]
  rw [e2, tjn_flat _ _ l (fun x hx => by simpa using gkid_ne (.inl rfl) (h x hx))]
  congr 1
  refine List.map_congr_left fun x hx => ?_
  unfold gkid tkF
  split
  · rename_i hk
    obtain ⟨h1, _, _⟩ := gR_op (h x hx) (by simpa using hk) (.inl rfl)
    conv => rhs; rw [h1]
    simp [tk0, tkAs_eq]
  · simp [tjn_cons, tjt]
theorem tk_or_grp {l : List Nd} (h : ∀ x ∈ l, gR x) : tk0 (.mk 6 ⟨#[]⟩ (gkids 6 l)) = tjn ⟨#[111, 114]⟩ (l.map tk0) := by
  have e : tk0 (.mk 6 ⟨#[]⟩ (gkids 6 l)) = tjn ⟨#[111, 114]⟩ ((gkids 6 l).map tk0) := by simp [tk0, tk0s_eq]
  rw [e]
  have e2 : (gkids 6 l).map tk0 = l.flatMap (fun x => (gkid 6 x).map tk0) := by simp only [gkids, List.map_flatMap]
  rw [e2, tjn_flat _ _ l (fun x hx => by simpa using gkid_ne (.inr rfl) (h x hx))]
  congr 1
  refine List.map_congr_left fun x hx => ?_
  unfold gkid
  split
  · rename_i hk
    obtain ⟨h1, _, _⟩ := gR_op (h x hx) (by simpa using hk) (.inr rfl)
    conv => rhs; rw [h1]
    simp [tk0, tk0s_eq]
  · simp [tjn_cons, tjt]

theorem fand_rd {g : List ByteArray → FR} (hg : OkF g tkA dA) : OkF (fand g) tkB dB := by
  intro ts y h q hb hv
  obtain ⟨new, n1, n2, n3, n4, n5, n6, n7⟩ := fl_rd (by decide) hg _ ts [] 0 y h q hb hv
  simp only [List.nil_append] at n2
  by_cases hl : new.length = 1
  · obtain ⟨z, rfl, hz⟩ := grp_one (op := 5) hl
    rw [hz] at n2; subst n2
    obtain ⟨t1, t2, t3, t4, t5⟩ := tkB_b y
    obtain ⟨s1, s2, s3⟩ := tkA_b y
    simp only [List.map_cons, List.map_nil, tjn_cons, tjt, List.append_nil] at n5 n6
    refine ⟨(n4 y (by simp)).1, by have := (n4 y (by simp)).2; omega, by omega, by rw [t3, ← s3]; exact n6, n7⟩
  · have hgr : ∀ x ∈ new, gR x := fun x hx => (n4 x hx).1
    have e : grp 5 new = .mk 5 ⟨#[]⟩ (gkids 5 new) := by unfold grp; rw [if_neg hl]
    rw [e] at n2; subst n2
    have ht : tkB (.mk 5 ⟨#[]⟩ (gkids 5 new)) = tjn ⟨#[97, 110, 100]⟩ (new.map tkF) := by rw [← tk_and_grp hgr]; simp [tkB, Nd.kind]
    have hF : ∀ x ∈ new, bsum (tkF x) ≤ bsum (tkA x) ∧ flt (tkF x) = flt (tkA x) := by
      intro x _
      obtain ⟨s1, s2, s3⟩ := tkA_b x
      unfold tkF; split
      · exact ⟨s1, s3.symm⟩
      · exact ⟨Nat.le_refl _, rfl⟩
    refine ⟨gR_grp (.inl rfl) hgr n1 hl, ?_, ?_, ?_, n7⟩
    · have : dB (.mk 5 ⟨#[]⟩ (gkids 5 new)) = maxL dA (gkids 5 new) := by simp [dB, d0, dAs_eq, Nd.kind]
      rw [this]
      refine maxL_le fun z hz => ?_
      simp only [gkids, List.mem_flatMap] at hz
      obtain ⟨x, hx, hz⟩ := hz
      have hd := (n4 x hx).2
      unfold gkid at hz
      split at hz
      · rename_i hk
        obtain ⟨h1, _, _⟩ := gR_op (hgr x hx) (by simpa using hk) (.inl rfl)
        have h2 : d0 x = maxL dA x.kids := by conv => lhs; rw [h1]
                                              simp [d0, dAs_eq]
        have h3 := le_maxL (f := dA) hz
        have h4 : d0 x ≤ dA x := by unfold dA; split <;> omega
        omega
      · simp at hz; subst hz; exact hd
    · rw [ht]; have := bsum_tjn_le ⟨#[97, 110, 100]⟩ new (fun x hx => (hF x hx).1); omega
    · rw [ht, flt_tjn_eq (by decide) new (fun x hx => (hF x hx).2)]; exact n6
theorem foor_rd {g : List ByteArray → FR} (hg : OkF g tkA dA) : OkF (foor g) tk0 d0 := by
  intro ts y h q hb hv
  obtain ⟨new, n1, n2, n3, n4, n5, n6, n7⟩ := fl_rd (by decide) (fand_rd hg) _ ts [] 0 y h q hb hv
  simp only [List.nil_append] at n2
  by_cases hl : new.length = 1
  · obtain ⟨z, rfl, hz⟩ := grp_one (op := 6) hl
    rw [hz] at n2; subst n2
    obtain ⟨t1, t2, t3, t4, t5⟩ := tkB_b y
    simp only [List.map_cons, List.map_nil, tjn_cons, tjt, List.append_nil] at n5 n6
    refine ⟨(n4 y (by simp)).1, by have := (n4 y (by simp)).2; omega, by omega, by rw [← t3]; exact n6, n7⟩
  · have hgr : ∀ x ∈ new, gR x := fun x hx => (n4 x hx).1
    have e : grp 6 new = .mk 6 ⟨#[]⟩ (gkids 6 new) := by unfold grp; rw [if_neg hl]
    rw [e] at n2; subst n2
    have ht := tk_or_grp hgr
    refine ⟨gR_grp (.inr rfl) hgr n1 hl, ?_, ?_, ?_, n7⟩
    · have : d0 (.mk 6 ⟨#[]⟩ (gkids 6 new)) = maxL dB (gkids 6 new) := by simp [d0, dBs_eq]
      rw [this]
      refine maxL_le fun z hz => ?_
      simp only [gkids, List.mem_flatMap] at hz
      obtain ⟨x, hx, hz⟩ := hz
      have hd := (n4 x hx).2
      unfold gkid at hz
      split at hz
      · rename_i hk
        obtain ⟨h1, _, _⟩ := gR_op (hgr x hx) (by simpa using hk) (.inr rfl)
        have h2 : d0 x = maxL dB x.kids := by conv => lhs; rw [h1]
                                              simp [d0, dBs_eq]
        have h3 := le_maxL (f := dB) hz
        have h4 := (tkB_b x).2.2.2.2
        omega
      · simp at hz; subst hz; exact hd
    · rw [ht]; have := bsum_tjn_le ⟨#[111, 114]⟩ (f := tk0) (g := tkB) new (fun x hx => (tkB_b x).1); omega
    · rw [ht, flt_tjn_eq (by decide) (f := tk0) (g := tkB) new (fun x hx => (tkB_b x).2.2.1.symm)]; exact n6
theorem fone_rd : ∀ n, OkF (fone n) tkA dA
  | 0 => f1_rd (fun ts y h q _ hv => by simp at hv) (fun ts y h q _ hv => by simp at hv)
  | n + 1 => f1_rd (fone_rd n) (foor_rd (fone_rd n))

end Go.Proofs.Ytdaglbjgdakmcaa
