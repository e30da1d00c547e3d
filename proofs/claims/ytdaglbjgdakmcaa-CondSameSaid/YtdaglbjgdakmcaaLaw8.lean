/- A normal form is read as its own tree. -/
import Derived.Test.YtdaglbjgdakmcaaLaw7
set_option linter.unusedSimpArgs false
set_option linter.unusedVariables false
namespace Go.Proofs.Ytdaglbjgdakmcaa
open Go Go.Eng

/-- A list of operands is read as it was written. -/
theorem fl_rt {opnd : List ByteArray → FR} {word : ByteArray} {op : Int} {T : Nd → List ByteArray} {D : Nd → Nat} {C : List ByteArray → Prop} (hw : eqs word word = true) (hC : ∀ r, C (word :: r)) {c : List ByteArray} (hc : C c) (hn : Nw word c) :
    ∀ (zs : List Nd) (m : Nat) (acc : List Nd) (h : Nat), zs ≠ [] → zs.length ≤ m → (∀ z ∈ zs, ∀ r, C r → opnd (T z ++ r) = some (z, D z, r)) → fl opnd word op m (tjn word (zs.map T) ++ c) acc h = some (grp op (acc ++ zs), max h (maxL D zs), c)
  | [], m, acc, h, h0, _, _ => absurd rfl h0
  | [z], 0, acc, h, _, hm, _ => by simp at hm
  | [z], m + 1, acc, h, _, hm, ho => by
    simp only [List.map_cons, List.map_nil, tjn_cons, tjt, List.append_nil, fl, ho z (by simp) c hc, maxL]
    cases c with
    | nil => simp
    | cons x c => simp only [hn x rfl, Bool.false_eq_true, if_false]; simp
  | z :: y :: zs, 0, acc, h, _, hm, _ => by simp at hm
  | z :: y :: zs, m + 1, acc, h, _, hm, ho => by
    have ih := fl_rt (op := op) hw hC hc hn (y :: zs) m (acc ++ [z]) (max h (D z)) (by simp) (by simpa using hm) (fun x hx => ho x (by simp [hx]))
    have e : tjn word ((z :: y :: zs).map T) ++ c = T z ++ (word :: (tjn word ((y :: zs).map T) ++ c)) := by
      rw [List.map_cons, tjn_cons, tjt_ne word (by simp)]; simp
    rw [e]
    simp only [fl, ho z (by simp) _ (hC _), hw, if_true]
    rw [ih]
    simp only [maxL, List.append_assoc, List.cons_append, List.nil_append, Option.some.injEq, Prod.mk.injEq, true_and, and_true]
    omega

theorem grp_self {op : Int} (ho : op = 5 ∨ op = 6) {l : List Nd} (hl : 2 ≤ l.length) (h : ∀ x ∈ l, x.kind ≠ op) : grp op l = .mk op ⟨#[]⟩ l := by
  unfold grp
  rw [if_neg (by omega)]
  congr 1
  induction l with
  | nil => rfl
  | cons x l ih =>
    have hx : (x.kind == op) = false := by simpa using h x (by simp)
    simp only [gkids, List.flatMap_cons, gkid, hx, Bool.false_eq_true, if_false, List.cons_append, List.nil_append]
    congr 1
    clear ih hl hx
    induction l with
    | nil => rfl
    | cons y l ih =>
      have hy : (y.kind == op) = false := by simpa using h y (by simp)
      simp only [List.flatMap_cons, gkid, hy, Bool.false_eq_true, if_false, List.cons_append, List.nil_append]
      congr 1
      exact ih (fun z hz => h z (by simp at hz ⊢; rcases hz with hz | hz <;> simp [hz]))

theorem len_tjn (w : ByteArray) (T : Nd → List ByteArray) : ∀ l : List Nd, (∀ x ∈ l, 0 < (T x).length) → l.length ≤ (tjn w (l.map T)).length ∧ ∀ x ∈ l, (T x).length ≤ (tjn w (l.map T)).length
  | [], _ => by simp [tjn]
  | [z], h => by
    simp only [List.map_cons, List.map_nil, tjn_cons, tjt, List.append_nil]
    exact ⟨by have := h z (by simp); simp; omega, fun x hx => by simp at hx; subst hx; exact Nat.le_refl _⟩
  | z :: y :: l, h => by
    obtain ⟨i1, i2⟩ := len_tjn w T (y :: l) (fun x hx => h x (by simp [hx]))
    have e : (tjn w ((z :: y :: l).map T)).length = (T z).length + 1 + (tjn w ((y :: l).map T)).length := by
      rw [List.map_cons, tjn_cons, tjt_ne w (by simp), List.length_append, List.length_cons]; omega
    rw [e]
    refine ⟨by simp only [List.length_cons] at i1 ⊢; omega, fun x hx => ?_⟩
    rcases List.mem_cons.1 hx with rfl | hx
    · omega
    · have := i2 x hx; omega

mutual
theorem tk0_pos : ∀ y, gR y → 0 < (tk0 y).length
  | .mk k nm kids, h => by
    simp only [gR] at h
    obtain ⟨h, hk⟩ := h
    rcases h with ⟨rfl, _⟩ | ⟨rfl | rfl, _⟩ | ⟨rfl, _⟩ | ⟨rfl | rfl, _, hl, _⟩
    · simp [tk0]
    · simp [tk0]
    · simp [tk0]
    · simp [tk0]
    · have h1 := tk0s_pos kids hk
      have h2 : ∀ x ∈ kids, 0 < (tkA x).length := fun x hx => by unfold tkA; split; simp; exact h1 x hx
      have := (len_tjn ⟨#[97, 110, 100]⟩ tkA kids h2).1
      simp [tk0, tkAs_eq]; omega
    · have h1 := tk0s_pos kids hk
      have := (len_tjn ⟨#[111, 114]⟩ tk0 kids h1).1
      simp [tk0, tk0s_eq]; omega
theorem tk0s_pos : ∀ l, gRs l → ∀ x ∈ l, 0 < (tk0 x).length
  | [], _, x, hx => by simp at hx
  | y :: l, h, x, hx => by
    simp only [gRs] at h
    rcases List.mem_cons.1 hx with h1 | h1
    · rw [h1]; exact tk0_pos y h.1
    · exact tk0s_pos l h.2 x h1
end
theorem tkA_pos {y : Nd} (h : gR y) : 0 < (tkA y).length ∧ (tk0 y).length ≤ (tkA y).length ∧ (tkA y).length ≤ (tk0 y).length + 2 := by
  have := tk0_pos y h
  unfold tkA; split <;> (simp; try omega)

def RTA (y : Nd) : Prop := ∀ n c, (tkA y).length ≤ n → fone n (tkA y ++ c) = some (y, dA y, c)
def RTC (y : Nd) : Prop := ∀ n c, (tk0 y).length ≤ n → NoW c → foor (fone n) (tk0 y ++ c) = some (y, d0 y, c)

def RTB (y : Nd) : Prop := ∀ n c, (tk0 y).length ≤ n → Nw ⟨#[97, 110, 100]⟩ c → fand (fone n) (tk0 y ++ c) = some (y, d0 y, c)
def RT (y : Nd) : Prop := RTA y ∧ (y.kind ≠ 6 → RTB y) ∧ RTC y
theorem rtc_of_rtb {y : Nd} (h : RTB y) : RTC y := fun n c hn hc => fl_single (h n c hn hc.1) hc.2
theorem rta_of_rtc {y : Nd} (hk : y.kind = 5 ∨ y.kind = 6) (h : RTC y) : RTA y := by
  intro n c hn
  have e1 : tkA y = ⟨#[40]⟩ :: (tk0 y ++ [⟨#[41]⟩]) := by unfold tkA; rw [if_pos (by rcases hk with hk | hk <;> simp [hk])]
  have e2 : dA y = d0 y + 1 := by unfold dA; rw [if_pos (by rcases hk with hk | hk <;> simp [hk])]
  rw [e1] at hn ⊢
  rw [e2]
  simp at hn
  obtain ⟨m, rfl⟩ : ∃ m, n = m + 1 := ⟨n - 1, by omega⟩
  have h1 := h m (⟨#[41]⟩ :: c) (by omega) (now_close c)
  simp only [fone, f1, List.cons_append, List.append_assoc, List.nil_append]
  rw [if_neg (by decide), if_neg (by decide), if_neg (by decide), if_neg (by decide), if_pos (by decide), h1]
  simp only
  rw [if_pos (by decide)]
theorem rt_of_rta {y : Nd} (hk : (y.kind == 5 || y.kind == 6) = false) (h : RTA y) : RT y := by
  have hb : RTB y := by
    intro n c hn hc
    have e1 : tkA y = tk0 y := by unfold tkA; rw [if_neg (by rw [hk]; simp)]
    have e2 : dA y = d0 y := by unfold dA; rw [if_neg (by rw [hk]; simp)]
    have h1 := h n c (by rw [e1]; exact hn)
    rw [e1, e2] at h1
    exact fl_single h1 hc
  exact ⟨h, fun _ => hb, rtc_of_rtb hb⟩

theorem kid_len {y x : Nd} (h : gR y) (hk : y.kind = 5) (hx : x ∈ y.kids) : (tkA x).length ≤ (tk0 y).length ∧ y.kids.length ≤ (tk0 y).length := by
  obtain ⟨h1, h2, h3⟩ := gR_op h hk (.inl rfl)
  have hp : ∀ z ∈ y.kids, 0 < (tkA z).length := fun z hz => (tkA_pos (gR_kids h z hz)).1
  have hl := len_tjn ⟨#[97, 110, 100]⟩ tkA y.kids hp
  have e : tk0 y = tjn ⟨#[97, 110, 100]⟩ (y.kids.map tkA) := (congrArg tk0 h1).trans (by simp [tk0, tkAs_eq])
  rw [e]; exact ⟨hl.2 x hx, hl.1⟩

mutual
theorem rt : ∀ y, gR y → RT y
  | .mk k nm kids, h => by
    have h0 := h
    simp only [gR] at h
    obtain ⟨h, hk⟩ := h
    have ih := rts kids hk
    have hg := (gRs_iff kids).1 hk
    rcases h with ⟨rfl, rfl, hs, hn⟩ | ⟨rfl | rfl, rfl, rfl⟩ | ⟨rfl, hl, rfl⟩ | ⟨rfl | rfl, rfl, hl, hd⟩
    · refine rt_of_rta rfl ?_
      intro n c hn'
      have hq : ∀ w, specB w = true → eqs nm w = false := by
        intro w hw
        cases he : eqs nm w with
        | false => rfl
        | true => rw [eqs_iff] at he; subst he; rw [hs] at hw; simp at hw
      cases n with
      | zero => simp [tkA, tk0, Nd.kind] at hn'
      | succ n =>
        simp only [tkA, tk0, Nd.kind, fone, f1, dA, d0]
        simp [f1, hq ⟨#[111, 114]⟩ (by decide), hq ⟨#[97, 110, 100]⟩ (by decide), hq ⟨#[41]⟩ (by decide), hq ⟨#[110, 111, 116]⟩ (by decide), hq ⟨#[40]⟩ (by decide), hq ⟨#[116, 114, 117, 101]⟩ (by decide), hq ⟨#[102, 97, 108, 115, 101]⟩ (by decide)]
    · refine rt_of_rta rfl ?_
      intro n c hn'
      cases n with
      | zero => simp [tkA, tk0, Nd.kind] at hn'
      | succ n =>
        have e : tkA (.mk 2 ⟨#[]⟩ []) ++ c = ⟨#[116, 114, 117, 101]⟩ :: c := by simp [tkA, tk0, Nd.kind]
        have e2 : dA (.mk 2 ⟨#[]⟩ []) = 0 := by simp [dA, d0, Nd.kind]
        rw [e, e2]
        simp only [fone, f1]
        rw [if_neg (by decide), if_neg (by decide), if_neg (by decide), if_neg (by decide), if_neg (by decide), if_pos (by decide)]
    · refine rt_of_rta rfl ?_
      intro n c hn'
      cases n with
      | zero => simp [tkA, tk0, Nd.kind] at hn'
      | succ n =>
        have e : tkA (.mk 3 ⟨#[]⟩ []) ++ c = ⟨#[102, 97, 108, 115, 101]⟩ :: c := by simp [tkA, tk0, Nd.kind]
        have e2 : dA (.mk 3 ⟨#[]⟩ []) = 0 := by simp [dA, d0, Nd.kind]
        rw [e, e2]
        simp only [fone, f1]
        rw [if_neg (by decide), if_neg (by decide), if_neg (by decide), if_neg (by decide), if_neg (by decide), if_neg (by decide), if_pos (by decide)]
    · match kids, hl, ih with
      | [x], _, ih =>
        refine rt_of_rta rfl ?_
        intro n c hn'
        have e : tkA (.mk 4 ⟨#[]⟩ [x]) = ⟨#[110, 111, 116]⟩ :: tkA x := by simp [tkA, tk0, tkH, Nd.kind]
        have e2 : dA (.mk 4 ⟨#[]⟩ [x]) = dA x + 1 := by simp [dA, d0, dH, Nd.kind]; omega
        rw [e] at hn' ⊢
        rw [e2]
        simp at hn'
        obtain ⟨m, rfl⟩ : ∃ m, n = m + 1 := ⟨n - 1, by omega⟩
        have h1 := (ih x (by simp)).1 m c (by omega)
        simp only [fone, f1, List.cons_append]
        rw [if_neg (by decide), if_neg (by decide), if_neg (by decide), if_pos (by decide), h1]
    · have hB : RTB (.mk 5 ⟨#[]⟩ kids) := ?_
      · exact ⟨rta_of_rtc (.inl rfl) (rtc_of_rtb hB), fun _ => hB, rtc_of_rtb hB⟩
      intro n c hn' hc
      have hlen : kids.length ≤ (tk0 (.mk 5 ⟨#[]⟩ kids)).length := by
        cases kids with
        | nil => simp
        | cons x l => exact (kid_len (x := x) h0 rfl (by simp [Nd.kids])).2
      have e : tk0 (.mk 5 ⟨#[]⟩ kids) = tjn ⟨#[97, 110, 100]⟩ (kids.map tkA) := by simp [tk0, tkAs_eq]
      have e2 : d0 (.mk 5 ⟨#[]⟩ kids) = maxL dA kids := by simp [d0, dAs_eq]
      · unfold fand
        have := fl_rt (opnd := fone n) (word := ⟨#[97, 110, 100]⟩) (op := 5) (T := tkA) (D := dA) (C := fun _ => True) (by decide) (fun _ => trivial) (c := c) trivial hc kids ((tk0 (.mk 5 ⟨#[]⟩ kids) ++ c).length + 1) [] 0 (by intro h; rw [h] at hl; simp at hl)
          (by simp; omega) (fun z hz r _ => (ih z hz).1 n r (by have := (kid_len (x := z) h0 rfl hz).1; omega))
        rw [e2]
        rw [show tk0 (.mk 5 ⟨#[]⟩ kids) ++ c = tjn ⟨#[97, 110, 100]⟩ (kids.map tkA) ++ c by rw [e]] at this ⊢
        rw [this, List.nil_append, grp_self (.inl rfl) hl hd]; simp
    · have hC : RTC (.mk 6 ⟨#[]⟩ kids) := ?_
      · exact ⟨rta_of_rtc (.inr rfl) hC, fun h => absurd rfl h, hC⟩
      intro n c hn' hc
      have e : tk0 (.mk 6 ⟨#[]⟩ kids) = tjn ⟨#[111, 114]⟩ (kids.map tk0) := by simp [tk0, tk0s_eq]
      have e2 : d0 (.mk 6 ⟨#[]⟩ kids) = maxL dB kids := by simp [d0, dBs_eq]
      have hlen := len_tjn ⟨#[111, 114]⟩ tk0 kids (fun x hx => tk0_pos x (hg x hx))
      rw [← e] at hlen
      have kid : ∀ z ∈ kids, ∀ r, Nw ⟨#[97, 110, 100]⟩ r → fand (fone n) (tk0 z ++ r) = some (z, dB z, r) := by
        intro z hz r hr
        have hz6 : z.kind ≠ 6 := hd z hz
        have hzl := hlen.2 z hz
        have hdB : dB z = d0 z := by unfold dB; rw [if_neg (by simpa using hz6)]
        rw [hdB]
        exact (ih z hz).2.1 hz6 n r (by omega) hr
      unfold foor
      have := fl_rt (opnd := fand (fone n)) (word := ⟨#[111, 114]⟩) (op := 6) (T := tk0) (D := dB) (C := Nw ⟨#[97, 110, 100]⟩) (by decide) (fun r x hx => by simp at hx; subst hx; decide) (c := c) hc.1 hc.2 kids ((tk0 (.mk 6 ⟨#[]⟩ kids) ++ c).length + 1) [] 0 (by intro h; rw [h] at hl; simp at hl)
        (by simp; omega) kid
      rw [e2]
      rw [show tk0 (.mk 6 ⟨#[]⟩ kids) ++ c = tjn ⟨#[111, 114]⟩ (kids.map tk0) ++ c by rw [e]] at this ⊢
      rw [this, List.nil_append, grp_self (.inr rfl) hl hd]; simp
theorem rts : ∀ l, gRs l → ∀ x ∈ l, RT x
  | [], _, x, hx => by simp at hx
  | y :: l, h, x, hx => by
    simp only [gRs] at h
    rcases List.mem_cons.1 hx with h1 | h1
    · rw [h1]; exact rt y h.1
    · exact rts l h.2 x h1
end

end Go.Proofs.Ytdaglbjgdakmcaa
