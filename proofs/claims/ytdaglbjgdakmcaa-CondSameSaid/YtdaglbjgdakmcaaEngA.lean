/- The abstract values of the engine and what they say of a world. -/
import Derived.WalkKit
set_option linter.unusedSimpArgs false
set_option linter.unusedVariables false
namespace Go.Eng

/-- A value as plain data: what it holds, memory read through. -/
inductive AV where
  | val (v : Value)
  | sl (l : List AV)
  | agg (l : List AV)
  | tup (l : List AV)
  | ro (l : List AV) (off : Nat)
  | rm (ks : List ByteArray) (vs : List AV)

abbrev Key := Nat × Nat

inductive PV where
  | av (x : AV)
  | ptr (b off : Nat)
  | mp (b : Nat)

/-- What a slot holds. -/
inductive SV where
  | junk
  | nil
  | av (x : AV)
  | ptr (b off : Nat)
  | mp (b : Nat)
  | own (k : Key) (g sz : Nat) (l : List AV)
  | fn (f : FuncId) (fs cs : List PV)
  | son (b : Nat)

inductive ABox where
  | cells (t : TypeId) (l : List SV)
  | map (ks : List ByteArray) (vs : List AV)

structure St where
  fr : List SV
  bx : List (Nat × ABox)
  gn : List (Key × Nat)

structure Gh where
  U : Nat → Nat
  ow : Key → Option Nat
  gen : Key → Nat

def vcells (es : List Value) : List Value := es.flatMap (fun e => e.cells.toList)

/-- The cells cs lie from a on, and are not to be written any more. -/
def Lies (U : Nat → Nat) (w : World) (a : Option Addr) (cs : List Value) : Prop :=
  cs = [] ∨ ∃ b off, a = some ⟨b, off, none⟩ ∧ off + cs.length ≤ U b ∧
    ∀ j x, cs[j]? = some x → w.cell? ⟨b, off + j, none⟩ = some x ∧ x.oneCell' = true

mutual
def Rep (U : Nat → Nat) (w : World) : AV → Value → Prop
  | .val v, u => u = v ∧ v.oneCell' = true
  | .sl l, u => ∃ a cap es sz, u = .slice a l.length cap ∧ RepL U w l es ∧ (∀ e ∈ es, e.cells.size = sz) ∧ (a = none → es = []) ∧ (l.length ≤ cap) ∧ (∀ ad, a = some ad → ad.spot = none) ∧ Lies U w a (vcells es)
  | .agg l, u => ∃ us, u = .agg us ∧ RepL U w l us.toList ∧ ∀ x ∈ us.toList, x.oneCell' = true
  | .tup l, u => ∃ us, u = .tuple us ∧ RepL U w l us.toList
  | .ro l off, u => ∃ b o us, u = .pointer (some ⟨b, o + off, none⟩) ∧ RepL U w l us ∧ o + us.length ≤ U b ∧
      (∀ j x, us[j]? = some x → w.cell? ⟨b, o + j, none⟩ = some x ∧ x.oneCell' = true)
  | .rm ks vs, u => ∃ b ents clock, u = .map (some b) ∧ 1 ≤ U b ∧ w.heap[b]? = some (.map ents clock) ∧ ents.toList.map (·.key) = ks.map .string ∧ RepL U w vs (ents.toList.map (·.val))
def RepL (U : Nat → Nat) (w : World) : List AV → List Value → Prop
  | [], us => us = []
  | x :: l, us => ∃ u us', us = u :: us' ∧ Rep U w x u ∧ RepL U w l us'
end

structure Imm (U : Nat → Nat) (w w' : World) : Prop where
  cell : ∀ b o, o < U b → w'.cell? ⟨b, o, none⟩ = w.cell? ⟨b, o, none⟩
  map : ∀ b ents clock, 1 ≤ U b → w.heap[b]? = some (.map ents clock) → w'.heap[b]? = some (.map ents clock)

theorem Lies.mono {U U' : Nat → Nat} {w w' : World} (hU : ∀ b, U b ≤ U' b) (hw : Imm U w w') {a : Option Addr} {cs : List Value} (h : Lies U w a cs) : Lies U' w' a cs := by
  rcases h with h | ⟨b, off, ha, hle, hc⟩
  · exact .inl h
  · refine .inr ⟨b, off, ha, Nat.le_trans hle (hU b), fun j x hx => ?_⟩
    have hj : j < cs.length := by
      rcases Nat.lt_or_ge j cs.length with h | h
      · exact h
      · simp [List.getElem?_eq_none h] at hx
    rw [hw.cell b (off + j) (by omega)]
    exact hc j x hx

mutual
theorem Rep.mono {U U' : Nat → Nat} {w w' : World} (hU : ∀ b, U b ≤ U' b) (hw : Imm U w w') : ∀ (x : AV) (u : Value), Rep U w x u → Rep U' w' x u
  | .val _, _, h => by simpa only [Rep] using h
  | .sl l, u, h => by
    simp only [Rep] at h ⊢
    obtain ⟨a, cap, es, sz, h1, h2, h3, h4, h5, h6, h7⟩ := h
    exact ⟨a, cap, es, sz, h1, RepL.mono hU hw l es h2, h3, h4, h5, h6, h7.mono hU hw⟩
  | .agg l, u, h => by
    simp only [Rep] at h ⊢
    obtain ⟨us, h1, h2, h3⟩ := h
    exact ⟨us, h1, RepL.mono hU hw l _ h2, h3⟩
  | .tup l, u, h => by
    simp only [Rep] at h ⊢
    obtain ⟨us, h1, h2⟩ := h
    exact ⟨us, h1, RepL.mono hU hw l _ h2⟩
  | .ro l off, u, h => by
    simp only [Rep] at h ⊢
    obtain ⟨b, o, us, h1, h2, h3, h4⟩ := h
    refine ⟨b, o, us, h1, RepL.mono hU hw l _ h2, Nat.le_trans h3 (hU b), fun j x hx => ?_⟩
    have hj : j < us.length := by
      rcases Nat.lt_or_ge j us.length with h | h
      · exact h
      · simp [List.getElem?_eq_none h] at hx
    rw [hw.cell b (o + j) (by omega)]
    exact h4 j x hx
  | .rm ks vs, u, h => by
    simp only [Rep] at h ⊢
    obtain ⟨b, ents, clock, h1, h2, h3, h4, h5⟩ := h
    exact ⟨b, ents, clock, h1, Nat.le_trans h2 (hU b), hw.map b ents clock h2 h3, h4, RepL.mono hU hw vs _ h5⟩
theorem RepL.mono {U U' : Nat → Nat} {w w' : World} (hU : ∀ b, U b ≤ U' b) (hw : Imm U w w') : ∀ (l : List AV) (us : List Value), RepL U w l us → RepL U' w' l us
  | [], _, h => by simpa only [RepL] using h
  | x :: l, us, h => by
    simp only [RepL] at h ⊢
    obtain ⟨u, us', h1, h2, h3⟩ := h
    exact ⟨u, us', h1, Rep.mono hU hw x u h2, RepL.mono hU hw l us' h3⟩
end

theorem RepL.length {U : Nat → Nat} {w : World} : ∀ {l : List AV} {us : List Value}, RepL U w l us → us.length = l.length
  | [], _, h => by simp only [RepL] at h; simp [h]
  | x :: l, us, h => by
    simp only [RepL] at h
    obtain ⟨u, us', rfl, _, h3⟩ := h
    simp [RepL.length h3]

theorem RepL.get {U : Nat → Nat} {w : World} : ∀ {l : List AV} {us : List Value}, RepL U w l us → ∀ (i : Nat) x, l[i]? = some x → ∃ u, us[i]? = some u ∧ Rep U w x u
  | [], _, _, i, x, hx => by simp at hx
  | y :: l, us, h, i, x, hx => by
    simp only [RepL] at h
    obtain ⟨u, us', rfl, h2, h3⟩ := h
    cases i with
    | zero => simp at hx; subst hx; exact ⟨u, rfl, h2⟩
    | succ i => simp at hx; obtain ⟨v, hv, hr⟩ := RepL.get h3 i x hx; exact ⟨v, by simpa using hv, hr⟩

theorem RepL.append {U : Nat → Nat} {w : World} : ∀ {l l' : List AV} {us us' : List Value}, RepL U w l us → RepL U w l' us' → RepL U w (l ++ l') (us ++ us')
  | [], _, _, _, h, h' => by simp only [RepL] at h; subst h; simpa using h'
  | x :: l, l', us, us', h, h' => by
    simp only [RepL] at h
    obtain ⟨u, us1, rfl, h2, h3⟩ := h
    simp only [List.cons_append, RepL]
    exact ⟨u, us1 ++ us', rfl, h2, RepL.append h3 h'⟩

theorem RepL.take {U : Nat → Nat} {w : World} : ∀ {l : List AV} {us : List Value} (n : Nat), RepL U w l us → RepL U w (l.take n) (us.take n)
  | [], us, n, h => by simp only [RepL] at h; subst h; simp [RepL]
  | x :: l, us, 0, h => by simp [RepL]
  | x :: l, us, n + 1, h => by
    simp only [RepL] at h
    obtain ⟨u, us1, rfl, h2, h3⟩ := h
    simp only [List.take_succ_cons, RepL]
    exact ⟨u, us1.take n, rfl, h2, RepL.take n h3⟩

theorem RepL.drop {U : Nat → Nat} {w : World} : ∀ {l : List AV} {us : List Value} (n : Nat), RepL U w l us → RepL U w (l.drop n) (us.drop n)
  | [], us, n, h => by simp only [RepL] at h; subst h; simp [RepL]
  | x :: l, us, 0, h => by simpa using h
  | x :: l, us, n + 1, h => by
    simp only [RepL] at h
    obtain ⟨u, us1, rfl, h2, h3⟩ := h
    simpa using RepL.drop n h3

theorem RepL.set {U : Nat → Nat} {w : World} : ∀ {l : List AV} {us : List Value} (n : Nat) {x : AV} {u : Value}, RepL U w l us → Rep U w x u → RepL U w (l.set n x) (us.set n u)
  | [], us, n, x, u, h, _ => by simp only [RepL] at h; subst h; simp [RepL]
  | y :: l, us, 0, x, u, h, hx => by
    simp only [RepL] at h
    obtain ⟨v, us1, rfl, h2, h3⟩ := h
    simp only [List.set_cons_zero, RepL]
    exact ⟨u, us1, rfl, hx, h3⟩
  | y :: l, us, n + 1, x, u, h, hx => by
    simp only [RepL] at h
    obtain ⟨v, us1, rfl, h2, h3⟩ := h
    simp only [List.set_cons_succ, RepL]
    exact ⟨v, us1.set n u, rfl, h2, RepL.set n h3 hx⟩

end Go.Eng
