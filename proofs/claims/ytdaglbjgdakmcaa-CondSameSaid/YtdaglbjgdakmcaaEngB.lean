/- States: what a slot holds, boxes, ghosts, and how facts persist over a step. -/
import Derived.Test.YtdaglbjgdakmcaaEngA
set_option linter.unusedSimpArgs false
set_option linter.unusedVariables false
namespace Go.Eng

def RepP (G : Gh) (w : World) : PV → Value → Prop
  | .av x, u => Rep G.U w x u
  | .ptr b o, u => ∃ blk, G.ow (b, 0) = some blk ∧ u = .pointer (some ⟨blk, o, none⟩)
  | .mp b, u => ∃ blk, G.ow (b, 0) = some blk ∧ u = .map (some blk)

def RepPs (G : Gh) (w : World) : List PV → List Value → Prop
  | [], us => us = []
  | x :: l, us => ∃ u us', us = u :: us' ∧ RepP G w x u ∧ RepPs G w l us'

def RepS (G : Gh) (w : World) : SV → Value → Prop
  | .junk, _ => True
  | .nil, u => u = .slice none 0 0
  | .av x, u => Rep G.U w x u
  | .ptr b o, u => ∃ blk, G.ow (b, 0) = some blk ∧ u = .pointer (some ⟨blk, o, none⟩)
  | .mp b, u => ∃ blk, G.ow (b, 0) = some blk ∧ u = .map (some blk)
  | .own k g sz l, u => 0 < k.2 ∧ g ≤ G.gen k ∧ ∃ a cap es, u = .slice a l.length cap ∧ RepL G.U w l es ∧ (∀ e ∈ es, e.cells.size = sz) ∧ l.length ≤ cap ∧ (a = none → es = []) ∧ (∀ ad, a = some ad → ad.spot = none) ∧ Lies G.U w a (vcells es) ∧
      (G.gen k = g → (a = none ∧ cap = 0) ∨ ∃ b off arr e, a = some ⟨b, off, none⟩ ∧ G.ow k = some b ∧ w.heap[b]? = some (.cells arr e (0, 0)) ∧ off + cap * sz ≤ arr.size ∧ G.U b = off + l.length * sz ∧ off = 0 ∧ e + 1 = k.2)
  | .fn f fs cs, u => ∃ vs us, u = .func (.func f) vs us ∧ RepPs G w fs vs.toList ∧ RepPs G w cs us.toList
  | .son b, u => u = .pointer none ∨ ∃ blk, G.ow (b, 0) = some blk ∧ u = .pointer (some ⟨blk, 0, none⟩)

def RepSs (G : Gh) (w : World) : List SV → List Value → Prop
  | [], us => us = []
  | x :: l, us => ∃ u us', us = u :: us' ∧ RepS G w x u ∧ RepSs G w l us'

def PV.keys : PV → List Key
  | .av _ => []
  | .ptr b _ => [(b, 0)]
  | .mp b => [(b, 0)]

def SV.keys : SV → List Key
  | .ptr b _ => [(b, 0)]
  | .mp b => [(b, 0)]
  | .fn _ fs cs => fs.flatMap PV.keys ++ cs.flatMap PV.keys
  | .son b => [(b, 0)]
  | _ => []

def Keep (G : Gh) (w : World) (G' : Gh) (w' : World) (κ : Key) : Prop :=
  G'.ow κ = G.ow κ ∧ ∀ b, G.ow κ = some b → w'.heap[b]? = w.heap[b]? ∧ G'.U b = G.U b

structure Ext (G : Gh) (w : World) (G' : Gh) (w' : World) : Prop where
  U : ∀ b, G.U b ≤ G'.U b
  imm : Imm G.U w w'
  size : w.heap.size ≤ w'.heap.size
  os : w'.os = w.os
  tape : w'.tape = w.tape
  output : w'.output = w.output
  gen : ∀ κ, G.gen κ ≤ G'.gen κ
  tok : ∀ κ : Key, 0 < κ.2 → G'.gen κ = G.gen κ → Keep G w G' w' κ

theorem RepP.persist {G G' : Gh} {w w' : World} (h : Ext G w G' w') {p : PV} {u : Value} (hk : ∀ κ ∈ p.keys, G'.ow κ = G.ow κ) (hr : RepP G w p u) : RepP G' w' p u := by
  cases p with
  | av x => exact Rep.mono h.U h.imm x u hr
  | ptr b o => obtain ⟨blk, h1, h2⟩ := hr; exact ⟨blk, by rw [hk (b, 0) (by simp [PV.keys])]; exact h1, h2⟩
  | mp b => obtain ⟨blk, h1, h2⟩ := hr; exact ⟨blk, by rw [hk (b, 0) (by simp [PV.keys])]; exact h1, h2⟩

theorem RepPs.persist {G G' : Gh} {w w' : World} (h : Ext G w G' w') : ∀ {l : List PV} {us : List Value}, (∀ κ ∈ l.flatMap PV.keys, G'.ow κ = G.ow κ) → RepPs G w l us → RepPs G' w' l us
  | [], _, _, hr => hr
  | p :: l, us, hk, hr => by
    obtain ⟨u, us', h1, h2, h3⟩ := hr
    refine ⟨u, us', h1, h2.persist h (fun κ hκ => hk κ (by simp [hκ])), RepPs.persist h (fun κ hκ => hk κ ?_) h3⟩
    simp only [List.flatMap_cons, List.mem_append]; exact .inr hκ

theorem RepS.persist {G G' : Gh} {w w' : World} (h : Ext G w G' w') {s : SV} {u : Value} (ho : ∀ κ ∈ s.keys, G'.ow κ = G.ow κ) (hr : RepS G w s u) : RepS G' w' s u := by
  cases s with
  | junk => trivial
  | nil => exact hr
  | av x => exact Rep.mono h.U h.imm x u hr
  | ptr b o => obtain ⟨blk, h1, h2⟩ := hr; exact ⟨blk, by rw [ho (b, 0) (by simp [SV.keys])]; exact h1, h2⟩
  | mp b => obtain ⟨blk, h1, h2⟩ := hr; exact ⟨blk, by rw [ho (b, 0) (by simp [SV.keys])]; exact h1, h2⟩
  | own k g sz l =>
    obtain ⟨h0, hg, a, cap, es, h1, h2, h3, h4, hn, hsp, h5, h6⟩ := hr
    refine ⟨h0, Nat.le_trans hg (h.gen k), a, cap, es, h1, RepL.mono h.U h.imm _ _ h2, h3, h4, hn, hsp, h5.mono h.U h.imm, fun hgen => ?_⟩
    have hge := h.gen k
    have heq : G'.gen k = G.gen k := by omega
    rcases h6 (by omega) with h6 | ⟨b, off, arr, e, h7, h8, h9, h10, h11, h12⟩
    · exact .inl h6
    · obtain ⟨k1, k2⟩ := h.tok k h0 heq
      obtain ⟨k3, k4⟩ := k2 b h8
      exact .inr ⟨b, off, arr, e, h7, by rw [k1]; exact h8, by rw [k3]; exact h9, h10, by rw [k4]; exact h11, h12⟩
  | son b =>
    rcases hr with h1 | ⟨blk, h1, h2⟩
    · exact .inl h1
    · exact .inr ⟨blk, by rw [ho (b, 0) (by simp [SV.keys])]; exact h1, h2⟩
  | fn f fs cs =>
    obtain ⟨vs, us, h1, h2, h3⟩ := hr
    refine ⟨vs, us, h1, h2.persist h (fun κ hκ => ho κ ?_), h3.persist h (fun κ hκ => ho κ ?_)⟩
    · simp only [SV.keys, List.mem_append]; exact .inl hκ
    · simp only [SV.keys, List.mem_append]; exact .inr hκ

/-- Pointwise, the values turned by φ. -/
theorem RepSs.map {G G' : Gh} {w w' : World} {φ : SV → SV} (hφ : ∀ s u, RepS G w s u → RepS G' w' (φ s) u) : ∀ {l : List SV} {us : List Value}, RepSs G w l us → RepSs G' w' (l.map φ) us
  | [], _, hr => hr
  | p :: l, us, hr => by
    obtain ⟨u, us', h1, h2, h3⟩ := hr
    exact ⟨u, us', h1, hφ _ _ h2, RepSs.map hφ h3⟩

theorem RepSs.length {G : Gh} {w : World} : ∀ {l : List SV} {us : List Value}, RepSs G w l us → us.length = l.length
  | [], _, h => by simp only [RepSs] at h; simp [h]
  | x :: l, us, h => by
    obtain ⟨u, us', rfl, _, h3⟩ := h
    simp [RepSs.length h3]

theorem RepSs.get {G : Gh} {w : World} : ∀ {l : List SV} {us : List Value}, RepSs G w l us → ∀ (i : Nat) x, l[i]? = some x → ∃ u, us[i]? = some u ∧ RepS G w x u
  | [], _, _, i, x, hx => by simp at hx
  | y :: l, us, h, i, x, hx => by
    obtain ⟨u, us', rfl, h2, h3⟩ := h
    cases i with
    | zero => simp at hx; subst hx; exact ⟨u, rfl, h2⟩
    | succ i => simp at hx; obtain ⟨v, hv, hr⟩ := RepSs.get h3 i x hx; exact ⟨v, by simpa using hv, hr⟩

theorem RepSs.append {G : Gh} {w : World} : ∀ {l l' : List SV} {us us' : List Value}, RepSs G w l us → RepSs G w l' us' → RepSs G w (l ++ l') (us ++ us')
  | [], _, _, _, h, h' => by simp only [RepSs] at h; subst h; simpa using h'
  | x :: l, l', us, us', h, h' => by
    obtain ⟨u, us1, rfl, h2, h3⟩ := h
    exact ⟨u, us1 ++ us', rfl, h2, RepSs.append h3 h'⟩

theorem RepSs.take {G : Gh} {w : World} : ∀ {l : List SV} {us : List Value} (n : Nat), RepSs G w l us → RepSs G w (l.take n) (us.take n)
  | [], us, n, h => by simp only [RepSs] at h; subst h; simp [RepSs]
  | x :: l, us, 0, h => by simp [RepSs]
  | x :: l, us, n + 1, h => by
    obtain ⟨u, us1, rfl, h2, h3⟩ := h
    exact ⟨u, us1.take n, rfl, h2, RepSs.take n h3⟩

theorem RepSs.drop {G : Gh} {w : World} : ∀ {l : List SV} {us : List Value} (n : Nat), RepSs G w l us → RepSs G w (l.drop n) (us.drop n)
  | [], us, n, h => by simp only [RepSs] at h; subst h; simp [RepSs]
  | x :: l, us, 0, h => by simpa using h
  | x :: l, us, n + 1, h => by
    obtain ⟨u, us1, rfl, h2, h3⟩ := h
    simpa using RepSs.drop n h3

/-- As plain data. -/
def SV.toAV : SV → Option AV
  | .nil => some (.sl [])
  | .av x => some x
  | .own _ _ _ l => some (.sl l)
  | _ => none

theorem Rep_nil (U : Nat → Nat) (w : World) : Rep U w (.sl []) (.slice none 0 0) := by
  simp only [Rep]
  exact ⟨none, 0, [], 0, rfl, by simp [RepL], by simp, by simp, Nat.le_refl _, by simp, .inl (by simp [vcells])⟩

theorem RepS.own_sl {G : Gh} {w : World} {k : Key} {g sz : Nat} {l : List AV} {u : Value} (h : RepS G w (.own k g sz l) u) : Rep G.U w (.sl l) u := by
  obtain ⟨_, _, a, cap, es, h1, h2, h3, h4, hn, hsp, h5, h6⟩ := h
  simp only [Rep]
  exact ⟨a, cap, es, sz, h1, h2, h3, hn, h4, hsp, h5⟩

theorem RepS.toAV {G : Gh} {w : World} {s : SV} {u : Value} {x : AV} (h : RepS G w s u) (hx : s.toAV = some x) : Rep G.U w x u := by
  cases s with
  | nil => simp [SV.toAV] at hx; subst hx; simp only [RepS] at h; subst h; exact Rep_nil _ _
  | av y => simp [SV.toAV] at hx; subst hx; exact h
  | own k g sz l => simp [SV.toAV] at hx; subst hx; exact h.own_sl
  | _ => simp [SV.toAV] at hx

structure Wf (G : Gh) (w : World) : Prop where
  inj : ∀ κ κ' b, G.ow κ = some b → G.ow κ' = some b → κ = κ'
  lt : ∀ κ b, G.ow κ = some b → b < w.heap.size
  zero : ∀ b, w.heap.size ≤ b → G.U b = 0

structure Step (G : Gh) (w : World) (G' : Gh) (w' : World) : Prop extends Ext G w G' w' where
  stay : ∀ b, b < w.heap.size → (∀ κ, G.ow κ ≠ some b) → w'.heap[b]? = w.heap[b]? ∧ G'.U b = G.U b
  rng : ∀ κ b, G'.ow κ = some b → (∃ κ', G.ow κ' = some b) ∨ w.heap.size ≤ b

theorem Imm.trans {U U' : Nat → Nat} {a b c : World} (h : Imm U a b) (hU : ∀ i, U i ≤ U' i) (h' : Imm U' b c) : Imm U a c :=
  ⟨fun k o ho => (h'.cell k o (Nat.lt_of_lt_of_le ho (hU k))).trans (h.cell k o ho), fun k es cl hk hh => h'.map k es cl (Nat.le_trans hk (hU k)) (h.map k es cl hk hh)⟩

theorem Imm.refl (U : Nat → Nat) (w : World) : Imm U w w := ⟨fun _ _ _ => rfl, fun _ _ _ _ h => h⟩

theorem Keep.trans {G G' G'' : Gh} {w w' w'' : World} {κ : Key} (h : Keep G w G' w' κ) (k : Keep G' w' G'' w'' κ) : Keep G w G'' w'' κ :=
  ⟨k.1.trans h.1, fun b hb => ⟨(k.2 b (by rw [h.1]; exact hb)).1.trans (h.2 b hb).1, (k.2 b (by rw [h.1]; exact hb)).2.trans (h.2 b hb).2⟩⟩

theorem Ext.refl (G : Gh) (w : World) : Ext G w G w := ⟨fun _ => Nat.le_refl _, Imm.refl _ _, Nat.le_refl _, rfl, rfl, rfl, fun _ => Nat.le_refl _, fun _ _ _ => ⟨rfl, fun _ _ => ⟨rfl, rfl⟩⟩⟩

theorem Ext.trans {G G' G'' : Gh} {w w' w'' : World} (h : Ext G w G' w') (k : Ext G' w' G'' w'') : Ext G w G'' w'' :=
  ⟨fun b => Nat.le_trans (h.U b) (k.U b), h.imm.trans h.U k.imm, Nat.le_trans h.size k.size, k.os.trans h.os, k.tape.trans h.tape, k.output.trans h.output, fun κ => Nat.le_trans (h.gen κ) (k.gen κ),
    fun κ h0 he => by
      have h1 := h.gen κ; have h2 := k.gen κ
      exact (h.tok κ h0 (by omega)).trans (k.tok κ h0 (by omega))⟩

theorem Step.refl (G : Gh) (w : World) : Step G w G w := ⟨Ext.refl G w, fun _ _ _ => ⟨rfl, rfl⟩, fun κ _ h => .inl ⟨κ, h⟩⟩

theorem Step.trans {G G' G'' : Gh} {w w' w'' : World} (h : Step G w G' w') (k : Step G' w' G'' w'') : Step G w G'' w'' := by
  refine ⟨h.toExt.trans k.toExt, fun b hb hn => ?_, fun κ b hb => ?_⟩
  · obtain ⟨h1, h2⟩ := h.stay b hb hn
    have hn' : ∀ κ, G'.ow κ ≠ some b := by
      intro κ hκ
      rcases h.rng κ b hκ with ⟨κ', h'⟩ | h'
      · exact hn κ' h'
      · omega
    obtain ⟨k1, k2⟩ := k.stay b (Nat.lt_of_lt_of_le hb h.size) hn'
    exact ⟨k1.trans h1, k2.trans h2⟩
  · rcases k.rng κ b hb with ⟨κ', h'⟩ | h'
    · exact h.rng κ' b h'
    · exact .inr (Nat.le_trans h.size h')

def ABox.svs : ABox → List SV
  | .cells _ l => l
  | .map _ _ => []

def RepB (G : Gh) (w : World) (id : Nat) : ABox → Prop
  | .cells e l => ∃ blk arr, G.ow (id, 0) = some blk ∧ w.heap[blk]? = some (.cells arr e (0, 0)) ∧ G.U blk = 0 ∧ RepSs G w l arr.toList ∧ ∀ x ∈ arr.toList, x.oneCell' = true
  | .map ks vs => ∃ blk ents clock, G.ow (id, 0) = some blk ∧ w.heap[blk]? = some (.map ents clock) ∧ G.U blk = 0 ∧ ents.toList.map (·.key) = ks.map .string ∧ RepL G.U w vs (ents.toList.map (·.val)) ∧ ∀ e ∈ ents.toList, e.born < clock

theorem RepB.persist {G G' : Gh} {w w' : World} (h : Ext G w G' w') {id : Nat} {x : ABox} (hk : Keep G w G' w' (id, 0)) (ho : ∀ κ ∈ x.svs.flatMap SV.keys, G'.ow κ = G.ow κ) (hr : RepB G w id x) : RepB G' w' id x := by
  cases x with
  | cells e l =>
    obtain ⟨blk, arr, h1, h2, h3, h4, h5⟩ := hr
    obtain ⟨k1, k2⟩ := hk
    obtain ⟨k3, k4⟩ := k2 blk h1
    refine ⟨blk, arr, by rw [k1]; exact h1, by rw [k3]; exact h2, by rw [k4]; exact h3, ?_, h5⟩
    clear h2 h5
    simp only [ABox.svs] at ho
    generalize arr.toList = us at h4
    induction l generalizing us with
    | nil => exact h4
    | cons s l ih =>
      obtain ⟨u, us', e1, e2, e3⟩ := h4
      exact ⟨u, us', e1, e2.persist h (fun κ hκ => ho κ (by simp [hκ])), ih (fun κ hκ => ho κ (by simp only [List.flatMap_cons, List.mem_append]; exact .inr hκ)) us' e3⟩
  | map ks vs =>
    obtain ⟨blk, ents, clock, h1, h2, h3, h4, h5, h6⟩ := hr
    obtain ⟨k1, k2⟩ := hk
    obtain ⟨k3, k4⟩ := k2 blk h1
    exact ⟨blk, ents, clock, by rw [k1]; exact h1, by rw [k3]; exact h2, by rw [k4]; exact h3, h4, RepL.mono h.U h.imm _ _ h5, h6⟩

def St.gen (S : St) (k : Key) : Nat := (S.gn.lookup k).getD 0

/-- The state S stands for the frame a in the world w. -/
structure Rel (G : Gh) (w : World) (S : St) (a : Act) : Prop where
  wf : Wf G w
  size : S.fr.length = a.tmps.size
  fr : ∀ (t : Nat) s, S.fr[t]? = some s → RepS G w s (a.tmps.getD t undef)
  bx : ∀ p ∈ S.bx, RepB G w p.1 p.2
  gn : ∀ k : Key, G.gen k = S.gen k
  defers : a.defers = []

/-- Over a step that binds no key anew and turns no box. -/
theorem Rel.keep {G G' : Gh} {w w' : World} {S : St} {a : Act} (h : Rel G w S a) (he : Ext G w G' w') (hw : Wf G' w') (hk : ∀ κ : Key, κ.2 = 0 → Keep G w G' w' κ) (hg : G'.gen = G.gen) : Rel G' w' S a := by
  have hkeys : ∀ (s : SV) κ, κ ∈ s.keys → κ.2 = 0 := by
    intro s κ hκ
    cases s <;> simp only [SV.keys, List.mem_cons, List.not_mem_nil, or_false, List.mem_append, List.mem_flatMap] at hκ
    · rw [hκ]
    · rw [hκ]
    · rcases hκ with ⟨p, _, hp⟩ | ⟨p, _, hp⟩ <;> (cases p <;> simp [PV.keys] at hp <;> rw [hp])
    · rw [hκ]
  exact ⟨hw, h.size, fun t s ht => (h.fr t s ht).persist he (fun κ hκ => (hk κ (hkeys s κ hκ)).1),
    fun p hp => (h.bx p hp).persist he (hk _ rfl) (fun κ hκ => by
      simp only [List.mem_flatMap] at hκ
      obtain ⟨s, _, hs⟩ := hκ
      exact (hk κ (hkeys s κ hs)).1), fun k => by rw [hg]; exact h.gn k, h.defers⟩

theorem SV.keys_zero (s : SV) : ∀ κ, κ ∈ s.keys → κ.2 = 0 := by
  intro κ hκ
  cases s <;> simp only [SV.keys, List.mem_cons, List.not_mem_nil, or_false, List.mem_append, List.mem_flatMap] at hκ
  · rw [hκ]
  · rw [hκ]
  · rcases hκ with ⟨p, _, hp⟩ | ⟨p, _, hp⟩ <;> (cases p <;> simp [PV.keys] at hp <;> rw [hp])
  · rw [hκ]

end Go.Eng
