/- Renaming of keys at a call; what is given up at a function's end. -/
import Derived.Test.YtdaglbjgdakmcaaEngP
set_option linter.unusedSimpArgs false
set_option linter.unusedVariables false
namespace Go.Eng

structure Inv (σ : Key → Key) : Prop where
  inv : ∀ κ, σ (σ κ) = κ
  snd : ∀ κ, (σ κ).2 = κ.2

def swapK (a b : Key) (κ : Key) : Key := if κ = a then b else if κ = b then a else κ

theorem swap_inv (a b : Key) (h : a.2 = b.2) : Inv (swapK a b) := by
  refine ⟨fun κ => ?_, fun κ => ?_⟩
  · unfold swapK
    by_cases h1 : κ = a
    · subst h1
      by_cases h2 : b = κ
      · simp [h2]
      · simp [h2]
    · by_cases h2 : κ = b
      · subst h2; simp [h1]
      · simp [h1, h2]
  · unfold swapK
    by_cases h1 : κ = a
    · subst h1; simp [h]
    · by_cases h2 : κ = b
      · subst h2; simp [h1, h]
      · simp [h1, h2]

theorem comp_inv {σ τ : Key → Key} (hσ : Inv σ) (hτ : Inv τ) (hc : ∀ κ, σ (τ κ) = τ (σ κ)) : Inv (fun κ => σ (τ κ)) :=
  ⟨fun κ => by rw [hc (σ (τ κ)), hσ.inv, hτ.inv], fun κ => (hσ.snd _).trans (hτ.snd _)⟩

def PV.ren (σ : Key → Key) : PV → PV
  | .av x => .av x
  | .ptr b o => .ptr (σ (b, 0)).1 o
  | .mp b => .mp (σ (b, 0)).1

def SV.ren (σ : Key → Key) : SV → SV
  | .ptr b o => .ptr (σ (b, 0)).1 o
  | .mp b => .mp (σ (b, 0)).1
  | .own k g sz l => .own (σ k) g sz l
  | .fn f fs cs => .fn f (fs.map (PV.ren σ)) (cs.map (PV.ren σ))
  | .son b => .son (σ (b, 0)).1
  | s => s

def ABox.ren (σ : Key → Key) : ABox → ABox
  | .cells t l => .cells t (l.map (SV.ren σ))
  | x => x

def renB (σ : Key → Key) (bx : List (Nat × ABox)) : List (Nat × ABox) := bx.map (fun p => ((σ (p.1, 0)).1, p.2.ren σ))
def renG (σ : Key → Key) (gn : List (Key × Nat)) : List (Key × Nat) := gn.map (fun p => (σ p.1, p.2))

def Gh.ren (σ : Key → Key) (G : Gh) : Gh := ⟨G.U, fun κ => G.ow (σ κ), fun κ => G.gen (σ κ)⟩

section
variable {σ : Key → Key} (hσ : Inv σ)
include hσ

theorem Gh.ren_ren (G : Gh) : (G.ren σ).ren σ = G := by
  obtain ⟨U, ow, gen⟩ := G
  simp only [Gh.ren, hσ.inv]

theorem key0 (b : Nat) : ((σ (b, 0)).1, 0) = σ (b, 0) := by
  exact Prod.ext rfl (hσ.snd (b, 0)).symm

theorem RepP_ren {G : Gh} {w : World} {p : PV} {u : Value} : RepP (G.ren σ) w p u ↔ RepP G w (p.ren σ) u := by
  cases p with
  | av x => exact Iff.rfl
  | ptr b o => simp only [RepP, PV.ren, Gh.ren, key0 hσ]
  | mp b => simp only [RepP, PV.ren, Gh.ren, key0 hσ]

theorem RepPs_ren {G : Gh} {w : World} : ∀ {l : List PV} {us : List Value}, RepPs (G.ren σ) w l us ↔ RepPs G w (l.map (PV.ren σ)) us
  | [], us => Iff.rfl
  | p :: l, us => by simp only [RepPs, List.map_cons, RepP_ren hσ, RepPs_ren (l := l)]

theorem RepS_ren {G : Gh} {w : World} {s : SV} {u : Value} : RepS (G.ren σ) w s u ↔ RepS G w (s.ren σ) u := by
  cases s with
  | junk => exact Iff.rfl
  | nil => exact Iff.rfl
  | av x => exact Iff.rfl
  | ptr b o => simp only [RepS, SV.ren, Gh.ren, key0 hσ]
  | mp b => simp only [RepS, SV.ren, Gh.ren, key0 hσ]
  | own k g sz l =>
    simp only [RepS, SV.ren, Gh.ren, hσ.snd]
  | son b => simp only [RepS, SV.ren, Gh.ren, key0 hσ]
  | fn f fs cs => simp only [RepS, SV.ren, RepPs_ren hσ]

theorem RepSs_ren {G : Gh} {w : World} : ∀ {l : List SV} {us : List Value}, RepSs (G.ren σ) w l us ↔ RepSs G w (l.map (SV.ren σ)) us
  | [], us => Iff.rfl
  | p :: l, us => by simp only [RepSs, List.map_cons, RepS_ren hσ, RepSs_ren (l := l)]

theorem RepB_ren {G : Gh} {w : World} {id : Nat} {x : ABox} : RepB (G.ren σ) w id x ↔ RepB G w (σ (id, 0)).1 (x.ren σ) := by
  cases x with
  | cells t l => simp only [RepB, ABox.ren, Gh.ren, key0 hσ]; simp only [← RepSs_ren hσ, Gh.ren]
  | map ks vs => simp only [RepB, ABox.ren, Gh.ren, key0 hσ]

theorem Wf_ren {G : Gh} {w : World} (h : Wf G w) : Wf (G.ren σ) w :=
  ⟨fun κ κ' b h1 h2 => by have := h.inj (σ κ) (σ κ') b h1 h2; have := congrArg σ this; rwa [hσ.inv, hσ.inv] at this, fun κ b h1 => h.lt (σ κ) b h1, h.zero⟩

theorem Step_ren {G G' : Gh} {w w' : World} (h : Step G w G' w') : Step (G.ren σ) w (G'.ren σ) w' := by
  refine ⟨⟨h.U, h.imm, h.size, h.os, h.tape, h.output, fun κ => h.gen (σ κ), fun κ h0 hg => ?_⟩, fun b hb hn => h.stay b hb (fun κ hκ => hn (σ κ) (by simp only [Gh.ren, hσ.inv]; exact hκ)), fun κ b hκ => ?_⟩
  · have h0' : 0 < (σ κ).2 := by rw [hσ.snd]; exact h0
    exact h.tok (σ κ) h0' hg
  · rcases h.rng (σ κ) b hκ with ⟨κ', h'⟩ | h'
    · exact .inl ⟨σ κ', by simp only [Gh.ren, hσ.inv]; exact h'⟩
    · exact .inr h'

theorem lookup_ren : ∀ (gn : List (Key × Nat)) (κ : Key), (renG σ gn).lookup κ = gn.lookup (σ κ)
  | [], κ => rfl
  | (k, g) :: gn, κ => by
    have ih := lookup_ren gn κ
    simp only [renG, List.map_cons, List.lookup_cons] at ih ⊢
    have : (κ == σ k) = (σ κ == k) := by
      rw [Bool.eq_iff_iff]; simp only [beq_iff_eq]
      constructor
      · intro h; rw [h, hσ.inv]
      · intro h; rw [← h, hσ.inv]
    rw [this, ih]

/-- A contract under other keys. -/
theorem CallTo_ren {P : Program} {f : FuncId} {args : List SV} {bx : List (Nat × ABox)} {gn : List (Key × Nat)} {res : SV} {bx' : List (Nat × ABox)} {gn' : List (Key × Nat)} (h : CallTo P f args bx gn res bx' gn') :
    CallTo P f (args.map (SV.ren σ)) (renB σ bx) (renG σ gn) (res.ren σ) (renB σ bx') (renG σ gn') := by
  refine ⟨h.1, fun G w vs hw hargs hbx hgn => ?_⟩
  refine (h.2 (G.ren σ) w vs (Wf_ren hσ hw) ((RepSs_ren hσ).2 hargs) (fun p hp => (RepB_ren hσ).2 (hbx _ (List.mem_map_of_mem hp))) (fun p hp => hgn _ (List.mem_map_of_mem (f := fun p : Key × Nat => (σ p.1, p.2)) hp))).mono ?_
  rintro e w' ⟨v, G', he, s1, s2, s3, s4, s5, s6, s7⟩
  have hgg := Gh.ren_ren hσ G
  have hs := Step_ren hσ s1
  rw [hgg] at hs
  refine ⟨v, G'.ren σ, he, hs, Wf_ren hσ s2, ?_, ?_, ?_, ?_, ?_⟩
  · rw [← RepS_ren hσ, Gh.ren_ren hσ]; exact s3
  · intro p hp
    simp only [renB, List.mem_map] at hp
    obtain ⟨q, hq, rfl⟩ := hp
    simp only
    rw [← RepB_ren hσ, Gh.ren_ren hσ]; exact s4 q hq
  · intro i hi
    have hj : (σ (i, 0)).1 ∉ bx'.map (·.1) := by
      intro hm
      simp only [List.mem_map] at hm
      obtain ⟨p, hp, hpe⟩ := hm
      refine hi ?_
      simp only [renB, List.map_map, List.mem_map, Function.comp]
      exact ⟨p, hp, by rw [hpe, key0 hσ, hσ.inv]⟩
    have hk := s5 _ hj
    rw [key0 hσ] at hk
    obtain ⟨k1, k2⟩ := hk
    refine ⟨?_, fun b hb => k2 b ?_⟩
    · simp only [Gh.ren] at k1 ⊢; rw [k1, hσ.inv]
    · simp only [Gh.ren, hσ.inv]; exact hb
  · intro i
    have := s6 (σ (i, 0)).1
    rw [key0 hσ] at this
    simp only [Gh.ren] at this ⊢
    rw [this, hσ.inv]
  · intro κ
    rw [lookup_ren hσ]
    have := s7 (σ κ)
    simp only [Gh.ren] at this ⊢
    rw [this, hσ.inv]

end

/-- The world stays; what the ghosts say may change. -/
def Ghost (S S' : St) : Prop := ∀ G w a, Rel G w S a → ∃ G', Step G w G' w ∧ Rel G' w S' a ∧ ∀ i, 1000 ≤ i → G'.ow (i, 0) = G.ow (i, 0)

theorem W_ghost {P : Program} {c : Code} {Q : Exit → St → Prop} {S S' : St} (hg : Ghost S S') (h : W P c Q S') : W P c Q S := by
  intro G w a hr
  obtain ⟨G', h1, h2, h3⟩ := hg G w a hr
  exact Code.wp_mono (fun e a' w' hl => lift_trans h1 h3 hl) (h G' w a h2)

theorem W_gend {P : Program} {c : Code} {Q : Exit → St → Prop} {S : St} (h : W P c (fun e S1 => ∃ S2, Ghost S1 S2 ∧ Q e S2) S) : W P c Q S := by
  intro G w a hr
  refine Code.wp_mono (fun e a' w' hl => ?_) (h G w a hr)
  obtain ⟨S1, G1, ⟨S2, hg, hq⟩, h2, h3, h4⟩ := hl
  obtain ⟨G2, q1, q2, q3⟩ := hg G1 w' a' h3
  exact ⟨S2, G2, hq, h2.trans q1, q2, fun i hi => (q3 i hi).trans (h4 i hi)⟩

def SV.froz (id : Nat) (ks : List ByteArray) (vs : List AV) : SV → SV
  | .mp b => if b = id then .av (.rm ks vs) else .mp b
  | s => s

/-- A map that is not written any more. -/
def St.frozen (S : St) (id : Nat) (ks : List ByteArray) (vs : List AV) : St := ⟨S.fr.map (SV.froz id ks vs), S.bx.filter (fun p => p.1 != id), S.gn⟩

theorem ghost_freeze {S : St} {id : Nat} {ks : List ByteArray} {vs : List AV} (hb : S.bx.lookup id = some (.map ks vs)) : Ghost S (S.frozen id ks vs) := by
  intro G w a hr
  obtain ⟨blk, ents, clock, g1, g2, g3, g4, g5, g6⟩ := hr.bx _ (lookup_mem hb)
  simp only at g1
  have hU : ∀ b, G.U b ≤ (G.setU blk 1).U b := by
    intro b; simp only [Gh.setU]; split
    · rename_i h; rw [h, g3]; omega
    · omega
  have himm : Imm G.U w w := Imm.refl _ _
  have hkp : ∀ κ, κ ≠ (id, 0) → Keep G w (G.setU blk 1) w κ := fun κ hκ => ⟨rfl, fun b hb' => ⟨rfl, by
    simp only [Gh.setU]; rw [if_neg (fun he => hκ (hr.wf.inj κ (id, 0) b hb' (by rw [he]; exact g1)))]⟩⟩
  have hstep : Step G w (G.setU blk 1) w := ⟨⟨hU, himm, Nat.le_refl _, rfl, rfl, rfl, fun _ => Nat.le_refl _, fun κ h0 _ => hkp κ (by intro e; rw [e] at h0; simp at h0)⟩,
    fun b _ hn => ⟨rfl, by simp only [Gh.setU]; rw [if_neg (fun he => hn (id, 0) (by rw [he]; exact g1))]⟩, fun κ b h => .inl ⟨κ, h⟩⟩
  have hlt := hr.wf.lt _ _ g1
  have hwf : Wf (G.setU blk 1) w := ⟨hr.wf.inj, hr.wf.lt, fun b hb' => by simp only [Gh.setU]; rw [if_neg (by omega)]; exact hr.wf.zero b hb'⟩
  refine ⟨G.setU blk 1, hstep, ⟨hwf, by simp only [St.frozen, List.length_map]; exact hr.size, fun t s ht => ?_, fun p hp => ?_, hr.gn, hr.defers⟩, fun _ _ => rfl⟩
  · simp only [St.frozen, List.getElem?_map, Option.map_eq_some_iff] at ht
    obtain ⟨s0, h1, rfl⟩ := ht
    have h2 := (hr.fr t s0 h1).persist hstep.toExt (fun _ _ => rfl)
    unfold SV.froz
    split
    · rename_i b
      split
      · rename_i hbid; subst hbid
        obtain ⟨blk', q1, q2⟩ := h2
        simp only [Gh.setU] at q1
        rw [g1] at q1; simp at q1; subst q1
        simp only [RepS, Rep]
        exact ⟨blk, ents, clock, q2, by simp [Gh.setU], g2, g4, RepL.mono hU himm _ _ g5⟩
      · exact h2
    · exact h2
  · simp only [St.frozen, List.mem_filter] at hp
    obtain ⟨hp1, hp2⟩ := hp
    have hne : p.1 ≠ id := by simpa using hp2
    exact (hr.bx p hp1).persist hstep.toExt (hkp _ (by intro e; apply hne; have := congrArg Prod.fst e; exact this)) (fun _ _ => rfl)

/-! Short words for the printed proofs. -/
abbrev jk : SV := .junk
abbrev j0 : SV := .av (.tup [])
abbrev jI (n : Int) : SV := .av (.val (.int .i64 n))
abbrev jB (b : Bool) : SV := .av (.val (.bool b))
abbrev jS (s : ByteArray) : SV := .av (.val (.string s))
abbrev jL (l : List AV) : SV := .av (.sl l)
abbrev jP (b o : Nat) : SV := .ptr b o
abbrev vI (n : Int) : AV := .val (.int .i64 n)
abbrev vB (b : Bool) : AV := .val (.bool b)
abbrev vS (s : ByteArray) : AV := .val (.string s)
theorem ak {l : List Prop} (h : All l) : All (True :: l) := ⟨trivial, h⟩

end Go.Eng
