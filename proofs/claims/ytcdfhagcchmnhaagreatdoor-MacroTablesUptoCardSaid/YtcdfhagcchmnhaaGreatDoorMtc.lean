/- Texts joined by a program (merge.py). -/
import Derived.Test.YtcdfhagcchmnhaaGreatDoorMtb
import Derived.KernelRfl
import Derived.Test.YtcdfhagcchmnhaaGreatDoorMta
import Derived.Shelf.Strings.Search3
import Derived.Lib.SplitLaws
import Derived.Lib.IndexBytes
import Derived.WalkKit
import Derived.OwnWalkIn
import Derived.TacticsInMore
import Derived.RangeFuncKeeps
import Derived.CallsIn
set_option linter.unusedSimpArgs false
set_option linter.unusedVariables false
namespace Go.Eng
section
variable {P : Program} {fr : List SV} {bx ex : List (Nat × ABox)} {gn : List (Key × Nat)} {r : Res}
def Apart (ex bx : List (Nat × ABox)) : Prop := ∀ p ∈ ex, ∀ q ∈ bx, p.1 ≠ q.1
theorem lookup_more (h : Apart ex bx) {b : Nat} {x : ABox} (hx : bx.lookup b = some x) : (ex ++ bx).lookup b = some x := by
  have hm := lookup_mem hx
  rw [List.lookup_append]
  have : ex.lookup b = none := by
    rw [List.lookup_eq_none_iff]
    intro p hp
    have := h p hp _ hm
    simpa using Ne.symm this
  rw [this]; simpa using hx
theorem ev_more (x : Operand) : (⟨fr, ex ++ bx, gn⟩ : St).ev x = (⟨fr, bx, gn⟩ : St).ev x := by cases x <;> rfl
theorem astep_more {o : Oper} (ha : Apart ex bx) (hs : still o.op = true) (h : astep P o ⟨fr, bx, gn⟩ = some r) : astep P o ⟨fr, ex ++ bx, gn⟩ = some ⟨r.ok, r.v, ⟨fr, ex ++ bx, gn⟩⟩ := by
  unfold astep at h ⊢
  split at h
  all_goals first | (rename_i ho; rw [ho] at hs) | (simp at h; done)
  all_goals try (simp only [still, Bool.false_eq_true] at hs; done)
  all_goals try simp only [ev_more]
  all_goals try (simp only [Option.some.injEq] at h; subst h; rfl)
  · unfold aPick at h ⊢; split at h <;> simp at h; subst h; rfl
  · unfold aBinS at h ⊢
    split at h
    · unfold aBinB at h ⊢; split at h
      · split at h <;> simp at h <;> subst h <;> rfl
      · simp at h
    · rw [Option.map_eq_some_iff] at h ⊢; obtain ⟨q, h1, rfl⟩ := h; exact ⟨q, h1, rfl⟩
    · unfold aBinA at h ⊢; split at h
      · split at h
        · rename_i hc; rw [if_pos hc]; split at h <;> simp at h <;> subst h <;> rfl
        · simp at h
      · simp at h
    · simp at h
  · unfold aUnS at h ⊢; split at h
    · rw [Option.map_eq_some_iff] at h ⊢; obtain ⟨q, h1, rfl⟩ := h; exact ⟨q, h1, rfl⟩
    · simp at h
  · unfold aExtract at h ⊢; split at h
    · rw [Option.map_eq_some_iff] at h ⊢; obtain ⟨q, h1, rfl⟩ := h; exact ⟨q, h1, rfl⟩
    · rw [Option.map_eq_some_iff] at h ⊢; obtain ⟨q, h1, rfl⟩ := h; exact ⟨q, h1, rfl⟩
    · simp at h
  · unfold aNilCheck at h ⊢; split at h <;> simp at h <;> subst h <;> rfl
  · unfold aField at h ⊢
    split at h
    · split at h
      · split at h
        · simp at h
        · rename_i hz; rw [if_neg hz]; split at h <;> simp at h <;> subst h <;> rfl
      · simp at h
    · simp at h
  · unfold aLoad at h ⊢
    split at h
    · split at h
      · split at h
        · rename_i hl
          rw [Option.map_eq_some_iff] at h; obtain ⟨q, h1, rfl⟩ := h
          simp only [lookup_more ha hl, h1, Option.map_some]
        · simp at h
      · rw [Option.map_eq_some_iff] at h ⊢; obtain ⟨q, h1, rfl⟩ := h; exact ⟨q, h1, rfl⟩
      · simp at h
    · split at h
      · split at h
        · split at h
          · rename_i hl
            simp only [lookup_more ha hl]
            split at h
            · rename_i e1
              split at h
              · rename_i e2
                split at h
                · rename_i e3; simp only [Option.some.injEq] at h; subst h; simp only [e1, e2, if_pos e3]
                · simp at h
              · simp at h
            · rename_i e1
              split at h
              · rename_i e2
                split at h
                · rename_i e3; simp only [Option.some.injEq] at h; subst h; simp only [e1, e2, if_pos e3]
                · simp at h
              · simp at h
          · simp at h
        · split at h
          · rename_i e3; rw [if_pos e3]; simp only [Option.some.injEq] at h; subst h; rfl
          · simp at h
        · simp at h
      · simp at h
    · simp at h
  · unfold aBuild at h ⊢
    rw [loc_parts (S := ⟨fr, ex ++ bx, gn⟩) (S' := ⟨fr, bx, gn⟩) (fun p _ => ev_more p.2)]
    split at h
    · split at h
      · rename_i e1; rw [if_pos e1]; rw [Option.map_eq_some_iff] at h ⊢; obtain ⟨q, h1, rfl⟩ := h; exact ⟨q, h1, rfl⟩
      · simp at h
    · simp at h
  · unfold aBuildSlice at h ⊢
    rw [loc_allAV (S := ⟨fr, ex ++ bx, gn⟩) (S' := ⟨fr, bx, gn⟩) (fun p _ => ev_more p)]
    split at h
    · split at h
      · split at h
        · rename_i e1; rw [if_pos e1]; simp only [Option.some.injEq] at h; subst h; rfl
        · simp at h
      · simp at h
    · simp at h
  · unfold aIndexAddr at h ⊢
    split at h
    · split at h
      · simp only [Option.some.injEq] at h; subst h; rfl
      · simp at h
    · split at h
      · split at h
        · split at h
          · rename_i e1; rw [if_pos e1]; simp only [Option.some.injEq] at h; subst h; rfl
          · simp at h
        · simp at h
      · simp at h
  · unfold aIndex at h ⊢
    split at h
    · split at h
      · rename_i e1; rw [if_pos e1]; simp only [Option.some.injEq] at h; subst h; rfl
      · simp at h
    · simp at h
  · have hm : ∀ q : Option Operand, q.map (⟨fr, ex ++ bx, gn⟩ : St).ev = q.map (⟨fr, bx, gn⟩ : St).ev := by intro q; cases q <;> simp [ev_more]
    simp only [hm]
    unfold aSlice at h ⊢
    split at h
    · split at h
      · split at h
        · simp only [Option.some.injEq] at h; subst h; rfl
        · simp at h
      · simp at h
    split at h
    · split at h
      · split at h
        · rename_i e1; rw [if_pos e1]; simp only [Option.some.injEq] at h; subst h; rfl
        · simp at h
      · simp at h
    · split at h
      · split at h
        · simp only [Option.some.injEq] at h; subst h; rfl
        · simp at h
      · simp at h
    · simp at h
  · unfold aBuiltin at h ⊢
    split at h
    · simp only [ev_more]
      unfold aLen at h ⊢
      split at h
      · split at h
        · rename_i e1; rw [if_pos e1]; simp only [Option.some.injEq] at h; subst h; rfl
        · simp at h
      split at h
      · split at h
        · rename_i e1; rw [if_pos e1]; simp only [Option.some.injEq] at h; subst h; rfl
        · simp at h
      · split at h
        · rename_i e1; rw [if_pos e1]; simp only [Option.some.injEq] at h; subst h; rfl
        · simp at h
      · simp at h
    · simp [still] at hs
    · simp only [ev_more]
      split at h
      · split at h
        · rename_i e1; rw [if_pos e1]; simp only [Option.some.injEq] at h; subst h; rfl
        · simp at h
      · simp at h
    · simp only [ev_more]
      split at h
      · split at h
        · rename_i e1; rw [if_pos e1]; simp only [Option.some.injEq] at h; subst h; rfl
        · simp at h
      · simp at h
    · simp at h
  · unfold aLookup at h ⊢
    split at h
    · split at h
      · split at h
        · rename_i e1
          rw [if_pos e1]
          split at h
          · split at h
            · rename_i hl; simp only [lookup_more ha hl]; simp only [Option.some.injEq] at h; subst h; rfl
            · simp at h
          · simp only [Option.some.injEq] at h; subst h; rfl
          · simp at h
        · simp at h
      · simp at h
    · simp at h
  · unfold aConvert at h ⊢
    split at h
    · split at h
      · simp only [Option.some.injEq] at h; subst h; rfl
      · simp at h
    · split at h
      · simp only [Option.some.injEq] at h; subst h; rfl
      · simp at h
    · simp at h
theorem gnOk_more {l : List (Key × Nat)} : gnOk ⟨fr, ex ++ bx, gn⟩ l = gnOk ⟨fr, bx, gn⟩ l := by
  induction l with
  | nil => rfl
  | cons p l ih => obtain ⟨k, g⟩ := p; simp only [gnOk, ih]; rfl
theorem opVs_more {o : Oper} : opVs o ⟨fr, ex ++ bx, gn⟩ = opVs o ⟨fr, bx, gn⟩ := by
  unfold opVs; simp only [ev_more]
theorem runV0_more {o : Oper} {ors : List Or} {cs : List Prop} {v : SV} {bx' : List (Nat × ABox)} {gn' : List (Key × Nat)} (ha : Apart ex bx) (hs : still o.op = true) (hq : quietL ors = true) (h : runV0 P o ors ⟨fr, bx, gn⟩ = some (cs, v, bx', gn')) :
    bx' = bx ∧ gn' = gn ∧ runV0 P o ors ⟨fr, ex ++ bx, gn⟩ = some (cs, v, ex ++ bx, gn) := by
  unfold runV0 at h ⊢
  split at h
  · simp only [ev_more]
    split at h
    · simp only [Option.some.injEq, Prod.mk.injEq] at h; obtain ⟨rfl, rfl, rfl, rfl⟩ := h; exact ⟨rfl, rfl, rfl⟩
    · simp at h
  · simp only [ev_more]
    split at h
    · split at h
      · rename_i hk; simp only [Option.some.injEq, Prod.mk.injEq] at h; obtain ⟨rfl, rfl, rfl, rfl⟩ := h; rw [if_pos hk]; exact ⟨rfl, rfl, rfl⟩
      · simp at h
    · simp only [Option.some.injEq, Prod.mk.injEq] at h; obtain ⟨rfl, rfl, rfl, rfl⟩ := h; exact ⟨rfl, rfl, rfl⟩
    · simp at h
  · simp only [ev_more]
    split at h
    · split at h
      · rename_i hk; simp only [Option.some.injEq, Prod.mk.injEq] at h; obtain ⟨rfl, rfl, rfl, rfl⟩ := h; rw [if_pos hk]; exact ⟨rfl, rfl, rfl⟩
      · simp at h
    · simp at h
  · simp only [ev_more]
    split at h
    · split at h
      · rename_i hk; simp only [Option.some.injEq, Prod.mk.injEq] at h; obtain ⟨rfl, rfl, rfl, rfl⟩ := h; rw [if_pos hk]; exact ⟨rfl, rfl, rfl⟩
      · simp at h
    · simp at h
  · simp only [ev_more]
    split at h
    · split at h
      · split at h
        · rename_i hk; simp only [Option.some.injEq, Prod.mk.injEq] at h; obtain ⟨rfl, rfl, rfl, rfl⟩ := h; rw [if_pos hk]; exact ⟨rfl, rfl, rfl⟩
        · simp at h
      · simp at h
    · simp at h
  · simp only [ev_more]
    split at h
    · rename_i f fs cs' res bx2 gn2 gn3 hx
      simp only [Option.some.injEq, Prod.mk.injEq] at h
      obtain ⟨rfl, rfl, rfl, rfl⟩ := h
      simp only [quietL] at hq
      unfold quietOr at hq
      split at hq
      · rename_i e; simp only [Or.c.injEq] at e; obtain ⟨_, rfl, _, rfl⟩ := e
        simp only [upd_nil, hx]
        rw [callArgs_local (S := ⟨fr, ex ++ bx, gn⟩) (S' := ⟨fr, bx, gn⟩) (fun p _ => ev_more p), gnOk_more]
        refine ⟨trivial, trivial, ?_⟩
        have hf : ∀ l : List (Nat × ABox), l.filter (fun p => (List.map (fun x => x.1) ([] : List (Nat × ABox))).contains p.1) = [] := by intro l; simp
        rw [hf, hf]
      · simp at hq
      · rename_i e; exact (e _ _ _ _ rfl).elim
    · simp at h
  · split at h
    · rename_i r h1 h2
      simp only [Option.some.injEq, Prod.mk.injEq] at h
      obtain ⟨rfl, rfl, rfl, rfl⟩ := h
      have e := astep_still h2 hs
      rw [opVs_more, h1, astep_more ha hs h2]
      simp only [e]
      exact ⟨trivial, trivial, trivial⟩
    · simp at h
theorem vecLoad_more {o : Oper} {ors : List Or} {r : List Prop × List Or × SV} (ha : Apart ex bx) (h : vecLoad P o ors ⟨fr, bx, gn⟩ = some r) : vecLoad P o ors ⟨fr, ex ++ bx, gn⟩ = some r := by
  unfold vecLoad at h ⊢
  split at h
  · rename_i t x y ors2 ho
    simp only [ev_more]
    split at h
    · rename_i b s i k hx
      try simp only
      split at h
      · rename_i e s' l hb ht
        simp only at hb
        rw [lookup_more ha hb]; simp only [ht]; exact h
      · rename_i e s' l n _ _ hb ht hti
        simp only at hb
        rw [lookup_more ha hb]; simp only [ht, hti]; exact h
      · simp at h
    · simp at h
  · simp only [ev_more]; exact h
  · simp at h
theorem runV_more {o : Oper} {ors : List Or} {cs : List Prop} {v : SV} {bx' : List (Nat × ABox)} {gn' : List (Key × Nat)} (ha : Apart ex bx) (hs : still o.op = true) (hq : quietL ors = true) (h : runV P o ors ⟨fr, bx, gn⟩ = some (cs, v, bx', gn')) :
    bx' = bx ∧ gn' = gn ∧ runV P o ors ⟨fr, ex ++ bx, gn⟩ = some (cs, v, ex ++ bx, gn) := by
  unfold runV at h ⊢
  split at h
  · rename_i c v' hv
    rw [vecLoad_more ha hv]
    simp only [Option.some.injEq, Prod.mk.injEq] at h; obtain ⟨rfl, rfl, rfl, rfl⟩ := h
    exact ⟨rfl, rfl, rfl⟩
  · simp at h
  · rename_i hv
    have : vecLoad P o ors ⟨fr, ex ++ bx, gn⟩ = none := by
      unfold vecLoad
      split
      · rename_i t x y ors2 ho
        unfold runV0 at h
        simp only [ho] at h
        simp at h
      · rename_i t x i ors2 ho
        unfold vecLoad at hv
        simp only [ho] at hv
        simp only [ev_more]; exact hv
      · rfl
    rw [this]; exact runV0_more ha hs hq h
end
def alBox (P : Program) (o : Oper) : Option (Nat × ABox) := match o.op, o.dst with
  | .alloc t, some id => match tInfo P t with
    | some (_, _, some z) => some (id, .cells t (zeroCells z))
    | _ => none
  | _, _ => none
def alAt (P : Program) (ops : List Oper) (k : Nat) : Option (Nat × ABox) := (ops[k]?).bind (alBox P)
/-- The boxes that were made behind the last effect. -/
def exs (P : Program) (ops : List Oper) (st : List DS) (L : Nat → Bool) : Nat → List (Nat × ABox)
  | 0 => []
  | m + 1 => match L m with
    | true => match outOf st m with
      | some _ => []
      | none => match alAt P ops m with
        | some p => p :: exs P ops st L m
        | none => exs P ops st L m
    | false => exs P ops st L m
def hasKey (l : List (Nat × ABox)) (id : Nat) : Bool := l.any (fun p => p.1 == id)
def alSt (P : Program) (ops : List Oper) (st : List DS) (M : List Nat) (b0 : BG) : Bool :=
  (List.range ops.length).all fun k => match alAt P ops k with
    | none => true
    | some p => (outOf st k).isNone && !hasKey b0.1 p.1 && (List.range ops.length).all fun e =>
        (match outOf st e with | some b => ordered M k e && (decide (k < e) || !hasKey b.1 p.1) | none => true) &&
        (match alAt P ops e with | some q => e == k || !(q.1 == p.1) | none => true)
section
variable {P : Program} {ops : List Oper} {st : List DS} {M : List Nat} {f0 : List SV} {b0 : BG}
theorem exs_mem {L : Nat → Bool} : ∀ {m : Nat} {p : Nat × ABox}, p ∈ exs P ops st L m → ∃ k, k < m ∧ L k = true ∧ alAt P ops k = some p ∧ ∀ e, k < e → e < m → (outOf st e).isSome = true → L e = false
  | 0, p, h => by simp [exs] at h
  | m + 1, p, h => by
    simp only [exs] at h
    split at h
    · rename_i hL
      split at h
      · simp at h
      · rename_i ho
        split at h
        · rename_i q hq
          simp only [List.mem_cons] at h
          rcases h with rfl | h
          · exact ⟨m, by omega, hL, hq, fun e h1 h2 => by omega⟩
          · obtain ⟨k, h1, h2, h3, h4⟩ := exs_mem h
            refine ⟨k, by omega, h2, h3, fun e q1 q2 q3 => ?_⟩
            rcases Nat.lt_or_ge e m with h5 | h5
            · exact h4 e q1 h5 q3
            · have : e = m := by omega
              subst this; rw [ho] at q3; simp at q3
        · obtain ⟨k, h1, h2, h3, h4⟩ := exs_mem h
          refine ⟨k, by omega, h2, h3, fun e q1 q2 q3 => ?_⟩
          rcases Nat.lt_or_ge e m with h5 | h5
          · exact h4 e q1 h5 q3
          · have : e = m := by omega
            subst this; rw [ho] at q3; simp at q3
    · rename_i hL
      obtain ⟨k, h1, h2, h3, h4⟩ := exs_mem h
      refine ⟨k, by omega, h2, h3, fun e q1 q2 q3 => ?_⟩
      rcases Nat.lt_or_ge e m with h5 | h5
      · exact h4 e q1 h5 q3
      · have : e = m := by omega
        subst this; exact hL
theorem exs_same {L L' : Nat → Bool} : ∀ {m : Nat}, (∀ k, k < m → ((outOf st k).isSome = true ∨ (alAt P ops k).isSome = true) → L k = L' k) → exs P ops st L m = exs P ops st L' m
  | 0, _ => rfl
  | m + 1, h => by
    have ih := @exs_same L L' m (fun k hk => h k (by omega))
    simp only [exs, ih]
    cases ho : outOf st m with
    | some b => rw [h m (by omega) (.inl (by rw [ho]; rfl))]
    | none =>
      cases ha : alAt P ops m with
      | some p => rw [h m (by omega) (.inr (by rw [ha]; rfl))]
      | none => cases L m <;> cases L' m <;> rfl
theorem exs_upto {L : Nat → Bool} {i : Nat} (h : ∀ k, i ≤ k → ((outOf st k).isSome = true ∨ (alAt P ops k).isSome = true) → L k = false) : ∀ m, i ≤ m → exs P ops st L m = exs P ops st L i := by
  intro m
  induction m with
  | zero => intro hm; have : i = 0 := by omega
            subst this; rfl
  | succ m ih =>
    intro hm
    rcases Nat.lt_or_ge m i with hlt | hge
    · have : i = m + 1 := by omega
      subst this; rfl
    · rw [← ih hge]
      simp only [exs]
      cases ho : outOf st m with
      | some b => rw [h m hge (.inl (by rw [ho]; rfl))]
      | none =>
        cases ha : alAt P ops m with
        | some p => rw [h m hge (.inr (by rw [ha]; rfl))]
        | none => cases L m <;> rfl
theorem exs_eff {L : Nat → Bool} {i : Nat} (hi : (outOf st i).isSome = true) (h : ∀ k, i < k → ((outOf st k).isSome = true ∨ (alAt P ops k).isSome = true) → L k = false) : ∀ m, i < m → exs P ops st (also L i) m = [] := by
  intro m hm
  have hu : ∀ k, i + 1 ≤ k → ((outOf st k).isSome = true ∨ (alAt P ops k).isSome = true) → also L i k = false := by
    intro k hk hs
    simp only [also, if_neg (show ¬ k = i by omega)]
    exact h k (by omega) hs
  rw [exs_upto hu m (by omega)]
  simp only [exs, also, if_true]
  obtain ⟨b, hb⟩ := Option.isSome_iff_exists.1 hi
  rw [hb]
theorem exs_al {L : Nat → Bool} {i : Nat} {p : Nat × ABox} (hp : alAt P ops i = some p) : ∀ m q, q ∈ exs P ops st (also L i) m → q = p ∨ q ∈ exs P ops st L m ∨ ∃ e, i < e ∧ e < m ∧ (outOf st e).isSome = true ∧ L e = true := by
  intro m
  induction m with
  | zero => intro q hq; simp [exs] at hq
  | succ m ih =>
    intro q hq
    simp only [exs] at hq ⊢
    by_cases hm : m = i
    · subst hm
      simp only [also, if_true] at hq
      cases ho : outOf st m with
      | some b => rw [ho] at hq; simp at hq
      | none =>
        rw [ho, hp] at hq
        simp only [List.mem_cons] at hq
        rcases hq with rfl | hq
        · exact .inl rfl
        · rcases ih q hq with h | h | ⟨e, h1, h2, h3⟩
          · exact .inl h
          · refine .inr (.inl ?_)
            cases L m
            · exact h
            · simp only [hp]; exact List.mem_cons_of_mem _ h
          · omega
    · rw [show also L i m = L m by simp only [also, if_neg hm]] at hq
      cases hL : L m with
      | false =>
        rw [hL] at hq
        rcases ih q hq with h | h | ⟨e, h1, h2, h3⟩
        · exact .inl h
        · exact .inr (.inl h)
        · exact .inr (.inr ⟨e, h1, by omega, h3⟩)
      | true =>
        rw [hL] at hq
        simp only at hq ⊢
        cases ho : outOf st m with
        | some b => rw [ho] at hq; simp at hq
        | none =>
          rw [ho] at hq
          simp only at hq ⊢
          cases ha : alAt P ops m with
          | none =>
            rw [ha] at hq
            rcases ih q hq with h | h | ⟨e, h1, h2, h3⟩
            · exact .inl h
            · exact .inr (.inl h)
            · exact .inr (.inr ⟨e, h1, by omega, h3⟩)
          | some p' =>
            rw [ha] at hq
            simp only [List.mem_cons] at hq ⊢
            rcases hq with rfl | hq
            · exact .inr (.inl (.inl rfl))
            · rcases ih q hq with h | h | ⟨e, h1, h2, h3⟩
              · exact .inl h
              · exact .inr (.inl (.inr h))
              · exact .inr (.inr ⟨e, h1, by omega, h3⟩)
theorem good_ord {L : Nat → Bool} {i k : Nat} {o : Oper} (hg : Good ops st M L i o) (h : ordered M i k = true) : (k < i → L k = true) ∧ (i < k → L k = false) := by
  simp only [ordered, Bool.or_eq_true, Bool.and_eq_true, decide_eq_true_eq] at h
  rcases h with ⟨h1, h2⟩ | ⟨h1, h2⟩
  · exact ⟨fun _ => hg.down k h2 (by omega), fun h => by omega⟩
  · refine ⟨fun h => by omega, fun _ => ?_⟩
    cases hL : L k with
    | false => rfl
    | true => rw [hg.up k hL] at h2; simp at h2
theorem ordered_symm (M : List Nat) (i k : Nat) : ordered M i k = ordered M k i := by
  simp only [ordered]; rw [Bool.or_comm]
theorem alAt_lt {k : Nat} {p : Nat × ABox} (h : alAt P ops k = some p) : k < ops.length := by
  rcases Nat.lt_or_ge k ops.length with h1 | h1
  · exact h1
  · simp [alAt, List.getElem?_eq_none h1] at h
theorem outOf_lt {k : Nat} (h : (outOf st k).isSome = true) : k < st.length := by
  rcases Nat.lt_or_ge k st.length with h1 | h1
  · exact h1
  · simp [outOf, List.getElem?_eq_none h1] at h
theorem alSt_get {k : Nat} {p : Nat × ABox} (hs : alSt P ops st M b0 = true) (hst : st.length = ops.length) (hk : alAt P ops k = some p) : outOf st k = none ∧ (∀ q ∈ b0.1, q.1 ≠ p.1) ∧ (∀ e b, outOf st e = some b → ordered M k e = true ∧ (e < k → ∀ q ∈ b.1, q.1 ≠ p.1)) ∧ (∀ e q, alAt P ops e = some q → e ≠ k → q.1 ≠ p.1) := by
  have hkl := alAt_lt hk
  simp only [alSt, List.all_eq_true, List.mem_range] at hs
  have h1 := hs k hkl
  rw [hk] at h1
  simp only [Bool.and_eq_true, Bool.not_eq_true', List.all_eq_true, List.mem_range] at h1
  obtain ⟨⟨h2, h3⟩, h4⟩ := h1
  have nk : ∀ l : List (Nat × ABox), hasKey l p.1 = false → ∀ q ∈ l, q.1 ≠ p.1 := by
    intro l hl q hq
    simp only [hasKey, List.any_eq_false] at hl
    simpa using hl q hq
  refine ⟨by simpa using h2, nk _ h3, fun e b hb => ?_, fun e q hq hne => ?_⟩
  · have hel : e < ops.length := by rw [← hst]; exact outOf_lt (by rw [hb]; rfl)
    have := h4 e hel
    rw [hb] at this
    simp only [Bool.and_eq_true] at this
    obtain ⟨⟨q1, q2⟩, _⟩ := this
    refine ⟨q1, fun hlt => nk _ ?_⟩
    simp only [Bool.or_eq_true, decide_eq_true_eq, Bool.not_eq_true'] at q2
    rcases q2 with q2 | q2
    · omega
    · exact q2
  · have := h4 e (alAt_lt hq)
    have := this.2
    rw [hq] at this
    simp only [Bool.or_eq_true, beq_iff_eq, Bool.not_eq_true', beq_eq_false_iff_ne] at this
    rcases this with h | h
    · exact absurd h hne
    · exact h
theorem exs_apart {L : Nat → Bool} (hs : alSt P ops st M b0 = true) (hst : st.length = ops.length) : Apart (exs P ops st L ops.length) (bxD st b0 L ops.length).1 := by
  intro p hp q hq
  obtain ⟨k, h1, h2, h3, h4⟩ := exs_mem hp
  obtain ⟨g1, g2, g3, g4⟩ := alSt_get hs hst h3
  rcases bx_last (st := st) (b0 := b0) (L := L) ops.length with ⟨e1, e2⟩ | ⟨e, e1, e2, e3, e4, e5⟩
  · rw [e1] at hq; exact Ne.symm (g2 q hq)
  · rw [e4] at hq
    obtain ⟨b, hb⟩ := Option.isSome_iff_exists.1 e3
    simp only [boxOf, hb, Option.getD_some] at hq
    rcases Nat.lt_trichotomy e k with hlt | heq | hgt
    · exact Ne.symm ((g3 e b hb).2 hlt q hq)
    · subst heq; rw [g1] at hb; simp at hb
    · have := h4 e hgt e1 e3; rw [e2] at this; simp at this
theorem alBox_zero {o : Oper} {p : Nat × ABox} (h : alBox P o = some p) (id : Nat) : p.2.svs.any (SV.names id) = false := by
  unfold alBox at h
  split at h
  · split at h
    · rename_i z hz
      simp only [Option.some.injEq] at h; subst h
      rw [List.any_eq_false]
      intro s hs
      simp only [ABox.svs, zeroCells, List.mem_map] at hs
      obtain ⟨c, _, rfl⟩ := hs
      simp [const_names]
    · simp at h
  · simp at h
theorem alloc_more {o : Oper} {p : Nat × ABox} {ors : List Or} {fr fr' : List SV} {bx ex bx' : List (Nat × ABox)} {gn gn' : List (Key × Nat)} {cs : List Prop} {v : SV} (hp : alBox P o = some p) (h : runV P o ors ⟨fr, bx, gn⟩ = some (cs, v, bx', gn')) (hfr : fr'.any (SV.names p.1) = false)
    (hex : ∀ q ∈ ex, q.1 ≠ p.1 ∧ q.2.svs.any (SV.names p.1) = false) : bx' = p :: bx ∧ gn' = gn ∧ runV P o ors ⟨fr', ex ++ bx, gn⟩ = some (cs, v, p :: (ex ++ bx), gn) := by
  unfold alBox at hp
  split at hp
  · rename_i t id ho hd
    split at hp
    · rename_i z hz
      simp only [Option.some.injEq] at hp; subst hp
      simp only at hfr hex
      have hv : ∀ S, vecLoad P o ors S = none := by intro S; unfold vecLoad; rw [ho]
      unfold runV at h ⊢
      simp only [hv] at h ⊢
      unfold runV0 at h ⊢
      simp only [ho] at h ⊢
      simp only [localOp, isAlloc, Bool.or_true] at h ⊢
      unfold astep at h ⊢
      simp only [ho] at h ⊢
      unfold aAlloc at h ⊢
      simp only [hd, hz] at h ⊢
      by_cases hc : (z.cells.toList.all fun c => c.oneCell') = true ∧ id < 1000 ∧ (⟨fr, bx, gn⟩ : St).names id = false
      · rw [if_pos hc] at h
        have hn : (⟨fr', ex ++ bx, gn⟩ : St).names id = false := by
          have := hc.2.2
          simp only [St.names, Bool.or_eq_false_iff] at this ⊢
          refine ⟨hfr, ?_⟩
          rw [List.any_append, this.2, Bool.or_false, List.any_eq_false]
          intro q hq
          have := hex q hq
          simp [this.1, this.2]
        rw [if_pos ⟨hc.1, hc.2.1, hn⟩]
        cases ors with
        | nil =>
          simp only [Option.some.injEq, Prod.mk.injEq, St.addBox] at h ⊢
          obtain ⟨rfl, rfl, rfl, rfl⟩ := h
          exact ⟨rfl, rfl, rfl, rfl, trivial⟩
        | cons x l => simp at h
      · rw [if_neg hc] at h; simp at h
    · simp at hp
  · simp at hp
def runAt (P : Program) (o : Oper) (s : DS) (f : List SV) (b want : BG) : Option (List Prop × List VB × List VB) :=
  match runV P o s.ors ⟨f, b.1, b.2⟩ with
  | some (cs, v, bx, gn) => some (cs, [(v, bx, gn)], [(s.v, want)])
  | none => none
def dRun3 (P : Program) (ops : List Oper) (st : List DS) (M : List Nat) (f : List SV) (b0 : BG) (i : Nat) (o : Oper) (s : DS) : Option (List Prop × List VB × List VB) :=
  match alAt P ops i with
  | some p => runAt P o s f (boxOf st b0 (lastEff st i)) (p :: (boxOf st b0 (lastEff st i)).1, (boxOf st b0 (lastEff st i)).2)
  | none => match s.out with
    | some b => runAt P o s f (exs P ops st (fun _ => true) i ++ (boxOf st b0 (lastEff st i)).1, (boxOf st b0 (lastEff st i)).2) b
    | none => match still o.op && quietL s.ors with
      | true => dRuns2 P o s f st b0 (cands st M ops.length i)
      | false => none
def dOp3 (P : Program) (ops : List Oper) (st : List DS) (M : List Nat) (f0 : List SV) (b0 : BG) (i : Nat) : Option (List Prop × List VB × List VB) :=
  match ops[i]?, st[i]? with
  | some o, some s => (match alOk ops st M f0 i o with
    | false => none
    | true =>
    match o.guard with
    | none => dRun3 P ops st M (frD ops st f0 (fun _ => true) i) b0 i o s
    | some (j, want) => match guardOk ((dstOf ops j).bind ((frD ops st f0 (fun _ => true) i)[·]?)) want s.gd with
      | some (cs, true) => match dRun3 P ops st M (frD ops st f0 (fun _ => true) i) b0 i o s with
        | some (c2, r) => some (cs ++ c2, r)
        | none => none
      | some (cs, false) => match s.out, alAt P ops i with
        | none, none => some (cs, [(s.v, b0)], [(undefS, b0)])
        | _, _ => none
      | none => none)
  | _, _ => none
def dAll3 (P : Program) (ops : List Oper) (st : List DS) (M : List Nat) (f0 : List SV) (b0 : BG) : Nat → Option (List Prop × List VB × List VB)
  | 0 => some ([], [], [])
  | m + 1 => match dAll3 P ops st M f0 b0 m, dOp3 P ops st M f0 b0 m with
    | some (a, x, y), some (b, x', y') => some (a ++ b, x ++ x', y ++ y')
    | _, _ => none
theorem runAt_len {o : Oper} {s : DS} {f : List SV} {b want : BG} {cs : List Prop} {x y : List VB} (h : runAt P o s f b want = some (cs, x, y)) : x.length = y.length := by
  unfold runAt at h
  split at h
  · simp only [Option.some.injEq, Prod.mk.injEq] at h; obtain ⟨_, rfl, rfl⟩ := h; rfl
  · simp at h
theorem dRun3_len {f : List SV} {i : Nat} {o : Oper} {s : DS} {cs : List Prop} {x y : List VB} (h : dRun3 P ops st M f b0 i o s = some (cs, x, y)) : x.length = y.length := by
  unfold dRun3 at h
  split at h
  · exact runAt_len h
  · split at h
    · exact runAt_len h
    · split at h
      · exact dRuns2_len _ _ _ _ h
      · simp at h
theorem dOp3_len {i : Nat} {cs : List Prop} {x y : List VB} (h : dOp3 P ops st M f0 b0 i = some (cs, x, y)) : x.length = y.length := by
  unfold dOp3 at h
  split at h
  · split at h
    · simp at h
    · split at h
      · exact dRun3_len h
      · split at h
        · split at h
          · rename_i h2
            simp only [Option.some.injEq, Prod.mk.injEq] at h
            obtain ⟨_, rfl⟩ := h
            exact dRun3_len h2
          · simp at h
        · split at h
          · simp only [Option.some.injEq, Prod.mk.injEq] at h; obtain ⟨_, rfl, rfl⟩ := h; rfl
          · simp at h
        · simp at h
  · simp at h
theorem dAll3_len : ∀ (n : Nat) (cs : List Prop) (x y : List VB), dAll3 P ops st M f0 b0 n = some (cs, x, y) → x.length = y.length
  | 0, cs, x, y, h => by simp only [dAll3, Option.some.injEq, Prod.mk.injEq] at h; obtain ⟨_, rfl, rfl⟩ := h; rfl
  | n + 1, cs, x, y, h => by
    simp only [dAll3] at h
    split at h
    · rename_i a x1 y1 b x2 y2 h1 h2
      simp only [Option.some.injEq, Prod.mk.injEq] at h
      obtain ⟨_, rfl, rfl⟩ := h
      simp [dAll3_len n _ _ _ h1, dOp3_len h2]
    · simp at h
theorem dAll3_get : ∀ (n : Nat) (cs : List Prop) (x y : List VB), dAll3 P ops st M f0 b0 n = some (cs, x, y) → All cs → x = y → ∀ i, i < n → ∃ c u, dOp3 P ops st M f0 b0 i = some (c, u, u) ∧ All c
  | 0, cs, x, y, h, hc, e, i, hi => by omega
  | n + 1, cs, x, y, h, hc, e, i, hi => by
    simp only [dAll3] at h
    split at h
    · rename_i a x1 y1 b x2 y2 h1 h2
      simp only [Option.some.injEq, Prod.mk.injEq] at h
      obtain ⟨rfl, rfl, rfl⟩ := h
      obtain ⟨hc1, hc2⟩ := All_append hc
      obtain ⟨e1, e2⟩ := List.append_inj e (dAll3_len n _ _ _ h1)
      rcases Nat.lt_or_ge i n with hlt | hge
      · exact dAll3_get n _ _ _ h1 hc1 e1 i hlt
      · have : i = n := by omega
        subst this; subst e2; exact ⟨b, x2, h2, hc2⟩
    · simp at h
end
theorem W_draw2 {P : Program} {id : Nat} {ops : Array Oper} {Q : Exit → St → Prop} {S : St} (st : List DS) {cs : List Prop} {u : List VB} (hm : P.follows .mixedOrders = true) (hst : st.length = ops.toList.length)
    (hs : dStatic ops.toList st (masks ops.toList []) = true) (hal : alSt P ops.toList st (masks ops.toList []) (S.bx, S.gn) = true) (hd : dAll3 P ops.toList st (masks ops.toList []) S.fr (S.bx, S.gn) ops.toList.length = some (cs, u, u)) (hc : All cs)
    (hq : Q .normal ⟨frD ops.toList st S.fr (fun _ => true) ops.toList.length, exs P ops.toList st (fun _ => true) ops.toList.length ++ (bxD st (S.bx, S.gn) (fun _ => true) ops.toList.length).1, (bxD st (S.bx, S.gn) (fun _ => true) ops.toList.length).2⟩) : W P (.region id ops true) Q S := by
  intro G0 w0 a0 hr0
  obtain ⟨hstep0, hr0'⟩ := hr0.draw
  apply wp_region_any hm
  generalize hol : ops.toList = opl at *
  have hn : ops.size = opl.length := by rw [← hol]; simp
  have hget : ∀ i : Nat, ops[i]? = opl[i]? := by intro i; rw [← hol]; simp
  have main : ∀ (fuel : Nat) (listed : Array Bool) (G : Gh) (w : World) (a : Act), listed.size = ops.size → left (fun k => listed.getD k false) opl.length ≤ fuel →
      (∀ (k : Nat) ok, opl[k]? = some ok → listed.getD k false = true → ∀ e ∈ ok.after, Region.binds .any e = true → listed.getD e.on false = true) →
      Rel G w ⟨frD opl st S.fr (fun k => listed.getD k false) opl.length, exs P opl st (fun k => listed.getD k false) opl.length ++ (bxD st (S.bx, S.gn) (fun k => listed.getD k false) opl.length).1, (bxD st (S.bx, S.gn) (fun k => listed.getD k false) opl.length).2⟩ a →
      Step G0 w0 G w → (∀ i, 1000 ≤ i → G.ow (i, 0) = G0.ow (i, 0)) → wpAny P .any ops (lift Q G0 w0) fuel listed a w := by
    intro fuel
    have done : ∀ (listed : Array Bool) (G : Gh) (w : World) (a : Act), (∀ i, i < opl.length → listed.getD i false = true) → Rel G w ⟨frD opl st S.fr (fun k => listed.getD k false) opl.length, exs P opl st (fun k => listed.getD k false) opl.length ++ (bxD st (S.bx, S.gn) (fun k => listed.getD k false) opl.length).1, (bxD st (S.bx, S.gn) (fun k => listed.getD k false) opl.length).2⟩ a →
        Step G0 w0 G w → (∀ i, 1000 ≤ i → G.ow (i, 0) = G0.ow (i, 0)) → lift Q G0 w0 .normal a w := by
      intro listed G w a hall hr hst' how
      rw [frD_congr (L' := fun _ => true) _ hall, bxD_congr (L' := fun _ => true) _ hall, exs_same (L' := fun _ => true) (fun k hk _ => hall k hk)] at hr
      exact ⟨_, G, hq, hst', hr, how⟩
    induction fuel with
    | zero =>
      intro listed G w a hsz hle hcl hr hst' how
      have hall := left_zero (Nat.le_zero.1 hle)
      refine ⟨?_, done listed G w a hall hr hst' how⟩
      rw [List.eq_nil_iff_forall_not_mem]
      intro j hj
      obtain ⟨h1, o, h2, _⟩ := mem_ready.1 hj
      have hjl : j < ops.size := (Array.getElem?_eq_some_iff.1 h2).1
      have h3 := hall j (by omega)
      simp only [Array.getD_eq_getD_getElem?] at h1 h3
      rw [Array.getElem?_eq_getElem (by omega : j < listed.size)] at h1 h3
      simp only [Option.getD_some] at h1 h3
      rw [h1] at h3; simp at h3
    | succ fuel ih =>
      intro listed G w a hsz hle hcl hr hst' how
      have same : ∀ j, j < opl.length → listed.getD j true = listed.getD j false := by
        intro j hj
        simp only [Array.getD_eq_getD_getElem?]
        rw [Array.getElem?_eq_getElem (by omega : j < listed.size)]; rfl
      refine ⟨fun hnil => ?_, fun i hi => ?_⟩
      · apply done listed G w a _ hr hst' how
        apply Classical.byContradiction
        intro hno
        obtain ⟨i, h1, h2, h3⟩ := least_false hno
        have : i ∈ Region.ready .any ops listed := by
          rw [mem_ready]
          refine ⟨by rw [same i h1]; exact h2, opl[i], by rw [hget i]; simp [h1], fun e he hb => h3 e.on ?_⟩
          simp only [dStatic, List.all_eq_true, List.mem_range] at hs
          have q := hs i h1
          simp only [List.getElem?_eq_getElem h1, Bool.and_eq_true] at q
          have q1 := q.1
          simp only [List.all_eq_true] at q1
          have := q1 e (by simpa using he)
          simpa [hb] using this
        rw [hnil] at this; simp at this
      · obtain ⟨h1, o, h2, h3⟩ := mem_ready.1 hi
        rw [hget i] at h2
        have hil : i < opl.length := by
          rcases Nat.lt_or_ge i opl.length with h | h
          · exact h
          · simp [List.getElem?_eq_none h] at h2
        rw [same i hil] at h1
        obtain ⟨s, hsi⟩ : ∃ s, st[i]? = some s := ⟨st[i]'(by omega), by simp⟩
        have hg : Good opl st (masks opl []) (fun k => listed.getD k false) i o := by
          refine good_of rfl hs (by omega) (fun k hk => ?_) h2 h1 hcl h3
          rcases Nat.lt_or_ge k opl.length with h | h
          · exact h
          · simp [Array.getElem?_eq_none (show listed.size ≤ k by omega)] at hk
        have hset : (fun k => (listed.setIfInBounds i true).getD k false) = also (fun k => listed.getD k false) i := by
          funext k
          simp only [also]
          split
          · rename_i hk; subst hk; simp [Array.getD_eq_getD_getElem?, show k < listed.size by omega]
          · rename_i hk; rw [getD_set_ne false (Ne.symm hk)]
        have hfr2 : frD opl st S.fr (also (fun k => listed.getD k false) i) opl.length = putF (frD opl st S.fr (fun k => listed.getD k false) opl.length) o.dst s.v := by
          have := congrArg St.fr (also_state (f0 := S.fr) (b0 := (S.bx, S.gn)) hg h2 hil hsi)
          rw [show frD opl st S.fr (also (fun k => listed.getD k false) i) opl.length = _ from this]
          cases o.dst <;> rfl
        have hbx2 : bxD st (S.bx, S.gn) (also (fun k => listed.getD k false) i) opl.length = s.out.getD (bxD st (S.bx, S.gn) (fun k => listed.getD k false) opl.length) := by
          have e := also_state (f0 := S.fr) (b0 := (S.bx, S.gn)) hg h2 hil hsi
          have e1 := congrArg St.bx e
          have e2 := congrArg St.gn e
          apply Prod.ext
          · rw [show (bxD st (S.bx, S.gn) (also (fun k => listed.getD k false) i) opl.length).1 = _ from e1]; cases o.dst <;> rfl
          · rw [show (bxD st (S.bx, S.gn) (also (fun k => listed.getD k false) i) opl.length).2 = _ from e2]; cases o.dst <;> rfl
        have next : ∀ (G' : Gh) (w' : World) (a' : Act), Step G w G' w' → (∀ i, 1000 ≤ i → G'.ow (i, 0) = G.ow (i, 0)) →
            Rel G' w' ⟨putF (frD opl st S.fr (fun k => listed.getD k false) opl.length) o.dst s.v, exs P opl st (also (fun k => listed.getD k false) i) opl.length ++ (s.out.getD (bxD st (S.bx, S.gn) (fun k => listed.getD k false) opl.length)).1, (s.out.getD (bxD st (S.bx, S.gn) (fun k => listed.getD k false) opl.length)).2⟩ a' →
            wpAny P .any ops (lift Q G0 w0) fuel (listed.setIfInBounds i true) a' w' := by
          intro G' w' a' k1 k2 k3
          rw [← hfr2, ← hbx2] at k3
          refine ih (listed.setIfInBounds i true) G' w' a' (by simp [hsz]) ?_ ?_ ?_ (hst'.trans k1) (fun j hj => (k2 j hj).trans (how j hj))
          · rw [hset]; have := left_also (L := fun k => listed.getD k false) h1 hil; omega
          · intro k ok hk hL e he hb
            by_cases hki : k = i
            · subst hki; rw [h2] at hk; simp only [Option.some.injEq] at hk; subst hk; exact getD_set_true (h3 e he hb)
            · rw [getD_set_ne false (Ne.symm hki)] at hL; exact getD_set_true (hcl k ok hk hL e he hb)
          · rw [hset]; exact k3
        have putE : ∀ (f : List SV) (bx : List (Nat × ABox)) (gn : List (Key × Nat)), ((⟨f, bx, gn⟩ : St).put o.dst s.v) = ⟨putF f o.dst s.v, bx, gn⟩ := by
          intro f bx gn; cases o.dst <;> rfl
        have pureN : alAt P opl i = none → outOf st i = none → exs P opl st (also (fun k => listed.getD k false) i) opl.length = exs P opl st (fun k => listed.getD k false) opl.length := by
          intro q1 q2
          refine exs_same (fun k hk hs => ?_)
          simp only [also]
          split
          · rename_i hki; subst hki; rw [q1, q2] at hs; simp at hs
          · rfl
        have hout : outOf st i = s.out := by simp [outOf, hsi]
        obtain ⟨c, uu, hdo, hca⟩ := dAll3_get _ _ _ _ hd hc rfl i hil
        simp only [dOp3, h2, hsi] at hdo
        cases hao : alOk opl st (masks opl []) S.fr i o with
        | false => rw [hao] at hdo; simp at hdo
        | true =>
        rw [hao] at hdo
        simp only at hdo
        have local_ : ∀ x ∈ o.op.operands, ∀ bx gn, (⟨frD opl st S.fr (fun _ => true) i, bx, gn⟩ : St).ev x = (⟨frD opl st S.fr (fun k => listed.getD k false) opl.length, bx, gn⟩ : St).ev x := by
          intro x hx bx gn
          cases x with
          | tmp t =>
            have : t ∈ looks opl o := by
              simp only [looks, List.mem_append, List.mem_filterMap]
              exact .inl (.inl ⟨.tmp t, by simpa using hx, rfl⟩)
            simp only [St.ev, List.getD_eq_getElem?_getD]
            rw [slot_same hg hil this]
          | _ => rfl
        have runs : ∀ {cr : List Prop} {v2 : List VB}, dRun3 P opl st (masks opl []) (frD opl st S.fr (fun _ => true) i) (S.bx, S.gn) i o s = some (cr, v2, v2) → All cr → o.wp P a w (wpAny P .any ops (lift Q G0 w0) fuel (listed.setIfInBounds i true)) (lift Q G0 w0) := by
          intro cr v2 hdr hcr
          obtain ⟨cd, hcd, hbx⟩ := cand_mem (b0 := (S.bx, S.gn)) hg hil
          unfold dRun3 at hdr
          split at hdr
          · rename_i p hp
            obtain ⟨g1, g2, g3, g4⟩ := alSt_get hal hst hp
            have hbp : alBox P o = some p := by simpa [alAt, h2] using hp
            have hce : bxD st (S.bx, S.gn) (fun k => listed.getD k false) opl.length = boxOf st (S.bx, S.gn) (lastEff st i) := by
              have hu : ∀ k, i < k → (outOf st k).isSome = true → listed.getD k false = false := by
                intro k hk hs
                obtain ⟨b, hb⟩ := Option.isSome_iff_exists.1 hs
                exact (good_ord hg (g3 k b hb).1).2 hk
              rw [bx_upto hg.un hu opl.length (by omega)]
              refine lastEff_spec i (fun k hk hs => ?_)
              obtain ⟨b, hb⟩ := Option.isSome_iff_exists.1 hs
              exact (good_ord hg (g3 k b hb).1).1 hk
            unfold runAt at hdr
            split at hdr
            · rename_i cs' v bx' gn' hr1
              simp only [Option.some.injEq, Prod.mk.injEq] at hdr
              obtain ⟨rfl, e1, e2⟩ := hdr
              rw [← e2] at e1
              simp only [List.cons.injEq, Prod.mk.injEq, and_true] at e1
              obtain ⟨rfl, rfl, rfl⟩ := e1
              have hdst : o.dst = some p.1 := by
                unfold alBox at hbp
                split at hbp
                · rename_i hd
                  split at hbp
                  · simp only [Option.some.injEq] at hbp; subst hbp; exact hd
                  · simp at hbp
                · simp at hbp
              have hia : isAlloc o.op = true := by
                unfold alBox at hbp
                split at hbp
                · rename_i ho hd; rw [ho]; rfl
                · simp at hbp
              obtain ⟨_, _, q3⟩ := alloc_more (fr' := frD opl st S.fr (fun k => listed.getD k false) opl.length) (ex := exs P opl st (fun k => listed.getD k false) opl.length) hbp hr1 (alOk_free hao hg.un hg.up hia p.1 hdst _ (Nat.le_refl _)) (by
                intro q hq
                obtain ⟨k, k1, k2, k3, k4⟩ := exs_mem hq
                have hki : k ≠ i := by intro e; subst e; rw [hg.un] at k2; simp at k2
                refine ⟨g4 k q k3 hki, ?_⟩
                have : ∃ ok, alBox P ok = some q := by
                  unfold alAt at k3
                  cases hk : opl[k]? with
                  | none => rw [hk] at k3; simp at k3
                  | some ok => rw [hk] at k3; exact ⟨ok, by simpa using k3⟩
                obtain ⟨ok, hok⟩ := this
                exact alBox_zero hok p.1)
              have hr' := hr
              rw [hce] at hr'
              refine runV_sound q3 hcr hr' (fun G' a' w' k1 k2 k3 => next G' w' a' k1 k3 ?_)
              rw [putE] at k2
              rw [show s.out = none by rw [← hout]; exact g1, hce]
              refine ⟨k2.wf, k2.size, k2.fr, fun q hq => k2.bx q ?_, k2.gn, k2.defers⟩
              simp only [Option.getD_none, List.mem_append, List.mem_cons] at hq ⊢
              rcases hq with hq | hq
              · rcases exs_al hp _ q hq with h | h | ⟨e, e1, e2, e3, e4⟩
                · exact .inl h
                · exact .inr (.inl h)
                · obtain ⟨b, hb⟩ := Option.isSome_iff_exists.1 e3
                  have := (good_ord hg (g3 e b hb).1).2 e1
                  rw [this] at e4; simp at e4
              · exact .inr (.inr hq)
            · simp at hdr
          · rename_i hna
            split at hdr
            · rename_i b hb
              have hoi : (outOf st i).isSome = true := by rw [hout, hb]; rfl
              have hordE : ∀ k, (outOf st k).isSome = true → (k < i → listed.getD k false = true) ∧ (i < k → listed.getD k false = false) := fun k hk => hg.eff k hoi hk
              have hordA : ∀ k, (alAt P opl k).isSome = true → (k < i → listed.getD k false = true) ∧ (i < k → listed.getD k false = false) := by
                intro k hk
                obtain ⟨p, hp⟩ := Option.isSome_iff_exists.1 hk
                obtain ⟨b', hb'⟩ := Option.isSome_iff_exists.1 hoi
                obtain ⟨_, _, g3, _⟩ := alSt_get hal hst hp
                exact good_ord hg (by rw [ordered_symm]; exact (g3 i b' hb').1)
              have hce : bxD st (S.bx, S.gn) (fun k => listed.getD k false) opl.length = boxOf st (S.bx, S.gn) (lastEff st i) := by
                rw [bx_upto hg.un (fun k hk hs => (hordE k hs).2 hk) opl.length (by omega)]
                exact lastEff_spec i (fun k hk hs => (hordE k hs).1 hk)
              have hxe : exs P opl st (fun k => listed.getD k false) opl.length = exs P opl st (fun _ => true) i := by
                rw [exs_upto (i := i) (fun k hk hs => ?_) opl.length (by omega)]
                · exact exs_same (fun k hk hs => by rcases hs with hs | hs; exact (hordE k hs).1 hk; exact (hordA k hs).1 hk)
                · rcases Nat.lt_or_ge i k with hlt | hge
                  · rcases hs with hs | hs
                    · exact (hordE k hs).2 hlt
                    · exact (hordA k hs).2 hlt
                  · have : k = i := by omega
                    subst this; exact hg.un
              unfold runAt at hdr
              split at hdr
              · rename_i cs' v bx' gn' hr1
                simp only [Option.some.injEq, Prod.mk.injEq] at hdr
                obtain ⟨rfl, e1, e2⟩ := hdr
                rw [← e2] at e1
                simp only [List.cons.injEq, Prod.mk.injEq, and_true] at e1
                obtain ⟨rfl, e1⟩ := e1
                have q3 := runV_local (fr' := frD opl st S.fr (fun k => listed.getD k false) opl.length) (fun x hx => local_ x hx _ _) (fun ha id hid => alOk_free hao hg.un hg.up ha id hid _ (Nat.le_refl _)) hr1
                have hr' := hr
                rw [hce, hxe] at hr'
                refine runV_sound q3 hcr hr' (fun G' a' w' k1 k2 k3 => next G' w' a' k1 k3 ?_)
                rw [putE] at k2
                rw [hb, exs_eff hoi (fun k hk hs => by rcases hs with hs | hs; exact (hordE k hs).2 hk; exact (hordA k hs).2 hk) _ hil, List.nil_append]
                simp only [Option.getD_some]
                rw [← e1]; exact k2
              · simp at hdr
            · rename_i hb
              split at hdr
              · rename_i hsq
                simp only [Bool.and_eq_true] at hsq
                obtain ⟨c', g1, g2⟩ := dRuns2_ok _ _ _ _ hdr hcr rfl
                obtain ⟨cs', q1, q2⟩ := dRuns_get g1 g2 cd hcd
                rw [← hbx] at q1
                have q3 := runV_local (fr' := frD opl st S.fr (fun k => listed.getD k false) opl.length) (fun x hx => local_ x hx _ _) (fun ha id hid => alOk_free hao hg.un hg.up ha id hid _ (Nat.le_refl _)) q1
                obtain ⟨_, _, q4⟩ := runV_more (exs_apart hal hst) hsq.1 hsq.2 q3
                refine runV_sound q4 q2 hr (fun G' a' w' k1 k2 k3 => next G' w' a' k1 k3 ?_)
                rw [putE] at k2
                rw [pureN hna (by rw [hout, hb]), hb]
                exact k2
              · simp at hdr
        unfold wpOp
        rw [hget i, h2]
        simp only
        cases hgd : o.guard with
        | none =>
          rw [if_pos (by simp [Region.wanted, hgd])]
          simp only [hgd] at hdo
          exact .inl (runs hdo hca)
        | some gw =>
          obtain ⟨j, want⟩ := gw
          simp only [hgd] at hdo
          have slot : ∀ sv, ((dstOf opl j).bind fun t => (frD opl st S.fr (fun _ => true) i)[t]?) = some sv → ∃ t u, (ops[j]?).bind (·.dst) = some t ∧ a.tmps[t]? = some u ∧ RepS G w sv u := by
            intro sv hsv
            cases hdj : dstOf opl j with
            | none => simp [hdj] at hsv
            | some t =>
              simp only [hdj, Option.bind_some] at hsv
              rw [← slot_same hg hil (by simp [looks, hgd, hdj])] at hsv
              have hrf := hr.fr t sv hsv
              have hlt : t < a.tmps.size := by
                rw [← hr.size]
                rcases Nat.lt_or_ge t (frD opl st S.fr (fun k => listed.getD k false) opl.length).length with h' | h'
                · exact h'
                · simp only [List.getElem?_eq_none h'] at hsv; simp at hsv
              refine ⟨t, a.tmps[t], ?_, by simp [hlt], ?_⟩
              · rw [hget j]; exact hdj
              · simpa [Array.getD_eq_getD_getElem?, hlt] using hrf
          have undefR : RepS G w undefS undef := by
            simp only [undefS, RepS, Rep]; exact ⟨#[], rfl, by simp [RepL]⟩
          have skip : Region.wanted o (yielded ops a.tmps) = false → s.v = undefS → s.out = none → alAt P opl i = none → (if Region.wanted o (yielded ops a.tmps) = true then o.wp P a w (wpAny P .any ops (lift Q G0 w0) fuel (listed.setIfInBounds i true)) (lift Q G0 w0) ∨ o.asks P a w ∧ LetsOut (lift Q G0 w0) else wpAny P .any ops (lift Q G0 w0) fuel (listed.setIfInBounds i true) (a.put o.dst undef) w) := by
            intro hw hv ho hna
            rw [hw]; simp only [Bool.false_eq_true, if_false]
            refine next G w _ (Step.refl G w) (fun _ _ => rfl) ?_
            rw [pureN hna (by rw [hout, ho]), ho]
            have := hr.put o.dst undefR
            rw [← hv, putE] at this
            exact this
          cases hgo : guardOk ((dstOf opl j).bind fun t => (frD opl st S.fr (fun _ => true) i)[t]?) want s.gd with
          | none => simp [hgo] at hdo
          | some pr =>
            obtain ⟨gcs, wn⟩ := pr
            rw [hgo] at hdo
            generalize hsv : ((dstOf opl j).bind fun t => (frD opl st S.fr (fun _ => true) i)[t]?) = osv at hgo slot
            unfold guardOk at hgo
            split at hgo
            · rename_i hgd2
              simp only [Option.some.injEq, Prod.mk.injEq] at hgo; obtain ⟨rfl, rfl⟩ := hgo
              obtain ⟨t, u, e1, e2, e3⟩ := slot _ rfl
              simp only [RepS, Rep] at e3
              obtain ⟨us, rfl, _⟩ := e3
              simp only at hdo
              split at hdo
              · rename_i hno hna
                simp only [Option.some.injEq, Prod.mk.injEq] at hdo
                obtain ⟨rfl, e4, e5⟩ := hdo
                rw [← e5] at e4
                simp only [List.cons.injEq, Prod.mk.injEq, and_true] at e4
                exact skip (by simp only [Region.wanted, hgd, yielded, e1, Option.bind_some, e2]; rfl) e4 hno hna
              · simp at hdo
            · rename_i b d hgd2
              simp only [Option.some.injEq, Prod.mk.injEq] at hgo; obtain ⟨rfl, rfl⟩ := hgo
              obtain ⟨t, u, e1, e2, e3⟩ := slot _ rfl
              simp only [RepS, Rep] at e3
              obtain ⟨rfl, _⟩ := e3
              cases hdw : (d == want) with
              | true =>
                simp only [hdw] at hdo
                cases hdr : dRun3 P opl st (masks opl []) (frD opl st S.fr (fun _ => true) i) (S.bx, S.gn) i o s with
                | none => simp [hdr] at hdo
                | some cr =>
                  obtain ⟨cr, v1, v2⟩ := cr
                  simp only [hdr, Option.some.injEq, Prod.mk.injEq] at hdo
                  obtain ⟨rfl, e4, e5⟩ := hdo
                  rw [e4, e5] at hdr
                  obtain ⟨hb, hcr⟩ := hca
                  subst hb
                  rw [if_pos (by simp only [Region.wanted, hgd, yielded, e1, Option.bind_some, e2]; simpa using hdw)]
                  exact .inl (runs hdr hcr)
              | false =>
                simp only [hdw] at hdo
                split at hdo
                · rename_i hno hna
                  simp only [Option.some.injEq, Prod.mk.injEq] at hdo
                  obtain ⟨rfl, e4, e5⟩ := hdo
                  rw [← e5] at e4
                  simp only [List.cons.injEq, Prod.mk.injEq, and_true] at e4
                  obtain ⟨hb, _⟩ := hca
                  subst hb
                  exact skip (by simp only [Region.wanted, hgd, yielded, e1, Option.bind_some, e2]; simpa using hdw) e4 hno hna
                · simp at hdo
            · simp at hgo
  refine main ops.size (Array.replicate ops.size false) G0 _ a0 (by simp) ?_ ?_ ?_ hstep0 (fun _ _ => rfl)
  · have : ∀ (L : Nat → Bool) m, left L m ≤ m := by
      intro L m
      induction m with
      | zero => simp [left]
      | succ m ih => simp only [left]; split <;> omega
    rw [hn]; exact this _ _
  · intro k ok hk hL
    simp only [Array.getD_eq_getD_getElem?, Array.getElem?_replicate] at hL
    split at hL <;> simp at hL
  · have hf : (fun k => (Array.replicate ops.size false).getD k false) = fun _ => false := by
      funext k; simp only [Array.getD_eq_getD_getElem?, Array.getElem?_replicate]; split <;> rfl
    rw [hf]
    have e1 : ∀ m, frD opl st S.fr (fun _ => false) m = S.fr := by
      intro m; induction m with
      | zero => rfl
      | succ m ih => simp [frD, ih]
    have e2 : ∀ m, bxD st (S.bx, S.gn) (fun _ => false) m = (S.bx, S.gn) := by
      intro m; induction m with
      | zero => rfl
      | succ m ih => simp [bxD, ih]
    have e3 : ∀ m, exs P opl st (fun _ => false) m = [] := by
      intro m; induction m with
      | zero => rfl
      | succ m ih => simp [exs, ih]
    rw [e1, e2, e3]
    exact hr0'
def mkDS3 (P : Program) (ds : List (Option Tmp)) : List Oper → List Oq → St → Option (List DS × List Oq)
  | [], ors, _ => some ([], ors)
  | o :: rest, ors, S => match (match o.guard with
      | none => some (ors, none, true)
      | some (j, want) => match guardSlot ds S j with
        | some (.av (.tup [])) => some (ors, none, false)
        | some (.av (.val (.bool _))) => match ors with
          | .o (.b d) :: ors => some (ors, some d, d == want)
          | _ => none
        | _ => none : Option (List Oq × Option Bool × Bool)) with
    | none => none
    | some (ors, gd, false) => match mkDS3 P ds rest ors (S.put o.dst undefS) with
      | some (l, r) => some (⟨[], gd, undefS, none⟩ :: l, r)
      | none => none
    | some (ors, gd, true) => match oneV P o ors S with
      | none => none
      | some (us, ors1, v, bx, gn) => match still o.op && quietL us with
        | true => match mkDS3 P ds rest ors1 (S.put o.dst v) with
          | some (l, r) => some (⟨us, gd, v, none⟩ :: l, r)
          | none => none
        | false => match mkDS3 P ds rest ors1 ((⟨S.fr, bx, gn⟩ : St).put o.dst v) with
          | some (l, r) => some (⟨us, gd, v, match isAlloc o.op with | true => none | false => some (bx, gn)⟩ :: l, r)
          | none => none
def drawOf3 (P : Program) (X : Cf) (ors : List Oq) : Option DrawR := match X with
  | some (_, _, .at (.region _ ops true) ks S) => match mkDS3 P (ops.toList.map (·.dst)) ops.toList ors S with
    | some (st, rest) => some ⟨ops.toList, st, S.fr, (S.bx, S.gn), ks, rest⟩
    | none => none
  | _ => none
def drawC3 (P : Program) (d : Option DrawR) : Option (List Prop × List VB × List VB) := match d with
  | some d => match (d.st.length == d.ops.length) && dStatic d.ops d.st (masks d.ops []) && alSt P d.ops d.st (masks d.ops []) d.b0 with
    | true => dAll3 P d.ops d.st (masks d.ops []) d.f0 d.b0 d.ops.length
    | false => none
  | none => none
def drawX3 (P : Program) (d : Option DrawR) (cs : List Prop) : Cf := match d with
  | some d => goK P d.ks (some (cs, d.rest, .fin .normal ⟨frD d.ops d.st d.f0 (fun _ => true) d.ops.length, exs P d.ops d.st (fun _ => true) d.ops.length ++ (bxD d.st d.b0 (fun _ => true) d.ops.length).1, (bxD d.st d.b0 (fun _ => true) d.ops.length).2⟩))
  | none => none
def drawCs3 (P : Program) (d : Option DrawR) : List Prop := match drawC3 P d with
  | some (cs, _) => cs
  | none => [False]
def drawL3 (P : Program) (d : Option DrawR) : List VB := match drawC3 P d with
  | some (_, x, _) => x
  | none => []
def drawRt3 (P : Program) (d : Option DrawR) : Option (List VB) := match drawC3 P d with
  | some (_, _, y) => some y
  | none => none
theorem DR3 {P : Program} {α : Type} {K : α → Exit → St → Prop} {M : α} {X : Cf} (oc : OC) (hm : P.follows .mixedOrders = true) (h : csOf (drawX3 P (drawOf3 P X oc.o) (drawCs3 P (drawOf3 P X oc.o))) = some oc.c) (he : drawRt3 P (drawOf3 P X oc.o) = some (drawL3 P (drawOf3 P X oc.o))) (hn : Nx P K M (drawX3 P (drawOf3 P X oc.o) (drawCs3 P (drawOf3 P X oc.o)))) : Nx P K M X := by
  obtain ⟨hn⟩ := hn
  cases hd : drawOf3 P X oc.o with
  | none => rw [hd] at h; simp [drawX3, csOf] at h
  | some d =>
    rw [hd] at h he hn
    unfold drawOf3 at hd
    split at hd
    · rename_i c0 o0 i ops ks S
      split at hd
      · rename_i st rest hmk
        simp only [Option.some.injEq] at hd
        subst hd
        cases hC : drawC3 P (some ⟨ops.toList, st, S.fr, (S.bx, S.gn), ks, rest⟩) with
        | none => unfold drawRt3 at he; rw [hC] at he; simp at he
        | some q =>
          obtain ⟨cs, x, y⟩ := q
          have exy : y = x := by unfold drawRt3 drawL3 at he; rw [hC] at he; simpa using he
          have ecs : drawCs3 P (some ⟨ops.toList, st, S.fr, (S.bx, S.gn), ks, rest⟩) = cs := by unfold drawCs3; rw [hC]
          rw [ecs] at h hn
          unfold drawC3 at hC
          simp only at hC
          split at hC
          · rename_i hst
            simp only [Bool.and_eq_true, beq_iff_eq] at hst
            unfold drawX3 at h hn
            simp only at h hn
            cases hk : goK P ks (some (cs, rest, .fin .normal ⟨frD ops.toList st S.fr (fun _ => true) ops.toList.length, exs P ops.toList st (fun _ => true) ops.toList.length ++ (bxD st (S.bx, S.gn) (fun _ => true) ops.toList.length).1, (bxD st (S.bx, S.gn) (fun _ => true) ops.toList.length).2⟩)) with
            | none => rw [hk] at h; simp [csOf] at h
            | some r =>
              obtain ⟨c2, o2, out2⟩ := r
              rw [hk] at h hn
              unfold csOf at h
              split at h
              · rename_i e2
                simp only [Option.some.injEq, Prod.mk.injEq] at e2 h
                obtain ⟨rfl, rfl, rfl⟩ := e2
                subst h
                obtain ⟨q1, q2⟩ := goK_sound (K M) ks _ _ _ _ _ _ hk (oc.h trivial) hn
                subst exy
                exact ⟨W_draw2 st hm hst.1.1 hst.1.2 hst.2 hC q1 q2⟩
              · simp at h
          · simp at hC
      · simp at hd
    · simp at hd
end Go.Eng
namespace Go.Eng
theorem wtr {S S' S'' : St} (h : Weak S S') (k : Weak S' S'') : Weak S S'' := fun G w a hr => k G w a (h G w a hr)
theorem ib (s : ByteArray) (i : Int) (h : 0 ≤ i ∧ i < ((ByteArray.size s : Nat) : Int)) : 0 ≤ i ∧ i < ((ByteArray.size s : Nat) : Int) := h
end Go.Eng
namespace Go.Proofs.YtcdfhagcchmnhaaGreatDoor
open Go Go.Eng
def el {α : Type} [Inhabited α] (l : List α) (i : Nat) : α := (l[i]?).getD default
def lenM {α : Type} (f : α → AV) (l : List α) : Nat := (l.map f).length
theorem lenM_eq {α : Type} (f : α → AV) (l : List α) : lenM f l = l.length := by simp [lenM]
theorem el_some {α : Type} [Inhabited α] {l : List α} {i : Nat} (h : i < l.length) : l[i]? = some (el l i) := by simp [el, h]
theorem el_mem {α : Type} [Inhabited α] {l : List α} {i : Nat} (h : i < l.length) : el l i ∈ l := List.mem_of_getElem? (el_some h)
theorem elx {α : Type} [Inhabited α] {f : α → AV} {l : List AV} {xs : List α} {i : Nat} {y : AV} (e : l = xs.map f) (h : i < xs.length) (hy : f (el xs i) = y) : 0 ≤ ((i : Nat) : Int) ∧ l[i]? = some y := by
  subst e hy; exact ⟨by omega, by simp [el_some h]⟩
def w1 {α : Type} (_ : α) : Nat := 1
def wStr (s : ByteArray) : Nat := s.size + 1
def wl {α : Type} (w : α → Nat) : List α → Nat
  | [] => 0
  | x :: l => w x + wl w l
theorem wl_append {α : Type} (w : α → Nat) : ∀ a b : List α, wl w (a ++ b) = wl w a + wl w b
  | [], b => by simp [wl]
  | x :: a, b => by simp [wl, wl_append w a b]; omega
theorem wl_mem {α : Type} {w : α → Nat} : ∀ {l : List α} {x : α}, x ∈ l → w x ≤ wl w l
  | y :: l, x, h => by
    simp only [List.mem_cons] at h
    rcases h with rfl | h
    · simp [wl]
    · have := wl_mem (w := w) h; simp [wl]; omega
theorem wl_el {α : Type} [Inhabited α] {w : α → Nat} {l : List α} {i : Nat} (h : i < l.length) : w (el l i) ≤ wl w l := wl_mem (el_mem h)
theorem wl_len {α : Type} {w : α → Nat} (hw : ∀ x, 1 ≤ w x) : ∀ l : List α, l.length ≤ wl w l
  | [] => by simp
  | x :: l => by have := wl_len hw l; have := hw x; simp [wl]; omega
def quo (k : IntKind) (a b : Int) : Int := k.wrap (a.tdiv b)
theorem el_strAV (xs : List ByteArray) (i : Nat) (h : i < xs.length) : 0 ≤ ((i : Nat) : Int) ∧ (xs.map strAV)[i]? = some (strAV (el xs i)) := elx rfl h rfl
theorem uni_strAV (l : List ByteArray) : Uni 1 (l.map strAV) := by intro y hy; simp only [List.mem_map] at hy; obtain ⟨x, _, rfl⟩ := hy; exact ⟨rfl, rfl⟩
theorem size_eqs_t {s : ByteArray} (h : eqs s ⟨#[]⟩ = true) : s.size = 0 := by simp [eqs] at h; simp [ByteArray.size, h]
theorem size_eqs_f {s : ByteArray} (h : eqs s ⟨#[]⟩ = false) : 0 < s.size := by
  obtain ⟨⟨l⟩⟩ := s
  cases l with
  | nil => exact absurd h (by decide)
  | cons x l => show 0 < (x :: l).length; simp
theorem size_neqs_t {s : ByteArray} (h : (!eqs s ⟨#[]⟩) = true) : 0 < s.size := size_eqs_f (by simpa using h)
theorem size_neqs_f {s : ByteArray} (h : (!eqs s ⟨#[]⟩) = false) : s.size = 0 := size_eqs_t (by simpa using h)
theorem quo_eq (a b : Int) (hb : 0 < b) (hb2 : b ≤ 1000000) : 0 ≤ a → a ≤ 4611686018427387904 → quo .i64 a b = a / b := by
  intro h1 h2
  have h3 : a / b ≤ a := Int.ediv_le_self _ h1
  have h4 : 0 ≤ a / b := Int.ediv_nonneg h1 (by omega)
  unfold quo; rw [Int.tdiv_eq_ediv_of_nonneg h1, wrap_i64 (by omega) (by omega)]
theorem ap1 {α : Type} (f : α → AV) (xs : List α) (y : α) : xs.map f ++ [f y] = (xs ++ [y]).map f := by simp
theorem apL {α : Type} (f : α → AV) (xs ys : List α) : xs.map f ++ ys.map f = (xs ++ ys).map f := by simp
theorem cutL {α : Type} (f : α → AV) (xs : List α) (i n : Nat) : (List.drop i (xs.map f)).take n = ((List.drop i xs).take n).map f := by simp [List.map_take, List.map_drop]
theorem wStr_pos (s : ByteArray) : 1 ≤ wStr s := by simp [wStr]
structure DPair where
  fKey : ByteArray
  fValue : ByteArray
instance : Inhabited DPair := ⟨⟨⟨#[]⟩, ⟨#[]⟩⟩⟩
def aPair (x : DPair) : AV := .agg [(vS (x.fKey)), (vS (x.fValue))]
def wPair (x : DPair) : Nat := 1 + wStr x.fKey + wStr x.fValue
theorem aPair_eq (x : DPair) : aPair x = .agg [(vS (x.fKey)), (vS (x.fValue))] := rfl
theorem wPair_eq (x : DPair) : wPair x = 1 + wStr x.fKey + wStr x.fValue := rfl
theorem el_aPair (xs : List DPair) (i : Nat) (h : i < xs.length) : 0 ≤ ((i : Nat) : Int) ∧ (xs.map aPair)[i]? = some (aPair (el xs i)) := elx rfl h rfl
theorem uni_aPair (l : List DPair) : Uni 2 (l.map aPair) := by intro y hy; simp only [List.mem_map] at hy; obtain ⟨x, _, rfl⟩ := hy; rw [aPair_eq]; exact ⟨rfl, rfl⟩
theorem wPair_pos (x : DPair) : 1 ≤ wPair x := by rw [wPair_eq]; omega
structure DAttr where
  fID : ByteArray
  fClasses : List ByteArray
  fPairs : List DPair
instance : Inhabited DAttr := ⟨⟨⟨#[]⟩, [], []⟩⟩
def wAttr (x : DAttr) : Nat := 1 + wStr x.fID + (wl wStr) x.fClasses + (wl wPair) x.fPairs
theorem wAttr_eq (x : DAttr) : wAttr x = 1 + wStr x.fID + (wl wStr) x.fClasses + (wl wPair) x.fPairs := rfl
def cAttr (x : DAttr) : AV := .agg [(vS (x.fID)), (.sl ((x.fClasses).map strAV)), (.sl ((x.fPairs).map aPair))]
def sAttr (x : DAttr) : List SV := [(jS (x.fID)), (jL ((x.fClasses).map strAV)), (jL ((x.fPairs).map aPair))]
structure DCited where
  fKey : ByteArray
  fPrefix : ByteArray
  fSuffix : ByteArray
  fBare : Bool
instance : Inhabited DCited := ⟨⟨⟨#[]⟩, ⟨#[]⟩, ⟨#[]⟩, false⟩⟩
def aCited (x : DCited) : AV := .agg [(vS (x.fKey)), (vS (x.fPrefix)), (vS (x.fSuffix)), (vB (x.fBare))]
def wCited (x : DCited) : Nat := 1 + wStr x.fKey + wStr x.fPrefix + wStr x.fSuffix + w1 x.fBare
theorem aCited_eq (x : DCited) : aCited x = .agg [(vS (x.fKey)), (vS (x.fPrefix)), (vS (x.fSuffix)), (vB (x.fBare))] := rfl
theorem wCited_eq (x : DCited) : wCited x = 1 + wStr x.fKey + wStr x.fPrefix + wStr x.fSuffix + w1 x.fBare := rfl
theorem el_aCited (xs : List DCited) (i : Nat) (h : i < xs.length) : 0 ≤ ((i : Nat) : Int) ∧ (xs.map aCited)[i]? = some (aCited (el xs i)) := elx rfl h rfl
theorem uni_aCited (l : List DCited) : Uni 4 (l.map aCited) := by intro y hy; simp only [List.mem_map] at hy; obtain ⟨x, _, rfl⟩ := hy; rw [aCited_eq]; exact ⟨rfl, rfl⟩
theorem wCited_pos (x : DCited) : 1 ≤ wCited x := by rw [wCited_eq]; omega
structure DInline where
  fKind : Int
  fText : ByteArray
  fDest : ByteArray
  fTitle : ByteArray
  fAttr : DAttr
  fArgs : List ByteArray
  fCites : List DCited
  fKids : List DInline
instance : Inhabited DInline := ⟨⟨0, ⟨#[]⟩, ⟨#[]⟩, ⟨#[]⟩, ⟨⟨#[]⟩, [], []⟩, [], [], []⟩⟩
mutual
def aInline : DInline → AV
  | ⟨y0, y1, y2, y3, y4, y5, y6, y7⟩ => .agg [(vI (y0)), (vS (y1)), (vS (y2)), (vS (y3)), (vS ((y4).fID)), (.sl (((y4).fClasses).map strAV)), (.sl (((y4).fPairs).map aPair)), (.sl ((y5).map strAV)), (.sl ((y6).map aCited)), (.sl (aInlines y7))]
def aInlines : List DInline → List AV
  | [] => []
  | x :: l => aInline x :: aInlines l
end
mutual
def wInline : DInline → Nat
  | ⟨y0, y1, y2, y3, y4, y5, y6, y7⟩ => 1 + w1 y0 + wStr y1 + wStr y2 + wStr y3 + wAttr y4 + (wl wStr) y5 + (wl wCited) y6 + wInlines y7
def wInlines : List DInline → Nat
  | [] => 0
  | x :: l => wInline x + wInlines l
end
theorem aInlines_map : ∀ l, aInlines l = l.map aInline
  | [] => rfl
  | x :: l => by rw [aInlines, aInlines_map l]; rfl
theorem wInlines_wl : ∀ l, wInlines l = wl wInline l
  | [] => rfl
  | x :: l => by rw [wInlines, wInlines_wl l]; rfl
theorem aInline_eq (x : DInline) : aInline x = .agg [(vI (x.fKind)), (vS (x.fText)), (vS (x.fDest)), (vS (x.fTitle)), (vS ((x.fAttr).fID)), (.sl (((x.fAttr).fClasses).map strAV)), (.sl (((x.fAttr).fPairs).map aPair)), (.sl ((x.fArgs).map strAV)), (.sl ((x.fCites).map aCited)), (.sl ((x.fKids).map aInline))] := by cases x; rw [aInline, aInlines_map]
theorem wInline_eq (x : DInline) : wInline x = 1 + w1 x.fKind + wStr x.fText + wStr x.fDest + wStr x.fTitle + wAttr x.fAttr + (wl wStr) x.fArgs + (wl wCited) x.fCites + (wl wInline) x.fKids := by cases x; rw [wInline, wInlines_wl]
def cInline (x : DInline) : AV := .agg [(vI (x.fKind)), (vS (x.fText)), (vS (x.fDest)), (vS (x.fTitle)), (vS ((x.fAttr).fID)), (.sl (((x.fAttr).fClasses).map strAV)), (.sl (((x.fAttr).fPairs).map aPair)), (.sl ((x.fArgs).map strAV)), (.sl ((x.fCites).map aCited)), (.sl ((x.fKids).map aInline))]
def sInline (x : DInline) : List SV := [(jI (x.fKind)), (jS (x.fText)), (jS (x.fDest)), (jS (x.fTitle)), (jS ((x.fAttr).fID)), (jL (((x.fAttr).fClasses).map strAV)), (jL (((x.fAttr).fPairs).map aPair)), (jL ((x.fArgs).map strAV)), (jL ((x.fCites).map aCited)), (jL ((x.fKids).map aInline))]
theorem el_aInline (xs : List DInline) (i : Nat) (h : i < xs.length) : 0 ≤ ((i : Nat) : Int) ∧ (xs.map aInline)[i]? = some (cInline (el xs i)) := elx rfl h (aInline_eq _)
theorem uni_aInline (l : List DInline) : Uni 10 (l.map aInline) := by intro y hy; simp only [List.mem_map] at hy; obtain ⟨x, _, rfl⟩ := hy; rw [aInline_eq]; exact ⟨rfl, rfl⟩
theorem ap1_aInline (xs : List DInline) (y : DInline) : xs.map aInline ++ [cInline y] = (xs ++ [y]).map aInline := by simp [aInline_eq y, cInline]
theorem wInline_pos (x : DInline) : 1 ≤ wInline x := by rw [wInline_eq]; omega
structure DBlock where
  fKind : Int
  fLevel : Int
  fInfo : ByteArray
  fText : ByteArray
  fDest : ByteArray
  fTitle : ByteArray
  fAttr : DAttr
  fLine : List DInline
  fKids : List DBlock
instance : Inhabited DBlock := ⟨⟨0, 0, ⟨#[]⟩, ⟨#[]⟩, ⟨#[]⟩, ⟨#[]⟩, ⟨⟨#[]⟩, [], []⟩, [], []⟩⟩
mutual
def aBlock : DBlock → AV
  | ⟨y0, y1, y2, y3, y4, y5, y6, y7, y8⟩ => .agg [(vI (y0)), (vI (y1)), (vS (y2)), (vS (y3)), (vS (y4)), (vS (y5)), (vS ((y6).fID)), (.sl (((y6).fClasses).map strAV)), (.sl (((y6).fPairs).map aPair)), (.sl ((y7).map aInline)), (.sl (aBlocks y8))]
def aBlocks : List DBlock → List AV
  | [] => []
  | x :: l => aBlock x :: aBlocks l
end
mutual
def wBlock : DBlock → Nat
  | ⟨y0, y1, y2, y3, y4, y5, y6, y7, y8⟩ => 1 + w1 y0 + w1 y1 + wStr y2 + wStr y3 + wStr y4 + wStr y5 + wAttr y6 + (wl wInline) y7 + wBlocks y8
def wBlocks : List DBlock → Nat
  | [] => 0
  | x :: l => wBlock x + wBlocks l
end
theorem aBlocks_map : ∀ l, aBlocks l = l.map aBlock
  | [] => rfl
  | x :: l => by rw [aBlocks, aBlocks_map l]; rfl
theorem wBlocks_wl : ∀ l, wBlocks l = wl wBlock l
  | [] => rfl
  | x :: l => by rw [wBlocks, wBlocks_wl l]; rfl
theorem aBlock_eq (x : DBlock) : aBlock x = .agg [(vI (x.fKind)), (vI (x.fLevel)), (vS (x.fInfo)), (vS (x.fText)), (vS (x.fDest)), (vS (x.fTitle)), (vS ((x.fAttr).fID)), (.sl (((x.fAttr).fClasses).map strAV)), (.sl (((x.fAttr).fPairs).map aPair)), (.sl ((x.fLine).map aInline)), (.sl ((x.fKids).map aBlock))] := by cases x; rw [aBlock, aBlocks_map]
theorem wBlock_eq (x : DBlock) : wBlock x = 1 + w1 x.fKind + w1 x.fLevel + wStr x.fInfo + wStr x.fText + wStr x.fDest + wStr x.fTitle + wAttr x.fAttr + (wl wInline) x.fLine + (wl wBlock) x.fKids := by cases x; rw [wBlock, wBlocks_wl]
def cBlock (x : DBlock) : AV := .agg [(vI (x.fKind)), (vI (x.fLevel)), (vS (x.fInfo)), (vS (x.fText)), (vS (x.fDest)), (vS (x.fTitle)), (vS ((x.fAttr).fID)), (.sl (((x.fAttr).fClasses).map strAV)), (.sl (((x.fAttr).fPairs).map aPair)), (.sl ((x.fLine).map aInline)), (.sl ((x.fKids).map aBlock))]
def sBlock (x : DBlock) : List SV := [(jI (x.fKind)), (jI (x.fLevel)), (jS (x.fInfo)), (jS (x.fText)), (jS (x.fDest)), (jS (x.fTitle)), (jS ((x.fAttr).fID)), (jL (((x.fAttr).fClasses).map strAV)), (jL (((x.fAttr).fPairs).map aPair)), (jL ((x.fLine).map aInline)), (jL ((x.fKids).map aBlock))]
theorem el_aBlock (xs : List DBlock) (i : Nat) (h : i < xs.length) : 0 ≤ ((i : Nat) : Int) ∧ (xs.map aBlock)[i]? = some (cBlock (el xs i)) := elx rfl h (aBlock_eq _)
theorem uni_aBlock (l : List DBlock) : Uni 11 (l.map aBlock) := by intro y hy; simp only [List.mem_map] at hy; obtain ⟨x, _, rfl⟩ := hy; rw [aBlock_eq]; exact ⟨rfl, rfl⟩
theorem ap1_aBlock (xs : List DBlock) (y : DBlock) : xs.map aBlock ++ [cBlock y] = (xs ++ [y]).map aBlock := by simp [aBlock_eq y, cBlock]
theorem wBlock_pos (x : DBlock) : 1 ≤ wBlock x := by rw [wBlock_eq]; omega
structure DDoc where
  fMeta : List DPair
  fBlocks : List DBlock
instance : Inhabited DDoc := ⟨⟨[], []⟩⟩
def wDoc (x : DDoc) : Nat := 1 + (wl wPair) x.fMeta + (wl wBlock) x.fBlocks
theorem wDoc_eq (x : DDoc) : wDoc x = 1 + (wl wPair) x.fMeta + (wl wBlock) x.fBlocks := rfl
def cDoc (x : DDoc) : AV := .agg [(.sl ((x.fMeta).map aPair)), (.sl ((x.fBlocks).map aBlock))]
def sDoc (x : DDoc) : List SV := [(jL ((x.fMeta).map aPair)), (jL ((x.fBlocks).map aBlock))]
structure DMacro where
  fName : ByteArray
  fArgs : List ByteArray
  fBody : List DBlock
instance : Inhabited DMacro := ⟨⟨⟨#[]⟩, [], []⟩⟩
def aMacro (x : DMacro) : AV := .agg [(vS (x.fName)), (.sl ((x.fArgs).map strAV)), (.sl ((x.fBody).map aBlock))]
theorem el_aMacro (xs : List DMacro) (i : Nat) (h : i < xs.length) : 0 ≤ ((i : Nat) : Int) ∧ (xs.map aMacro)[i]? = some (aMacro (el xs i)) := elx rfl h rfl
end Go.Proofs.YtcdfhagcchmnhaaGreatDoor
namespace Go.Proofs.YtcdfhagcchmnhaaGreatDoor
open Go Go.Eng
def getR_L0 (a : DAttr) (key : ByteArray) : Nat → Nat → (ByteArray × Bool)
  | 0, _ => default
  | n0 + 1, v6 => cond (decide ((((v6 : Nat) : Int) : Int) < ((lenM aPair a.fPairs : Nat) : Int))) (cond (eqs ((el a.fPairs v6).fKey) (key)) (((el a.fPairs v6).fValue, true)) (getR_L0 a key n0 (v6 + 1))) ((⟨#[]⟩, false))
def getR (a : DAttr) (key : ByteArray) : (ByteArray × Bool) := getR_L0 a key ((List.length a.fPairs - (0)) + 1) 0
set_option maxRecDepth 100000 in
set_option maxHeartbeats 4000000 in
theorem getR_to (a : DAttr) (key : ByteArray) (ha : a.fPairs.length ≤ 1073741824) : CallTo Tryz.prog 45 [(.av (cAttr a)), (jS (key))] [] [] (.av (.tup [(vS ((getR a key).1)), (vB ((getR a key).2))])) [] [] := by
  refine BEG (fun r : (ByteArray × Bool) => (.av (.tup [(vS (r.1)), (vB (r.2))]))) (getR a key) Tryz.func45 (by kernel_rfl) ?_
  refine UF (getR.eq_1 ..) ?_
  refine GO (tn 4 z) (by kernel_rfl) ?_
  refine LP (fun N M S => ∃ v6 : Nat, (List.length a.fPairs - v6 < N) ∧ M = getR_L0 a key N v6 ∧ S = (sx 28 [(1, (jS (key))), (2, (.ptr 2 0)), (6, (jI (((v6 : Nat) : Int))))] [(2, (.cells 41 (sAttr a)))] [])) (by kernel_rfl) ⟨_, by omega, rfl, rfl⟩ (WK (by kernel_rfl)) ?_
  rintro n0 M S ⟨v6, hF0, rfl, rfl⟩
  obtain ⟨n0, rfl⟩ : ∃ k, n0 = k + 1 := ⟨n0 - 1, by omega⟩
  refine UF (getR_L0.eq_2 ..) ?_
  refine GO (tn 5 z) (by kernel_rfl) ?_
  refine CSd (fun h1p h1 => ?_) (fun h1p h1 => ?_)
  · have := lenM_eq aPair a.fPairs
    refine GO (kb h1 (tn 3 (ke (el_aPair a.fPairs v6 (by first | omega | (simp only [lenM_eq, true_and]; omega))) (tn 4 z)))) (by kernel_rfl) ?_
    refine CS (fun h2 => ?_) (fun h2 => ?_)
    · refine GO (kb h2 (tn 3 (ke (el_aPair a.fPairs v6 (by first | omega | (simp only [lenM_eq, true_and]; omega))) (tn 4 z)))) (by kernel_rfl) ?_
      refine OUT z (by kernel_rfl) ?_
      exact EN (by kernel_rfl)
    · refine GO (kb h2 (tn 1 (kn (wrE ((((v6 : Nat) : Int)) + 1) (((v6 + 1 : Nat) : Int)) (by omega)) (tn 1 z)))) (by kernel_rfl) ?_
      exact AG ⟨_, by omega, rfl, rfl⟩ (WK (by kernel_rfl)) (by kernel_rfl) (Nat.lt_succ_self _)
  · have := lenM_eq aPair a.fPairs
    refine GO (kb h1 z) (by kernel_rfl) ?_
    refine OUT (tn 2 z) (by kernel_rfl) ?_
    exact EN (by kernel_rfl)
def getP_L0 (a : DAttr) (key : ByteArray) : Nat → Nat → (ByteArray × Bool)
  | 0, _ => default
  | n0 + 1, v11 => cond (decide ((((v11 : Nat) : Int) : Int) < ((lenM aPair a.fPairs : Nat) : Int))) (cond (eqs ((el a.fPairs v11).fKey) (key)) (((el a.fPairs v11).fValue, true)) (getP_L0 a key n0 (v11 + 1))) ((⟨#[]⟩, false))
def getP (a : DAttr) (key : ByteArray) : (ByteArray × Bool) := getP_L0 a key ((List.length a.fPairs - (0)) + 1) 0
set_option maxRecDepth 100000 in
set_option maxHeartbeats 4000000 in
theorem getP_to (a : DAttr) (key : ByteArray) (ha : a.fPairs.length ≤ 1073741824) : CallTo Tryz.prog 68 [(.av (cAttr a)), (jS (key))] [] [] (.av (.tup [(vS ((getP a key).1)), (vB ((getP a key).2))])) [] [] := by
  refine BEG (fun r : (ByteArray × Bool) => (.av (.tup [(vS (r.1)), (vB (r.2))]))) (getP a key) Tryz.func68 (by kernel_rfl) ?_
  refine UF (getP.eq_1 ..) ?_
  refine GO (tn 7 z) (by kernel_rfl) ?_
  refine LP (fun N M S => ∃ v11 : Nat, (List.length a.fPairs - v11 < N) ∧ M = getP_L0 a key N v11 ∧ S = (sx 22 [(1, (jS (key))), (9, (jL (a.fPairs.map aPair))), (10, (jI (((lenM aPair a.fPairs : Nat) : Int)))), (11, (jI (((v11 : Nat) : Int))))] [] [])) (by kernel_rfl) ⟨_, by omega, rfl, rfl⟩ (WK (by kernel_rfl)) ?_
  rintro n0 M S ⟨v11, hF0, rfl, rfl⟩
  obtain ⟨n0, rfl⟩ : ∃ k, n0 = k + 1 := ⟨n0 - 1, by omega⟩
  refine UF (getP_L0.eq_2 ..) ?_
  refine GO (tn 1 z) (by kernel_rfl) ?_
  refine CSd (fun h1p h1 => ?_) (fun h1p h1 => ?_)
  · have := lenM_eq aPair a.fPairs
    refine GO (kb h1 (ke (el_aPair a.fPairs v11 (by first | omega | (simp only [lenM_eq, true_and]; omega))) (tn 7 z))) (by kernel_rfl) ?_
    refine CS (fun h2 => ?_) (fun h2 => ?_)
    · refine GO (kb h2 (tn 4 z)) (by kernel_rfl) ?_
      refine OUT z (by kernel_rfl) ?_
      exact EN (by kernel_rfl)
    · refine GO (kb h2 (kn (wrE ((((v11 : Nat) : Int)) + 1) (((v11 + 1 : Nat) : Int)) (by omega)) (tn 1 z))) (by kernel_rfl) ?_
      exact AG ⟨_, by omega, rfl, rfl⟩ (WK (by kernel_rfl)) (by kernel_rfl) (Nat.lt_succ_self _)
  · have := lenM_eq aPair a.fPairs
    refine GO (kb h1 z) (by kernel_rfl) ?_
    refine OUT (tn 2 z) (by kernel_rfl) ?_
    exact EN (by kernel_rfl)
def letA (b : Int) : Bool := cond (cond (decide ((b : Int) ≥ 97)) (decide ((b : Int) ≤ 122)) (false)) (true) (cond (decide ((b : Int) ≥ 65)) (decide ((b : Int) ≤ 90)) (false))
set_option maxRecDepth 100000 in
set_option maxHeartbeats 4000000 in
theorem letA_to (b : Int) : CallTo Tryz.prog 75 [(.av (.val (.int .u8 (b))))] [] [] (jB (letA b)) [] [] := by
  refine BEG (fun r : Bool => (jB (r))) (letA b) Tryz.func75 (by kernel_rfl) ?_
  refine UF (letA.eq_1 ..) ?_
  refine GO (tn 4 (kj (decide ((b : Int) ≥ 97)) (tn 2 z) z (tn 1 (kj (cond (decide ((b : Int) ≥ 97)) (decide ((b : Int) ≤ 122)) (false)) z (tn 3 (kj (decide ((b : Int) ≥ 65)) (tn 2 z) z z)) (tn 1 z))))) (by kernel_rfl) ?_
  exact EN (by kernel_rfl)
def inN (b : Int) : Bool := cond (cond (((b : Int) == 45)) (((b : Int) == 45)) (cond (((b : Int) == 95)) (((b : Int) == 95)) (cond (((b : Int) == 46)) (((b : Int) == 46)) (((b : Int) == 58))))) (true) (cond (letA b) (true) (cond (decide ((b : Int) ≥ 48)) (decide ((b : Int) ≤ 57)) (false)))
set_option maxRecDepth 100000 in
set_option maxHeartbeats 4000000 in
theorem inN_to (b : Int) : CallTo Tryz.prog 92 [(.av (.val (.int .u8 (b))))] [] [] (jB (inN b)) [] [] := by
  refine BEG (fun r : Bool => (jB (r))) (inN b) Tryz.func92 (by kernel_rfl) ?_
  refine UF (inN.eq_1 ..) ?_
  refine GO (tn 4 (ks (((b : Int) == 45)) [4] z (tn 2 (ks (((b : Int) == 95)) [4] z (tn 2 (ks (((b : Int) == 46)) [4] z (tn 2 z) z)) z)) z)) (by kernel_rfl) ?_
  refine CS (fun h1 => ?_) (fun h1 => ?_)
  · refine GO (kb h1 (tn 1 z)) (by kernel_rfl) ?_
    exact EN (by kernel_rfl)
  · refine GO (kb h1 (tn 1 (kc (letA_to b) (tn 1 (kj (letA b) z (tn 3 (kj (decide ((b : Int) ≥ 48)) (tn 2 z) z z)) (tn 1 z)))))) (by kernel_rfl) ?_
    exact EN (by kernel_rfl)
def wrdA_L0 (s : ByteArray) (i : Int) : Nat → Int → Int
  | 0, _ => default
  | n0 + 1, v1 => cond (cond (decide ((v1 : Int) < ((ByteArray.size (s) : Nat) : Int))) (inN (((byt (s) (Int.toNat (v1)) : Nat) : Int))) (false)) (wrdA_L0 s i n0 (v1 + 1)) (v1)
def wrdA (s : ByteArray) (i : Int) : Int := wrdA_L0 s i ((s.size - Int.toNat (i)) + 1) i
set_option maxRecDepth 100000 in
set_option maxHeartbeats 4000000 in
theorem wrdA_to (s : ByteArray) (i : Int) (hs : s.size ≤ 1073741824) (h0 : 0 ≤ i) (h1 : i ≤ 1073741833) : CallTo Tryz.prog 76 [(jS (s)), (jI (i))] [] [] (jI (wrdA s i)) [] [] := by
  refine BEG (fun r : Int => (jI (r))) (wrdA s i) Tryz.func76 (by kernel_rfl) ?_
  refine UF (wrdA.eq_1 ..) ?_
  refine GO (tn 1 z) (by kernel_rfl) ?_
  refine LP (fun N M S => ∃ v1 : Int, (0 ≤ v1) ∧ (v1 ≤ 1073741833) ∧ (s.size - Int.toNat v1 < N) ∧ M = wrdA_L0 s i N v1 ∧ S = (sx 18 [(0, (jS (s))), (1, (jI (v1)))] [] [])) (by kernel_rfl) ⟨_, by first | omega | assumption | (simp only [lenM_eq]; omega) | (simp; done) | (simp; omega), by first | omega | assumption | (simp only [lenM_eq]; omega) | (simp; done) | (simp; omega), by omega, rfl, rfl⟩ (WK (by kernel_rfl)) ?_
  rintro n0 M S ⟨v1, hv, hb, hF0, rfl, rfl⟩
  obtain ⟨n0, rfl⟩ : ∃ k, n0 = k + 1 := ⟨n0 - 1, by omega⟩
  refine UF (wrdA_L0.eq_2 ..) ?_
  refine GO (tn 5 (kj (decide ((v1 : Int) < ((ByteArray.size (s) : Nat) : Int))) (tn 2 (hp (fun h => by have j0 := h.2; have j0p := of_decide_eq_true j0; exact (ib (s) (v1) (by omega))) (hc (fun h => by have j0 := h.2; have j0p := of_decide_eq_true j0; exact (inN_to (((byt (s) (Int.toNat (v1)) : Nat) : Int)))) z))) z z)) (by kernel_rfl) ?_
  refine CS (fun h1 => ?_) (fun h1 => ?_)
  · obtain ⟨h1a, h1o⟩ := cond_ff h1
    have h1ap := of_decide_eq_true h1a
    refine GO (kb h1 (tn 1 (kn (wrE ((v1) + 1) (v1 + 1) (by omega)) (tn 1 z)))) (by kernel_rfl) ?_
    exact AG ⟨_, by first | omega | assumption | (simp only [lenM_eq]; omega) | (simp; done) | (simp; omega), by first | omega | assumption | (simp only [lenM_eq]; omega) | (simp; done) | (simp; omega), by omega, rfl, rfl⟩ (WK (by kernel_rfl)) (by kernel_rfl) (Nat.lt_succ_self _)
  · refine GO (kb h1 z) (by kernel_rfl) ?_
    refine OUT (tn 2 z) (by kernel_rfl) ?_
    exact EN (by kernel_rfl)
def namA (s : ByteArray) : Bool := cond (cond (cond (((((ByteArray.size (s) : Nat) : Int) : Int) == 0)) (true) (decide ((((ByteArray.size (s) : Nat) : Int) : Int) > 60))) (true) ((!letA (((byt (s) (0) : Nat) : Int))))) (false) (((wrdA s 0 : Int) == ((ByteArray.size (s) : Nat) : Int)))
set_option maxRecDepth 100000 in
set_option maxHeartbeats 4000000 in
theorem namA_to (s : ByteArray) (hs : s.size ≤ 1073741824) : CallTo Tryz.prog 56 [(jS (s))] [] [] (jB (namA s)) [] [] := by
  refine BEG (fun r : Bool => (jB (r))) (namA s) Tryz.func56 (by kernel_rfl) ?_
  refine UF (namA.eq_1 ..) ?_
  refine GO (tn 5 (kj (((((ByteArray.size (s) : Nat) : Int) : Int) == 0)) z (tn 3 z) (tn 1 (kj (cond (((((ByteArray.size (s) : Nat) : Int) : Int) == 0)) (true) (decide ((((ByteArray.size (s) : Nat) : Int) : Int) > 60))) z (tn 1 (hp (fun h => by have j0 := h.2; obtain ⟨j0a, j0o⟩ := cond_tt j0; have j0ap := ne_of_beq_false j0a; have j0op := of_decide_eq_false j0o; exact (ib (s) (0) (by omega))) (hc (fun h => by have j0 := h.2; obtain ⟨j0a, j0o⟩ := cond_tt j0; have j0ap := ne_of_beq_false j0a; have j0op := of_decide_eq_false j0o; exact (letA_to (((byt (s) (0) : Nat) : Int)))) (tn 1 z)))) z)))) (by kernel_rfl) ?_
  refine CS (fun h1 => ?_) (fun h1 => ?_)
  · refine GO (kb h1 (tn 1 z)) (by kernel_rfl) ?_
    exact EN (by kernel_rfl)
  · obtain ⟨h1a, h1o⟩ := cond_tt h1
    obtain ⟨h1aa, h1ao⟩ := cond_tt h1a
    have h1aap := ne_of_beq_false h1aa
    have h1aop := of_decide_eq_false h1ao
    have h1on := notf h1o
    refine GO (kb h1 (tn 1 (kc (wrdA_to s 0 (by first | assumption | omega | decide | (simp; done) | (simp; omega)) (by first | assumption | omega | decide | (simp; done) | (simp; omega)) (by first | assumption | omega | decide | (simp; done) | (simp; omega))) (tn 4 z)))) (by kernel_rfl) ?_
    exact EN (by kernel_rfl)
def letC (c : Int) : Bool := cond (cond (decide ((c : Int) ≥ 97)) (decide ((c : Int) ≤ 122)) (false)) (true) (cond (decide ((c : Int) ≥ 65)) (decide ((c : Int) ≤ 90)) (false))
set_option maxRecDepth 100000 in
set_option maxHeartbeats 4000000 in
theorem letC_to (c : Int) : CallTo Tryz.prog 90 [(.av (.val (.int .u8 (c))))] [] [] (jB (letC c)) [] [] := by
  refine BEG (fun r : Bool => (jB (r))) (letC c) Tryz.func90 (by kernel_rfl) ?_
  refine UF (letC.eq_1 ..) ?_
  refine GO (tn 4 (kj (decide ((c : Int) ≥ 97)) (tn 2 z) z (tn 1 (kj (cond (decide ((c : Int) ≥ 97)) (decide ((c : Int) ≤ 122)) (false)) z (tn 3 (kj (decide ((c : Int) ≥ 65)) (tn 2 z) z z)) (tn 1 z))))) (by kernel_rfl) ?_
  exact EN (by kernel_rfl)
def partC (c : Int) : Bool := cond (cond (cond (cond (cond (letC c) (true) (cond (decide ((c : Int) ≥ 48)) (decide ((c : Int) ≤ 57)) (false))) (true) (((c : Int) == 45))) (true) (((c : Int) == 95))) (true) (((c : Int) == 46))) (true) (((c : Int) == 58))
set_option maxRecDepth 100000 in
set_option maxHeartbeats 4000000 in
theorem partC_to (c : Int) : CallTo Tryz.prog 106 [(.av (.val (.int .u8 (c))))] [] [] (jB (partC c)) [] [] := by
  refine BEG (fun r : Bool => (jB (r))) (partC c) Tryz.func106 (by kernel_rfl) ?_
  refine UF (partC.eq_1 ..) ?_
  refine GO (tn 2 (kc (letC_to c) (tn 1 (kj (letC c) z (tn 3 (kj (decide ((c : Int) ≥ 48)) (tn 2 z) z z)) (tn 1 (kj (cond (letC c) (true) (cond (decide ((c : Int) ≥ 48)) (decide ((c : Int) ≤ 57)) (false))) z (tn 2 z) (tn 1 (kj (cond (cond (letC c) (true) (cond (decide ((c : Int) ≥ 48)) (decide ((c : Int) ≤ 57)) (false))) (true) (((c : Int) == 45))) z (tn 2 z) (tn 1 (kj (cond (cond (cond (letC c) (true) (cond (decide ((c : Int) ≥ 48)) (decide ((c : Int) ≤ 57)) (false))) (true) (((c : Int) == 45))) (true) (((c : Int) == 95))) z (tn 2 z) (tn 1 (kj (cond (cond (cond (cond (letC c) (true) (cond (decide ((c : Int) ≥ 48)) (decide ((c : Int) ≤ 57)) (false))) (true) (((c : Int) == 45))) (true) (((c : Int) == 95))) (true) (((c : Int) == 46))) z (tn 2 z) (tn 1 z))))))))))))) (by kernel_rfl) ?_
  exact EN (by kernel_rfl)
def wordI_L0 (s : ByteArray) (i : Int) : Nat → Int → Int
  | 0, _ => default
  | n0 + 1, v1 => cond (cond (decide ((v1 : Int) < ((ByteArray.size (s) : Nat) : Int))) (partC (((byt (s) (Int.toNat (v1)) : Nat) : Int))) (false)) (wordI_L0 s i n0 (v1 + 1)) (v1)
def wordI (s : ByteArray) (i : Int) : Int := wordI_L0 s i ((s.size - Int.toNat (i)) + 1) i
set_option maxRecDepth 100000 in
set_option maxHeartbeats 4000000 in
theorem wordI_to (s : ByteArray) (i : Int) (hs : s.size ≤ 1073741824) (h0 : 0 ≤ i) (h1 : i ≤ 1073741833) : CallTo Tryz.prog 91 [(jS (s)), (jI (i))] [] [] (jI (wordI s i)) [] [] := by
  refine BEG (fun r : Int => (jI (r))) (wordI s i) Tryz.func91 (by kernel_rfl) ?_
  refine UF (wordI.eq_1 ..) ?_
  refine GO (tn 1 z) (by kernel_rfl) ?_
  refine LP (fun N M S => ∃ v1 : Int, (0 ≤ v1) ∧ (v1 ≤ 1073741833) ∧ (s.size - Int.toNat v1 < N) ∧ M = wordI_L0 s i N v1 ∧ S = (sx 18 [(0, (jS (s))), (1, (jI (v1)))] [] [])) (by kernel_rfl) ⟨_, by first | omega | assumption | (simp only [lenM_eq]; omega) | (simp; done) | (simp; omega), by first | omega | assumption | (simp only [lenM_eq]; omega) | (simp; done) | (simp; omega), by omega, rfl, rfl⟩ (WK (by kernel_rfl)) ?_
  rintro n0 M S ⟨v1, hv, hb, hF0, rfl, rfl⟩
  obtain ⟨n0, rfl⟩ : ∃ k, n0 = k + 1 := ⟨n0 - 1, by omega⟩
  refine UF (wordI_L0.eq_2 ..) ?_
  refine GO (tn 5 (kj (decide ((v1 : Int) < ((ByteArray.size (s) : Nat) : Int))) (tn 2 (hp (fun h => by have j0 := h.2; have j0p := of_decide_eq_true j0; exact (ib (s) (v1) (by omega))) (hc (fun h => by have j0 := h.2; have j0p := of_decide_eq_true j0; exact (partC_to (((byt (s) (Int.toNat (v1)) : Nat) : Int)))) z))) z z)) (by kernel_rfl) ?_
  refine CS (fun h1 => ?_) (fun h1 => ?_)
  · obtain ⟨h1a, h1o⟩ := cond_ff h1
    have h1ap := of_decide_eq_true h1a
    refine GO (kb h1 (tn 1 (kn (wrE ((v1) + 1) (v1 + 1) (by omega)) (tn 1 z)))) (by kernel_rfl) ?_
    exact AG ⟨_, by first | omega | assumption | (simp only [lenM_eq]; omega) | (simp; done) | (simp; omega), by first | omega | assumption | (simp only [lenM_eq]; omega) | (simp; done) | (simp; omega), by omega, rfl, rfl⟩ (WK (by kernel_rfl)) (by kernel_rfl) (Nat.lt_succ_self _)
  · refine GO (kb h1 z) (by kernel_rfl) ?_
    refine OUT (tn 2 z) (by kernel_rfl) ?_
    exact EN (by kernel_rfl)
def namC (s : ByteArray) : Bool := cond (cond (cond (decide ((((ByteArray.size (s) : Nat) : Int) : Int) ≥ 1)) (decide ((((ByteArray.size (s) : Nat) : Int) : Int) ≤ 60)) (false)) (letC (((byt (s) (0) : Nat) : Int))) (false)) (((wordI s 0 : Int) == ((ByteArray.size (s) : Nat) : Int))) (false)
set_option maxRecDepth 100000 in
set_option maxHeartbeats 4000000 in
theorem namC_to (s : ByteArray) (hs : s.size ≤ 1073741824) : CallTo Tryz.prog 71 [(jS (s))] [] [] (jB (namC s)) [] [] := by
  refine BEG (fun r : Bool => (jB (r))) (namC s) Tryz.func71 (by kernel_rfl) ?_
  refine UF (namC.eq_1 ..) ?_
  refine GO (tn 5 (kj (decide ((((ByteArray.size (s) : Nat) : Int) : Int) ≥ 1)) (tn 3 z) z (tn 1 (kj (cond (decide ((((ByteArray.size (s) : Nat) : Int) : Int) ≥ 1)) (decide ((((ByteArray.size (s) : Nat) : Int) : Int) ≤ 60)) (false)) (tn 1 (hp (fun h => by have j0 := h.2; obtain ⟨j0a, j0o⟩ := cond_ff j0; have j0ap := of_decide_eq_true j0a; have j0op := of_decide_eq_true j0o; exact (ib (s) (0) (by omega))) (hc (fun h => by have j0 := h.2; obtain ⟨j0a, j0o⟩ := cond_ff j0; have j0ap := of_decide_eq_true j0a; have j0op := of_decide_eq_true j0o; exact (letC_to (((byt (s) (0) : Nat) : Int)))) z))) z (tn 1 (kj (cond (cond (decide ((((ByteArray.size (s) : Nat) : Int) : Int) ≥ 1)) (decide ((((ByteArray.size (s) : Nat) : Int) : Int) ≤ 60)) (false)) (letC (((byt (s) (0) : Nat) : Int))) (false)) (tn 1 (hc (fun h => by have j0 := h.2; obtain ⟨j0a, j0o⟩ := cond_ff j0; obtain ⟨j0aa, j0ao⟩ := cond_ff j0a; have j0aap := of_decide_eq_true j0aa; have j0aop := of_decide_eq_true j0ao; exact (wordI_to s 0 (by first | assumption | omega | decide | (simp; done) | (simp; omega)) (by first | assumption | omega | decide | (simp; done) | (simp; omega)) (by first | assumption | omega | decide | (simp; done) | (simp; omega)))) (tn 3 z))) z (tn 1 z))))))) (by kernel_rfl) ?_
  exact EN (by kernel_rfl)
def samS_L0 (a : List ByteArray) (b : List ByteArray) : Nat → Nat → Bool
  | 0, _ => default
  | n0 + 1, v5 => cond (decide ((((v5 : Nat) : Int) : Int) < ((lenM strAV a : Nat) : Int))) (cond ((!eqs (el a v5) (el b v5))) (false) (samS_L0 a b n0 (v5 + 1))) (true)
def samS (a : List ByteArray) (b : List ByteArray) : Bool := cond (((((lenM strAV a : Nat) : Int) : Int) != ((lenM strAV b : Nat) : Int))) (false) (samS_L0 a b ((List.length a - (0)) + 1) 0)
set_option maxRecDepth 100000 in
set_option maxHeartbeats 4000000 in
theorem samS_to (a : List ByteArray) (b : List ByteArray) (ha : a.length ≤ 1073741824) (hb : b.length ≤ 1073741824) : CallTo Tryz.prog 10 [(jL (a.map strAV)), (jL (b.map strAV))] [] [] (jB (samS a b)) [] [] := by
  refine BEG (fun r : Bool => (jB (r))) (samS a b) Tryz.func10 (by kernel_rfl) ?_
  refine UF (samS.eq_1 ..) ?_
  refine GO (tn 6 z) (by kernel_rfl) ?_
  refine CSn (fun h1p h1 => ?_) (fun h1p h1 => ?_)
  · have := lenM_eq strAV a
    have := lenM_eq strAV b
    refine GO (kb h1 (tn 1 z)) (by kernel_rfl) ?_
    exact EN (by kernel_rfl)
  · have := lenM_eq strAV a
    have := lenM_eq strAV b
    refine GO (kb h1 (tn 1 z)) (by kernel_rfl) ?_
    refine LP (fun N M S => ∃ v5 : Nat, (List.length a - v5 < N) ∧ M = samS_L0 a b N v5 ∧ S = (sx 26 [(0, (jL (a.map strAV))), (1, (jL (b.map strAV))), (5, (jI (((v5 : Nat) : Int))))] [] [])) (by kernel_rfl) ⟨_, by omega, rfl, rfl⟩ (WK (by kernel_rfl)) ?_
    rintro n0 M S ⟨v5, hF0, rfl, rfl⟩
    obtain ⟨n0, rfl⟩ : ∃ k, n0 = k + 1 := ⟨n0 - 1, by omega⟩
    refine UF (samS_L0.eq_2 ..) ?_
    refine GO (tn 4 z) (by kernel_rfl) ?_
    refine CSd (fun h2p h2 => ?_) (fun h2p h2 => ?_)
    · have := lenM_eq strAV a
      refine GO (kb h2 z) (by kernel_rfl) ?_
      have d3 := (el_strAV a v5 (by first | omega | (simp only [lenM_eq, true_and]; omega)))
      have d4 := (el_strAV b v5 (by first | omega | (simp only [lenM_eq, true_and]; omega)))
      refine DR3 (tn 2 (ko (eO d3) (kp d3 (tn 3 (ko (eO d4) (kp d4 (tn 2 z))))))) (by kernel_rfl) (by kernel_rfl) (by kernel_rfl) ?_
      refine CS (fun h5 => ?_) (fun h5 => ?_)
      · have h5n := nott h5
        refine GO (kb h5 (tn 1 z)) (by kernel_rfl) ?_
        refine OUT z (by kernel_rfl) ?_
        exact EN (by kernel_rfl)
      · have h5n := notf h5
        refine GO (kb h5 (tn 1 (kn (wrE ((((v5 : Nat) : Int)) + 1) (((v5 + 1 : Nat) : Int)) (by omega)) (tn 1 z)))) (by kernel_rfl) ?_
        exact AG ⟨_, by omega, rfl, rfl⟩ (WK (by kernel_rfl)) (by kernel_rfl) (Nat.lt_succ_self _)
    · have := lenM_eq strAV a
      refine GO (kb h2 z) (by kernel_rfl) ?_
      refine OUT (tn 1 z) (by kernel_rfl) ?_
      exact EN (by kernel_rfl)
def hasR_L0 (l : List ByteArray) (s : ByteArray) : Nat → Nat → Bool
  | 0, _ => default
  | n0 + 1, v9 => cond (decide ((((v9 : Nat) : Int) : Int) < ((lenM strAV l : Nat) : Int))) (cond (eqs (el l v9) (s)) (true) (hasR_L0 l s n0 (v9 + 1))) (false)
def hasR (l : List ByteArray) (s : ByteArray) : Bool := hasR_L0 l s ((List.length l - (0)) + 1) 0
set_option maxRecDepth 100000 in
set_option maxHeartbeats 4000000 in
theorem hasR_to (l : List ByteArray) (s : ByteArray) (hl : l.length ≤ 1073741824) : CallTo Tryz.prog 26 [(jL (l.map strAV)), (jS (s))] [] [] (jB (hasR l s)) [] [] := by
  refine BEG (fun r : Bool => (jB (r))) (hasR l s) Tryz.func26 (by kernel_rfl) ?_
  refine UF (hasR.eq_1 ..) ?_
  refine GO (tn 4 z) (by kernel_rfl) ?_
  refine LP (fun N M S => ∃ v9 : Nat, (List.length l - v9 < N) ∧ M = hasR_L0 l s N v9 ∧ S = (sx 17 [(1, (jS (s))), (7, (jL (l.map strAV))), (8, (jI (((lenM strAV l : Nat) : Int)))), (9, (jI (((v9 : Nat) : Int))))] [] [])) (by kernel_rfl) ⟨_, by omega, rfl, rfl⟩ (WK (by kernel_rfl)) ?_
  rintro n0 M S ⟨v9, hF0, rfl, rfl⟩
  obtain ⟨n0, rfl⟩ : ∃ k, n0 = k + 1 := ⟨n0 - 1, by omega⟩
  refine UF (hasR_L0.eq_2 ..) ?_
  refine GO (tn 1 z) (by kernel_rfl) ?_
  refine CSd (fun h1p h1 => ?_) (fun h1p h1 => ?_)
  · have := lenM_eq strAV l
    refine GO (kb h1 (ke (el_strAV l v9 (by first | omega | (simp only [lenM_eq, true_and]; omega))) (tn 5 z))) (by kernel_rfl) ?_
    refine CS (fun h2 => ?_) (fun h2 => ?_)
    · refine GO (kb h2 (tn 1 z)) (by kernel_rfl) ?_
      refine OUT z (by kernel_rfl) ?_
      exact EN (by kernel_rfl)
    · refine GO (kb h2 (kn (wrE ((((v9 : Nat) : Int)) + 1) (((v9 + 1 : Nat) : Int)) (by omega)) (tn 1 z))) (by kernel_rfl) ?_
      exact AG ⟨_, by omega, rfl, rfl⟩ (WK (by kernel_rfl)) (by kernel_rfl) (Nat.lt_succ_self _)
  · have := lenM_eq strAV l
    refine GO (kb h1 z) (by kernel_rfl) ?_
    refine OUT (tn 1 z) (by kernel_rfl) ?_
    exact EN (by kernel_rfl)
def defP (b : DBlock) : Bool := cond (((b.fKind : Int) == 13)) (eqs (b.fInfo) (⟨#[109, 97, 99, 114, 111]⟩)) (false)
set_option maxRecDepth 100000 in
set_option maxHeartbeats 4000000 in
theorem defP_to (b : DBlock) : CallTo Tryz.prog 41 [(.av (cBlock b))] [] [] (jB (defP b)) [] [] := by
  refine BEG (fun r : Bool => (jB (r))) (defP b) Tryz.func41 (by kernel_rfl) ?_
  refine UF (defP.eq_1 ..) ?_
  refine GO (tn 6 (kj (((b.fKind : Int) == 13)) (tn 3 z) z (tn 1 z))) (by kernel_rfl) ?_
  exact EN (by kernel_rfl)
def defR (b : DBlock) : Bool := cond (((b.fKind : Int) == 13)) (eqs (b.fInfo) (⟨#[109, 97, 99, 114, 111]⟩)) (false)
set_option maxRecDepth 100000 in
set_option maxHeartbeats 4000000 in
theorem defR_to (b : DBlock) : CallTo Tryz.prog 43 [(.av (cBlock b))] [] [] (jB (defR b)) [] [] := by
  refine BEG (fun r : Bool => (jB (r))) (defR b) Tryz.func43 (by kernel_rfl) ?_
  refine UF (defR.eq_1 ..) ?_
  refine GO (tn 6 (kj (((b.fKind : Int) == 13)) (tn 3 z) z (tn 1 z))) (by kernel_rfl) ?_
  exact EN (by kernel_rfl)
end Go.Proofs.YtcdfhagcchmnhaaGreatDoor
namespace Go.Proofs.YtcdfhagcchmnhaaGreatDoor
open Go Go.Eng
theorem size_ext (s : ByteArray) (i j : Nat) : (ByteArray.extract s i j).size = min j s.size - i := by simp
def wrdR_L0 (s : ByteArray) : Nat → (List ByteArray) → Nat → Nat → List ByteArray
  | 0, _, _, _ => default
  | n0 + 1, v3, v4, v5 => cond (decide ((((v5 : Nat) : Int) : Int) ≤ ((ByteArray.size (s) : Nat) : Int))) (cond (cond (((((v5 : Nat) : Int) : Int) == ((ByteArray.size (s) : Nat) : Int))) (true) (((((byt (s) (v5) : Nat) : Int) : Int) == 32))) (cond (decide ((((v5 : Nat) : Int) : Int) > ((v4 : Nat) : Int))) (wrdR_L0 s n0 (v3 ++ ([ByteArray.extract (s) (v4) (v5)])) (v5 + 1) (v5 + 1)) (wrdR_L0 s n0 v3 (v5 + 1) (v5 + 1))) (wrdR_L0 s n0 v3 v4 (v5 + 1))) (v3)
def wrdR (s : ByteArray) : List ByteArray := wrdR_L0 s ((s.size + 1 - (0)) + 1) ([]) 0 0
set_option maxRecDepth 100000 in
set_option maxHeartbeats 4000000 in
theorem wrdR_to (s : ByteArray) (hs : s.size ≤ 1073741824) : CallTo Tryz.prog 46 [(jS (s))] [] [] (jL ((wrdR s).map strAV)) [] [] := by
  refine BEG (fun r : List ByteArray => (jL (r.map strAV))) (wrdR s) Tryz.func46 (by kernel_rfl) ?_
  refine UF (wrdR.eq_1 ..) ?_
  refine GO (tn 4 z) (by kernel_rfl) ?_
  refine LP (fun N M S => ∃ gv3 : Nat, ∃ v3 : List ByteArray, ∃ v4 : Nat, ∃ v5 : Nat, (v3.length ≤ v5) ∧ (v4 ≤ v5) ∧ (v5 ≤ s.size + 1) ∧ (s.size + 1 - v5 < N) ∧ M = wrdR_L0 s N v3 v4 v5 ∧ S = (sx 35 [(0, (jS (s))), (3, (.own (203, 10) (gv3) 1 (v3.map strAV))), (4, (jI (((v4 : Nat) : Int)))), (5, (jI (((v5 : Nat) : Int))))] [] [((203, 10), gv3)])) (by kernel_rfl) ⟨0, _, _, _, by first | omega | assumption | (simp only [lenM_eq]; omega) | (simp; done) | (simp; omega), by first | omega | assumption | (simp only [lenM_eq]; omega) | (simp; done) | (simp; omega), by first | omega | assumption | (simp only [lenM_eq]; omega) | (simp; done) | (simp; omega), by omega, rfl, rfl⟩ (WKf [(3, (.own (203, 10) ((0)) 1 (([]).map strAV)))] (ac (show ((([]).map strAV) : List AV) = [] ∧ 0 < 10 ∧ ((0) : Nat) = (0) from ⟨rfl, by decide, rfl⟩) an) (by kernel_rfl)) ?_
  rintro n0 M S ⟨gv3, v3, v4, v5, hv, hf, hb, hF0, rfl, rfl⟩
  obtain ⟨n0, rfl⟩ : ∃ k, n0 = k + 1 := ⟨n0 - 1, by omega⟩
  refine UF (wrdR_L0.eq_2 ..) ?_
  refine GO (tn 4 z) (by kernel_rfl) ?_
  refine CSd (fun h1p h1 => ?_) (fun h1p h1 => ?_)
  · refine GO (kb h1 (tn 5 (kj (((((v5 : Nat) : Int) : Int) == ((ByteArray.size (s) : Nat) : Int))) z (tn 2 (hp (fun h => by have j0 := h.2; have j0p := ne_of_beq_false j0; exact (ib (s) (((v5 : Nat) : Int)) (by omega))) (tn 1 z))) z))) (by kernel_rfl) ?_
    refine CS (fun h2 => ?_) (fun h2 => ?_)
    · refine GO (kb h2 (tn 3 z)) (by kernel_rfl) ?_
      refine CSd (fun h3p h3 => ?_) (fun h3p h3 => ?_)
      · have := size_ext (s) (v4) (v5)
        refine GO (kb h3 (tn 4 (kp (show 0 ≤ (((v4 : Nat) : Int) : Int) ∧ (((v4 : Nat) : Int) : Int) ≤ ((v5 : Nat) : Int) ∧ ((v5 : Nat) : Int) ≤ ((ByteArray.size (s) : Nat) : Int) from (by first | omega | (simp only [lenM_eq, true_and]; omega))) (kp (show Uni 1 [(vS (ByteArray.extract (s) (v4) (v5)))] from (uni_one rfl rfl)) (kp (show (gv3 : Nat) = gv3 ∧ Uni 1 [(vS (ByteArray.extract (s) (v4) (v5)))] ∧ (((v3.map strAV) : List AV).length + ([(vS (ByteArray.extract (s) (v4) (v5)))] : List AV).length) * 16 ≤ 140737488355328 from ⟨rfl, uni_one rfl rfl, by first | omega | (simp; done) | (simp; omega)⟩) (kw (ap1 strAV v3 (ByteArray.extract (s) (v4) (v5))) (tn 2 (kn (wrE ((((v5 : Nat) : Int)) + 1) (((v5 + 1 : Nat) : Int)) (by omega)) (tn 2 (kn (wrE ((((v5 : Nat) : Int)) + 1) (((v5 + 1 : Nat) : Int)) (by omega)) (tn 1 z))))))))))) (by kernel_rfl) ?_
        exact AG ⟨gv3 + 1, _, _, _, by first | omega | assumption | (simp only [lenM_eq]; omega) | (simp; done) | (simp; omega), by first | omega | assumption | (simp only [lenM_eq]; omega) | (simp; done) | (simp; omega), by first | omega | assumption | (simp only [lenM_eq]; omega) | (simp; done) | (simp; omega), by omega, rfl, rfl⟩ (WK (by kernel_rfl)) (by kernel_rfl) (Nat.lt_succ_self _)
      · refine GO (kb h3 (tn 1 (kn (wrE ((((v5 : Nat) : Int)) + 1) (((v5 + 1 : Nat) : Int)) (by omega)) (tn 2 (kn (wrE ((((v5 : Nat) : Int)) + 1) (((v5 + 1 : Nat) : Int)) (by omega)) (tn 1 z)))))) (by kernel_rfl) ?_
        exact AG ⟨gv3, _, _, _, by first | omega | assumption | (simp only [lenM_eq]; omega) | (simp; done) | (simp; omega), by first | omega | assumption | (simp only [lenM_eq]; omega) | (simp; done) | (simp; omega), by first | omega | assumption | (simp only [lenM_eq]; omega) | (simp; done) | (simp; omega), by omega, rfl, rfl⟩ (WK (by kernel_rfl)) (by kernel_rfl) (Nat.lt_succ_self _)
    · obtain ⟨h2a, h2o⟩ := cond_tt h2
      have h2ap := ne_of_beq_false h2a
      have h2op := ne_of_beq_false h2o
      refine GO (kb h2 (tn 1 (kn (wrE ((((v5 : Nat) : Int)) + 1) (((v5 + 1 : Nat) : Int)) (by omega)) (tn 1 z)))) (by kernel_rfl) ?_
      exact AG ⟨gv3, _, _, _, by first | omega | assumption | (simp only [lenM_eq]; omega) | (simp; done) | (simp; omega), by first | omega | assumption | (simp only [lenM_eq]; omega) | (simp; done) | (simp; omega), by first | omega | assumption | (simp only [lenM_eq]; omega) | (simp; done) | (simp; omega), by omega, rfl, rfl⟩ (WK (by kernel_rfl)) (by kernel_rfl) (Nat.lt_succ_self _)
  · refine GO (kb h1 z) (by kernel_rfl) ?_
    refine OUT (tn 2 z) (by kernel_rfl) ?_
    exact EN (by kernel_rfl)
end Go.Proofs.YtcdfhagcchmnhaaGreatDoor
namespace Go.Proofs.YtcdfhagcchmnhaaGreatDoor
open Go Go.Eng Go.RowKit Go.Shelf
def sp1 : ByteArray := ⟨#[32]⟩
def spl (s : ByteArray) : List ByteArray := Lib.splitB sp1 0 (Lib.countB s sp1) s
theorem count_sp (s : ByteArray) : ((Lib.countB s sp1 : Nat) : Int) = ((Lib.countByte s.data.toList 32 : Nat) : Int) := by
  show ((Lib.count s.data.toList [32] : Nat) : Int) = _
  rw [Lib.count_one]; rfl
theorem split_raw (s : ByteArray) (hs : s.size ≤ 1073741824) (w : World) :
    Calls Tryz.prog 88 #[.string s, .string sp1] w fun e w' => e = .returned (.slice (some ⟨w.heap.size, 0, none⟩) (Lib.countB s sp1 + 1) (Lib.countB s sp1 + 1)) ∧ w' = w.alloc (.cells ((spl s).map Value.string).toArray 9) := by
  have hle := Lib.countB_le sp1 (by decide) s.size s (Nat.le_refl _)
  have hlen := Lib.splitB_all sp1 (by decide) 0 _ s rfl
  have hI : ∀ (x : ByteArray) (c : Array Value), x.size ≤ s.size → Calls Tryz.prog 125 #[.string x, .string sp1] (w.alloc (.cells c 9)) fun e w' => e = .returned (.int .i64 (Lib.indexB x sp1)) ∧ w' = w.alloc (.cells c 9) :=
    fun x c _ => by
      refine (Any.strings_Index_one { Tryz.lays221 with } x 32 (w.alloc (.cells c 9))).mono fun e w' ⟨he, hw⟩ => ⟨?_, hw⟩
      rw [he, ← Lib.index_one]; rfl
  have hC : Calls Tryz.prog 124 #[.string s, .string sp1] w fun e w' => e = .returned (.int .i64 (Lib.countB s sp1)) ∧ w' = w := by
    refine (Any.strings_Count_one { Tryz.lays221 with } s 32 w).mono fun e w' ⟨he, hw⟩ => ⟨?_, hw⟩
    rw [he, count_sp]
  have c := Any.strings_genSplit_core Tryz.lays221 (by kernel_rfl) s sp1 0 (-1) (Lib.countB s sp1 + 1) w (by omega) (by decide) (Nat.zero_le _) hI hC (by decide) (by decide) (by rw [if_pos (by decide)]; omega)
  rw [Nat.add_sub_cancel, hlen] at c
  have e2 : Lib.cellsOf (Lib.splitB sp1 0 (Lib.countB s sp1) s) (Lib.countB s sp1 + 1) = ((spl s).map Value.string).toArray := by rw [← hlen]; exact Lib.cellsOf_full _
  rw [e2] at c
  have c' : Calls Tryz.prog 105 #[.string s, .string sp1, .int .i64 0, .int .i64 (-1)] w fun e w' => e = .returned (.slice (some ⟨w.heap.size, 0, none⟩) (Lib.countB s sp1 + 1) (Lib.countB s sp1 + 1)) ∧ w' = w.alloc (.cells ((spl s).map Value.string).toArray 9) := c
  refine (callsIn_wide (n := 0)).1 (callsIn_of_wp Tryz.func88 rfl trivial ?_ rfl)
  have c2 := (callsIn_wide (n := 0)).2 c'
  clear c c' hI hC e2 hle hlen
  simp only [Tryz.ntmps88, List.size_toArray, List.length_cons, List.length_nil, Nat.reduceAdd, Nat.reduceSub, Array.replicate_succ, Array.replicate_zero, List.push_toArray, List.append_toArray, List.nil_append, List.cons_append]
  gi_wp2
  refine ⟨trivial, rfl, c2.mono ?_⟩
  rintro e w' ⟨rfl, rfl⟩
  clear c2
  gi_wp2
  go_ret
  exact ⟨rfl, rfl⟩
theorem spl_len (s : ByteArray) : (spl s).length = Lib.countB s sp1 + 1 := Lib.splitB_all sp1 (by decide) 0 _ s rfl
theorem spl_bd (s : ByteArray) : (spl s).length ≤ s.size + 1 := by
  have := Lib.countB_le sp1 (by decide) s.size s (Nat.le_refl _)
  rw [spl_len]; omega
theorem RepL_strs {U : Nat → Nat} {w : World} : ∀ l : List ByteArray, RepL U w (l.map strAV) (l.map Value.string)
  | [] => rfl
  | x :: l => ⟨.string x, _, rfl, ⟨rfl, rfl⟩, RepL_strs l⟩
theorem vcells_strs : ∀ l : List ByteArray, vcells (l.map Value.string) = l.map Value.string
  | [] => rfl
  | x :: l => by rw [List.map_cons, vcells, List.flatMap_cons, ← vcells, vcells_strs l]; rfl
theorem split_to (s : ByteArray) (hs : s.size ≤ 1073741824) : CallTo Tryz.prog 88 [(jS s), (jS sp1)] [] [] (jL ((spl s).map strAV)) [] [] := by
  refine ⟨⟨Tryz.f88, Tryz.func88, by kernel_rfl, by kernel_rfl⟩, ?_⟩
  intro G w vs hw hr _ _
  obtain ⟨u, l, rfl, hu, hr⟩ := hr
  obtain ⟨u2, l2, rfl, hu2, hr⟩ := hr
  have hr : l2 = [] := hr
  subst hr
  have e1 : u = .string s := hu.1
  have e2 : u2 = .string sp1 := hu2.1
  subst e1 e2
  have hU : ∀ k, 0 < G.U k → k < w.heap.size := fun k hk => by
    rcases Nat.lt_or_ge k w.heap.size with h | h
    · exact h
    · rw [hw.zero k h] at hk; omega
  refine (split_raw s hs w).mono ?_
  rintro e w' ⟨rfl, rfl⟩
  have hold : ∀ k, k < w.heap.size → (w.alloc (.cells ((spl s).map Value.string).toArray 9)).heap[k]? = w.heap[k]? := fun k hk => Below.heap_alloc _ _ _ hk
  let G' : Gh := { G with U := fun b => if b = w.heap.size then (spl s).length else G.U b }
  have hG' : ∀ b, b < w.heap.size → G'.U b = G.U b := fun b hb => by simp only [G']; rw [if_neg (by omega)]
  have hk : ∀ κ : Key, Keep G w G' (w.alloc (.cells ((spl s).map Value.string).toArray 9)) κ := fun κ => ⟨rfl, fun k h => ⟨hold k (hw.lt κ k h), hG' k (hw.lt κ k h)⟩⟩
  refine ⟨_, G', rfl, ⟨⟨fun b => ?_, ⟨fun k o ho => World.cell?_of_block (hold k (hU k (by omega))), fun k es c h1 h2 => (hold k (hU k (by omega))).trans h2⟩, by simp, rfl, rfl, rfl, fun _ _ => rfl, fun _ => Nat.le_refl _, fun κ _ _ => hk κ⟩, fun k h _ => ⟨hold k h, hG' k h⟩, fun κ k h => .inl ⟨κ, h⟩⟩,
    ⟨hw.inj, fun κ k h => by have := hw.lt κ k h; simp; omega, fun k h => ?_⟩, ?_, by simp, fun i _ => hk _, fun _ => rfl, fun κ => by simp [G']⟩
  · by_cases hb : b = w.heap.size
    · subst hb; rw [hw.zero _ (Nat.le_refl _)]; exact Nat.zero_le _
    · simp only [G']; rw [if_neg hb]; exact Nat.le_refl _
  · simp at h
    simp only [G']; rw [if_neg (by omega)]; exact hw.zero k (by omega)
  · refine ⟨_, _, (spl s).map Value.string, 1, by rw [List.length_map, spl_len], RepL_strs _, ?_, by simp, ?_, ?_, ?_⟩
    · intro e he
      obtain ⟨x, _, rfl⟩ := List.mem_map.1 he
      rfl
    · rw [List.length_map, spl_len]; exact Nat.le_refl _
    · intro _ ad h; cases h; rfl
    · rw [vcells_strs]
      refine .inr ⟨w.heap.size, 0, rfl, ?_, fun j x hx => ?_⟩
      · simp [G']
      · have h := World.alloc_heap_new w (.cells ((spl s).map Value.string).toArray 9)
        refine ⟨?_, ?_⟩
        · simp only [World.cell?, h, Nat.zero_add]
          simpa using hx
        · obtain ⟨y, _, rfl⟩ := List.mem_map.1 (List.mem_of_getElem? hx)
          rfl
end Go.Proofs.YtcdfhagcchmnhaaGreatDoor
namespace Go.Proofs.YtcdfhagcchmnhaaGreatDoor
open Go Go.Eng
def wrdP_L0 (s : ByteArray) : Nat → (List ByteArray) → Nat → List ByteArray
  | 0, _, _ => default
  | n0 + 1, v3, v9 => cond (decide ((((v9 : Nat) : Int) : Int) < ((lenM strAV (spl s) : Nat) : Int))) (cond ((!eqs (el (spl s) v9) (⟨#[]⟩))) (wrdP_L0 s n0 (v3 ++ ([el (spl s) v9])) (v9 + 1)) (wrdP_L0 s n0 v3 (v9 + 1))) (v3)
def wrdP (s : ByteArray) : List ByteArray := wrdP_L0 s ((List.length (spl s) - (0)) + 1) ([]) 0
set_option maxRecDepth 100000 in
set_option maxHeartbeats 4000000 in
theorem wrdP_to (s : ByteArray) (hs : s.size ≤ 1073741824) : CallTo Tryz.prog 69 [(jS (s))] [] [] (jL ((wrdP s).map strAV)) [] [] := by
  have hsb := spl_bd s
  refine BEG (fun r : List ByteArray => (jL (r.map strAV))) (wrdP s) Tryz.func69 (by kernel_rfl) ?_
  refine UF (wrdP.eq_1 ..) ?_
  refine GO (tn 3 (kc (split_to s (by first | assumption | omega | decide | (simp; done) | (simp; omega))) (tn 2 z))) (by kernel_rfl) ?_
  refine LP (fun N M S => ∃ gv3 : Nat, ∃ v3 : List ByteArray, ∃ v9 : Nat, (v3.length ≤ v9) ∧ (List.length (spl s) - v9 < N) ∧ M = wrdP_L0 s N v3 v9 ∧ S = (sx 21 [(3, (.own (203, 10) (gv3) 1 (v3.map strAV))), (7, (jL ((spl s).map strAV))), (8, (jI (((lenM strAV (spl s) : Nat) : Int)))), (9, (jI (((v9 : Nat) : Int))))] [] [((203, 10), gv3)])) (by kernel_rfl) ⟨0, _, _, by first | omega | assumption | (simp only [lenM_eq]; omega) | (simp; done) | (simp; omega), by omega, rfl, rfl⟩ (WKf [(3, (.own (203, 10) ((0)) 1 (([]).map strAV)))] (ac (show ((([]).map strAV) : List AV) = [] ∧ 0 < 10 ∧ ((0) : Nat) = (0) from ⟨rfl, by decide, rfl⟩) an) (by kernel_rfl)) ?_
  rintro n0 M S ⟨gv3, v3, v9, hv, hF0, rfl, rfl⟩
  obtain ⟨n0, rfl⟩ : ∃ k, n0 = k + 1 := ⟨n0 - 1, by omega⟩
  refine UF (wrdP_L0.eq_2 ..) ?_
  refine GO (tn 1 z) (by kernel_rfl) ?_
  refine CSd (fun h1p h1 => ?_) (fun h1p h1 => ?_)
  · have := lenM_eq strAV (spl s)
    refine GO (kb h1 (ke (el_strAV (spl s) v9 (by first | omega | (simp only [lenM_eq, true_and]; omega))) (tn 4 z))) (by kernel_rfl) ?_
    refine CS (fun h2 => ?_) (fun h2 => ?_)
    · have h2n := nott h2
      have h2z := size_neqs_t h2
      refine GO (kb h2 (tn 2 (kp (show Uni 1 [(vS (el (spl s) v9))] from (uni_one rfl rfl)) (kp (show (gv3 : Nat) = gv3 ∧ Uni 1 [(vS (el (spl s) v9))] ∧ (((v3.map strAV) : List AV).length + ([(vS (el (spl s) v9))] : List AV).length) * 16 ≤ 140737488355328 from ⟨rfl, uni_one rfl rfl, by first | omega | (simp; done) | (simp; omega)⟩) (kw (ap1 strAV v3 (el (spl s) v9)) (tn 1 (kn (wrE ((((v9 : Nat) : Int)) + 1) (((v9 + 1 : Nat) : Int)) (by omega)) (tn 1 z)))))))) (by kernel_rfl) ?_
      exact AG ⟨gv3 + 1, _, _, by first | omega | assumption | (simp only [lenM_eq]; omega) | (simp; done) | (simp; omega), by omega, rfl, rfl⟩ (WK (by kernel_rfl)) (by kernel_rfl) (Nat.lt_succ_self _)
    · have h2n := notf h2
      have h2z := size_neqs_f h2
      refine GO (kb h2 (kn (wrE ((((v9 : Nat) : Int)) + 1) (((v9 + 1 : Nat) : Int)) (by omega)) (tn 1 z))) (by kernel_rfl) ?_
      exact AG ⟨gv3, _, _, by first | omega | assumption | (simp only [lenM_eq]; omega) | (simp; done) | (simp; omega), by omega, rfl, rfl⟩ (WK (by kernel_rfl)) (by kernel_rfl) (Nat.lt_succ_self _)
  · have := lenM_eq strAV (spl s)
    refine GO (kb h1 z) (by kernel_rfl) ?_
    refine OUT (tn 2 z) (by kernel_rfl) ?_
    exact EN (by kernel_rfl)
end Go.Proofs.YtcdfhagcchmnhaaGreatDoor
namespace Go.Proofs.YtcdfhagcchmnhaaGreatDoor
open Go Go.Eng
def longB_L1 (a : DAttr) (v3 : Nat) (v4 : Nat) (k0 : Nat → Nat → Bool) : Nat → Nat → Nat → Bool
  | 0, _, _ => default
  | n1 + 1, w3, w5 => cond (decide ((((w5 : Nat) : Int) : Int) < ((lenM aPair a.fPairs : Nat) : Int))) (longB_L1 a v3 v4 k0 n1 (w3 + ByteArray.size ((el a.fPairs w5).fKey) + ByteArray.size ((el a.fPairs w5).fValue)) (w5 + 1)) (decide ((((w3 : Nat) : Int) : Int) > 600))
def longB_L0 (a : DAttr) : Nat → Nat → Nat → Bool
  | 0, _, _ => default
  | n0 + 1, v3, v4 => cond (decide ((((v4 : Nat) : Int) : Int) < ((lenM strAV a.fClasses : Nat) : Int))) (longB_L0 a n0 (v3 + ByteArray.size (el a.fClasses v4)) (v4 + 1)) (longB_L1 a v3 v4 (longB_L0 a n0) ((List.length a.fPairs - (0)) + 1) v3 0)
def longB (a : DAttr) : Bool := cond (cond (decide ((((lenM strAV a.fClasses : Nat) : Int) : Int) > 40)) (true) (decide ((((lenM aPair a.fPairs : Nat) : Int) : Int) > 40))) (true) (longB_L0 a ((List.length a.fClasses - (0)) + 1) (ByteArray.size (a.fID)) 0)
set_option maxRecDepth 100000 in
set_option maxHeartbeats 4000000 in
theorem longB_to (a : DAttr) (ha : wAttr a ≤ 1073741824) : CallTo Tryz.prog 33 [(.av (cAttr a))] [] [] (jB (longB a)) [] [] := by
  have hwa := wAttr_eq a
  simp only [wStr] at hwa
  refine BEG (fun r : Bool => (jB (r))) (longB a) Tryz.func33 (by kernel_rfl) ?_
  refine UF (longB.eq_1 ..) ?_
  refine GO (tn 11 (kj (decide ((((lenM strAV a.fClasses : Nat) : Int) : Int) > 40)) z (tn 4 z) z)) (by kernel_rfl) ?_
  refine CS (fun h1 => ?_) (fun h1 => ?_)
  · have := lenM_eq strAV a.fClasses
    have := lenM_eq aPair a.fPairs
    refine GO (kb h1 (tn 1 z)) (by kernel_rfl) ?_
    exact EN (by kernel_rfl)
  · have := lenM_eq strAV a.fClasses
    have := lenM_eq aPair a.fPairs
    obtain ⟨h1a, h1o⟩ := cond_tt h1
    have := lenM_eq strAV a.fClasses
    have h1ap := of_decide_eq_false h1a
    have := lenM_eq aPair a.fPairs
    have h1op := of_decide_eq_false h1o
    refine GO (kb h1 (tn 1 z)) (by kernel_rfl) ?_
    refine LP (fun N M S => ∃ v3 : Nat, ∃ v4 : Nat, (v3 ≤ 1073741824 + v4 * 1073741824) ∧ (v4 ≤ a.fClasses.length) ∧ (List.length a.fClasses - v4 < N) ∧ M = longB_L0 a N v3 v4 ∧ S = (sx 60 [(1, (.ptr 1 0)), (3, (jI (((v3 : Nat) : Int)))), (4, (jI (((v4 : Nat) : Int))))] [(1, (.cells 41 (sAttr a)))] [])) (by kernel_rfl) ⟨_, _, by first | omega | assumption | (simp only [lenM_eq]; omega) | (simp; done) | (simp; omega), by first | omega | assumption | (simp only [lenM_eq]; omega) | (simp; done) | (simp; omega), by omega, rfl, rfl⟩ (WK (by kernel_rfl)) ?_
    rintro n0 M S ⟨v3, v4, hv, hu, hF0, rfl, rfl⟩
    obtain ⟨n0, rfl⟩ : ∃ k, n0 = k + 1 := ⟨n0 - 1, by omega⟩
    refine UF (longB_L0.eq_2 ..) ?_
    refine GO (tn 5 z) (by kernel_rfl) ?_
    refine CSd (fun h2p h2 => ?_) (fun h2p h2 => ?_)
    · have := lenM_eq strAV a.fClasses
      have hce := wl_el (w := wStr) (l := a.fClasses) (i := v4) (by omega)
      simp only [wStr] at hce
      refine GO (kb h2 (tn 4 (ke (el_strAV a.fClasses v4 (by first | omega | (simp only [lenM_eq, true_and]; omega))) (tn 2 (kn (wrE ((((v3 : Nat) : Int)) + (((ByteArray.size (el a.fClasses v4) : Nat) : Int))) (((v3 + ByteArray.size (el a.fClasses v4) : Nat) : Int)) (by omega)) (tn 2 (kn (wrE ((((v4 : Nat) : Int)) + 1) (((v4 + 1 : Nat) : Int)) (by omega)) (tn 1 z)))))))) (by kernel_rfl) ?_
      exact AG ⟨_, _, by first | omega | assumption | (simp only [lenM_eq]; omega) | (simp; done) | (simp; omega), by first | omega | assumption | (simp only [lenM_eq]; omega) | (simp; done) | (simp; omega), by omega, rfl, rfl⟩ (WK (by kernel_rfl)) (by kernel_rfl) (Nat.lt_succ_self _)
    · have := lenM_eq strAV a.fClasses
      refine GO (kb h2 z) (by kernel_rfl) ?_
      refine OUT (tn 1 z) (by kernel_rfl) ?_
      refine LP (fun N M S => ∃ w3 : Nat, ∃ w5 : Nat, (w3 ≤ 50 * 1073741824 + w5 * 2147483648) ∧ (List.length a.fPairs - w5 < N) ∧ M = longB_L1 a v3 v4 (longB_L0 a n0) N w3 w5 ∧ S = (sx 60 [(1, (.ptr 1 0)), (3, (jI (((w3 : Nat) : Int)))), (5, (jI (((w5 : Nat) : Int))))] [(1, (.cells 41 (sAttr a)))] [])) (by kernel_rfl) ⟨_, _, by first | omega | assumption | (simp only [lenM_eq]; omega) | (simp; done) | (simp; omega), by omega, rfl, rfl⟩ (WK (by kernel_rfl)) ?_
      rintro n1 M S ⟨w3, w5, hw, hF1, rfl, rfl⟩
      obtain ⟨n1, rfl⟩ : ∃ k, n1 = k + 1 := ⟨n1 - 1, by omega⟩
      refine UF (longB_L1.eq_2 ..) ?_
      refine GO (tn 5 z) (by kernel_rfl) ?_
      refine CSd (fun h3p h3 => ?_) (fun h3p h3 => ?_)
      · have := lenM_eq aPair a.fPairs
        have hce := wl_el (w := wPair) (l := a.fPairs) (i := w5) (by omega)
        simp only [wPair, wStr] at hce
        refine GO (kb h3 z) (by kernel_rfl) ?_
        have d4 := (el_aPair a.fPairs w5 (by first | omega | (simp only [lenM_eq, true_and]; omega)))
        have d5 := (el_aPair a.fPairs w5 (by first | omega | (simp only [lenM_eq, true_and]; omega)))
        have d6 := wrE ((((ByteArray.size ((el a.fPairs w5).fKey) : Nat) : Int)) + (((ByteArray.size ((el a.fPairs w5).fValue) : Nat) : Int))) (((ByteArray.size ((el a.fPairs w5).fKey) + ByteArray.size ((el a.fPairs w5).fValue) : Nat) : Int)) (by omega)
        have d7 := wrE ((((w3 : Nat) : Int)) + (((ByteArray.size ((el a.fPairs w5).fKey) + ByteArray.size ((el a.fPairs w5).fValue) : Nat) : Int))) (((w3 + ByteArray.size ((el a.fPairs w5).fKey) + ByteArray.size ((el a.fPairs w5).fValue) : Nat) : Int)) (by omega)
        refine DR3 (tn 4 (ko (eO d4) (kp d4 (tn 6 (ko (eO d5) (kp d5 (tn 3 (ko (nO d6) (kp d6 (ko (nO d7) (kp d7 (tn 2 (kn (wrE ((((w5 : Nat) : Int)) + 1) (((w5 + 1 : Nat) : Int)) (by omega)) (tn 1 z)))))))))))))) (by kernel_rfl) (by kernel_rfl) (by kernel_rfl) ?_
        exact AG ⟨_, _, by first | omega | assumption | (simp only [lenM_eq]; omega) | (simp; done) | (simp; omega), by omega, rfl, rfl⟩ (WK (by kernel_rfl)) (by kernel_rfl) (Nat.lt_succ_self _)
      · have := lenM_eq aPair a.fPairs
        refine GO (kb h3 z) (by kernel_rfl) ?_
        refine OUT (tn 3 z) (by kernel_rfl) ?_
        exact EN (by kernel_rfl)
def weiIS_L2 (rec : (List DInline) → Int → Int) (l : List DInline) (depth : Int) (v5 : Int) (v6 : Nat) (w5 : Int) (w8 : Nat) (k0 : Int → Nat → Int) (k1 : Int → Nat → Int) : Nat → Int → Nat → Int
  | 0, _, _ => default
  | n2 + 1, x5, x9 => cond (decide ((((x9 : Nat) : Int) : Int) < ((lenM aCited ((el l v6).fCites) : Nat) : Int))) (weiIS_L2 rec l depth v5 v6 w5 w8 k0 k1 n2 (x5 + (quo .i64 (((ByteArray.size ((el ((el l v6).fCites) x9).fKey) + ByteArray.size ((el ((el l v6).fCites) x9).fPrefix) + ByteArray.size ((el ((el l v6).fCites) x9).fSuffix) : Nat) : Int)) (40))) (x9 + 1)) (k0 (x5 + (rec ((el l v6).fKids) (depth + 1))) (v6 + 1))
def weiIS_L1 (rec : (List DInline) → Int → Int) (l : List DInline) (depth : Int) (v5 : Int) (v6 : Nat) (k0 : Int → Nat → Int) : Nat → Int → Nat → Int
  | 0, _, _ => default
  | n1 + 1, w5, w8 => cond (decide ((((w8 : Nat) : Int) : Int) < ((lenM strAV ((el l v6).fArgs) : Nat) : Int))) (weiIS_L1 rec l depth v5 v6 k0 n1 (w5 + (quo .i64 (((ByteArray.size (el ((el l v6).fArgs) w8) : Nat) : Int)) (40))) (w8 + 1)) (weiIS_L2 rec l depth v5 v6 w5 w8 k0 (weiIS_L1 rec l depth v5 v6 k0 n1) ((List.length ((el l v6).fCites) - (0)) + 1) w5 0)
def weiIS_L0 (rec : (List DInline) → Int → Int) (l : List DInline) (depth : Int) : Nat → Int → Nat → Int
  | 0, _, _ => default
  | n0 + 1, v5, v6 => cond (cond (decide ((((v6 : Nat) : Int) : Int) < ((lenM aInline l : Nat) : Int))) (decide ((v5 : Int) < 1000)) (false)) (cond (cond (cond (cond (decide ((((ByteArray.size ((el l v6).fText) + ByteArray.size ((el l v6).fDest) + ByteArray.size ((el l v6).fTitle) : Nat) : Int) : Int) > 300)) (true) (longB ((el l v6).fAttr))) (true) (decide ((((lenM strAV ((el l v6).fArgs) : Nat) : Int) : Int) > 9))) (true) (decide ((((lenM aCited ((el l v6).fCites) : Nat) : Int) : Int) > 9))) (1000) (weiIS_L1 rec l depth v5 v6 (weiIS_L0 rec l depth n0) ((List.length ((el l v6).fArgs) - (0)) + 1) v5 0)) (v5)
def weiIS (rec : (List DInline) → Int → Int) (l : List DInline) (depth : Int) : Int := cond (cond (decide ((depth : Int) > 20)) (true) (decide ((((lenM aInline l : Nat) : Int) : Int) > 200))) (1000) (weiIS_L0 rec l depth ((List.length l - (0)) + 1) (((lenM aInline l : Nat) : Int)) 0)
set_option maxRecDepth 100000 in
set_option maxHeartbeats 4000000 in
theorem weiI_st (rec : (List DInline) → Int → Int) (l : List DInline) (depth : Int) (hl : wl wInline l ≤ 1073741824) (hd : 0 ≤ depth) (hd2 : depth ≤ 21) (hrec : ∀ (l' : List DInline) (depth' : Int), wl wInline l' < wl wInline l → wl wInline l' ≤ 1073741824 → 0 ≤ depth' → depth' ≤ 21 → CallTo Tryz.prog 34 [(jL ((l').map aInline)), (jI (depth'))] [] [] (jI (rec l' depth')) [] []) (hrb : ∀ (l' : List DInline) (depth' : Int), wl wInline l' < wl wInline l → wl wInline l' ≤ 1073741824 → 0 ≤ depth' → depth' ≤ 21 → 0 ≤ (rec l' depth') ∧ (rec l' depth') ≤ (22 - depth') * 21474836480) : CallTo Tryz.prog 34 [(jL (l.map aInline)), (jI (depth))] [] [] (jI (weiIS rec l depth)) [] [] := by
  have hw_0 := wl_len (w := wInline) wInline_pos l
  refine BEG (fun r : Int => (jI (r))) (weiIS rec l depth) Tryz.func34 (by kernel_rfl) ?_
  refine UF (weiIS.eq_1 ..) ?_
  refine GO (tn 7 (kj (decide ((depth : Int) > 20)) z (tn 2 z) z)) (by kernel_rfl) ?_
  refine CS (fun h1 => ?_) (fun h1 => ?_)
  · have := lenM_eq aInline l
    refine GO (kb h1 (tn 1 z)) (by kernel_rfl) ?_
    exact EN (by kernel_rfl)
  · have := lenM_eq aInline l
    obtain ⟨h1a, h1o⟩ := cond_tt h1
    have h1ap := of_decide_eq_false h1a
    have := lenM_eq aInline l
    have h1op := of_decide_eq_false h1o
    refine GO (kb h1 (tn 1 z)) (by kernel_rfl) ?_
    refine LP (fun N M S => ∃ v5 : Int, ∃ v6 : Nat, (0 ≤ v5) ∧ (v5 ≤ (22 - depth) * 21474836480) ∧ (List.length l - v6 < N) ∧ M = weiIS_L0 rec l depth N v5 v6 ∧ S = (sx 112 [(0, (jL (l.map aInline))), (1, (jI (depth))), (5, (jI (v5))), (6, (jI (((v6 : Nat) : Int))))] [] [])) (by kernel_rfl) ⟨_, _, by first | omega | assumption | (simp only [lenM_eq]; omega) | (simp; done) | (simp; omega), by first | omega | assumption | (simp only [lenM_eq]; omega) | (simp; done) | (simp; omega), by omega, rfl, rfl⟩ (WK (by kernel_rfl)) ?_
    rintro n0 M S ⟨v5, v6, hv, hv2, hF0, rfl, rfl⟩
    obtain ⟨n0, rfl⟩ : ∃ k, n0 = k + 1 := ⟨n0 - 1, by omega⟩
    refine UF (weiIS_L0.eq_2 ..) ?_
    refine GO (tn 5 (kj (decide ((((v6 : Nat) : Int) : Int) < ((lenM aInline l : Nat) : Int))) (tn 2 z) z z)) (by kernel_rfl) ?_
    refine CS (fun h2 => ?_) (fun h2 => ?_)
    · have := lenM_eq aInline l
      obtain ⟨h2a, h2o⟩ := cond_ff h2
      have := lenM_eq aInline l
      have h2ap := of_decide_eq_true h2a
      have hce := wl_el (w := wInline) (l := l) (i := v6) (by omega)
      have hcw := wInline_eq (el l v6)
      simp only [wStr, w1] at hcw
      have h2op := of_decide_eq_true h2o
      refine GO (kb h2 (tn 2 (ke (el_aInline l v6 (by first | omega | (simp only [lenM_eq, true_and]; omega))) (tn 9 (kn (wrE ((((ByteArray.size ((el l v6).fText) : Nat) : Int)) + (((ByteArray.size ((el l v6).fDest) : Nat) : Int))) (((ByteArray.size ((el l v6).fText) + ByteArray.size ((el l v6).fDest) : Nat) : Int)) (by omega)) (tn 3 (kn (wrE ((((ByteArray.size ((el l v6).fText) + ByteArray.size ((el l v6).fDest) : Nat) : Int)) + (((ByteArray.size ((el l v6).fTitle) : Nat) : Int))) (((ByteArray.size ((el l v6).fText) + ByteArray.size ((el l v6).fDest) + ByteArray.size ((el l v6).fTitle) : Nat) : Int)) (by omega)) (tn 2 (kj (decide ((((ByteArray.size ((el l v6).fText) + ByteArray.size ((el l v6).fDest) + ByteArray.size ((el l v6).fTitle) : Nat) : Int) : Int) > 300)) z (tn 2 (hc (fun h => by have j0 := h.2; have j0p := of_decide_eq_false j0; exact (longB_to ((el l v6).fAttr) (by first | assumption | omega | decide | (simp; done) | (simp; omega)))) z)) (tn 1 (kj (cond (decide ((((ByteArray.size ((el l v6).fText) + ByteArray.size ((el l v6).fDest) + ByteArray.size ((el l v6).fTitle) : Nat) : Int) : Int) > 300)) (true) (longB ((el l v6).fAttr))) z (tn 4 z) (tn 1 (kj (cond (cond (decide ((((ByteArray.size ((el l v6).fText) + ByteArray.size ((el l v6).fDest) + ByteArray.size ((el l v6).fTitle) : Nat) : Int) : Int) > 300)) (true) (longB ((el l v6).fAttr))) (true) (decide ((((lenM strAV ((el l v6).fArgs) : Nat) : Int) : Int) > 9))) z (tn 4 z) z))))))))))))) (by kernel_rfl) ?_
      refine CS (fun h3 => ?_) (fun h3 => ?_)
      · have := lenM_eq strAV ((el l v6).fArgs)
        have := lenM_eq aCited ((el l v6).fCites)
        refine GO (kb h3 (tn 1 z)) (by kernel_rfl) ?_
        refine OUT z (by kernel_rfl) ?_
        exact EN (by kernel_rfl)
      · have := lenM_eq strAV ((el l v6).fArgs)
        have := lenM_eq aCited ((el l v6).fCites)
        obtain ⟨h3a, h3o⟩ := cond_tt h3
        have := lenM_eq strAV ((el l v6).fArgs)
        obtain ⟨h3aa, h3ao⟩ := cond_tt h3a
        obtain ⟨h3aaa, h3aao⟩ := cond_tt h3aa
        have h3aaap := of_decide_eq_false h3aaa
        have := lenM_eq strAV ((el l v6).fArgs)
        have h3aop := of_decide_eq_false h3ao
        have := lenM_eq aCited ((el l v6).fCites)
        have h3op := of_decide_eq_false h3o
        refine GO (kb h3 (tn 1 z)) (by kernel_rfl) ?_
        refine LP (fun N M S => ∃ w5 : Int, ∃ w8 : Nat, (0 ≤ w5) ∧ (w5 ≤ 1000 + w8 * 1073741824) ∧ (w8 ≤ (el l v6).fArgs.length) ∧ (List.length ((el l v6).fArgs) - w8 < N) ∧ M = weiIS_L1 rec l depth v5 v6 (weiIS_L0 rec l depth n0) N w5 w8 ∧ S = (sx 112 [(0, (jL (l.map aInline))), (1, (jI (depth))), (5, (jI (w5))), (6, (jI (((v6 : Nat) : Int)))), (7, (.ptr 7 0)), (8, (jI (((w8 : Nat) : Int))))] [(7, (.cells 48 (sInline (el l v6))))] [])) (by kernel_rfl) ⟨_, _, by first | omega | assumption | (simp only [lenM_eq]; omega) | (simp; done) | (simp; omega), by first | omega | assumption | (simp only [lenM_eq]; omega) | (simp; done) | (simp; omega), by first | omega | assumption | (simp only [lenM_eq]; omega) | (simp; done) | (simp; omega), by omega, rfl, rfl⟩ (WK (by kernel_rfl)) ?_
        rintro n1 M S ⟨w5, w8, hw, hw2, hw3, hF1, rfl, rfl⟩
        obtain ⟨n1, rfl⟩ : ∃ k, n1 = k + 1 := ⟨n1 - 1, by omega⟩
        refine UF (weiIS_L1.eq_2 ..) ?_
        refine GO (tn 5 z) (by kernel_rfl) ?_
        refine CSd (fun h4p h4 => ?_) (fun h4p h4 => ?_)
        · have := lenM_eq strAV ((el l v6).fArgs)
          have hca := wl_el (w := wStr) (l := (el l v6).fArgs) (i := w8) (by omega)
          simp only [wStr] at hca
          have := quo_eq (((ByteArray.size (el ((el l v6).fArgs) w8) : Nat) : Int)) 40 (by decide) (by decide)
          refine GO (kb h4 (tn 4 (ke (el_strAV ((el l v6).fArgs) w8 (by first | omega | (simp only [lenM_eq, true_and]; omega))) (tn 2 (kp (show (40 : Int) ≠ 0 from (by decide)) (kn (wrE ((w5) + (quo .i64 (((ByteArray.size (el ((el l v6).fArgs) w8) : Nat) : Int)) (40))) (w5 + (quo .i64 (((ByteArray.size (el ((el l v6).fArgs) w8) : Nat) : Int)) (40))) (by omega)) (tn 2 (kn (wrE ((((w8 : Nat) : Int)) + 1) (((w8 + 1 : Nat) : Int)) (by omega)) (tn 1 z))))))))) (by kernel_rfl) ?_
          exact AG ⟨_, _, by first | omega | assumption | (simp only [lenM_eq]; omega) | (simp; done) | (simp; omega), by first | omega | assumption | (simp only [lenM_eq]; omega) | (simp; done) | (simp; omega), by first | omega | assumption | (simp only [lenM_eq]; omega) | (simp; done) | (simp; omega), by omega, rfl, rfl⟩ (WK (by kernel_rfl)) (by kernel_rfl) (Nat.lt_succ_self _)
        · have := lenM_eq strAV ((el l v6).fArgs)
          refine GO (kb h4 z) (by kernel_rfl) ?_
          refine OUT (tn 1 z) (by kernel_rfl) ?_
          refine LP (fun N M S => ∃ x5 : Int, ∃ x9 : Nat, (0 ≤ x5) ∧ (x5 ≤ 1000 + 9 * 1073741824 + x9 * 1073741824) ∧ (x9 ≤ (el l v6).fCites.length) ∧ (List.length ((el l v6).fCites) - x9 < N) ∧ M = weiIS_L2 rec l depth v5 v6 w5 w8 (weiIS_L0 rec l depth n0) (weiIS_L1 rec l depth v5 v6 (weiIS_L0 rec l depth n0) n1) N x5 x9 ∧ S = (sx 112 [(0, (jL (l.map aInline))), (1, (jI (depth))), (5, (jI (x5))), (6, (jI (((v6 : Nat) : Int)))), (7, (.ptr 7 0)), (9, (jI (((x9 : Nat) : Int))))] [(7, (.cells 48 (sInline (el l v6))))] [])) (by kernel_rfl) ⟨_, _, by first | omega | assumption | (simp only [lenM_eq]; omega) | (simp; done) | (simp; omega), by first | omega | assumption | (simp only [lenM_eq]; omega) | (simp; done) | (simp; omega), by first | omega | assumption | (simp only [lenM_eq]; omega) | (simp; done) | (simp; omega), by omega, rfl, rfl⟩ (WK (by kernel_rfl)) ?_
          rintro n2 M S ⟨x5, x9, hx, hx2, hx3, hF2, rfl, rfl⟩
          obtain ⟨n2, rfl⟩ : ∃ k, n2 = k + 1 := ⟨n2 - 1, by omega⟩
          refine UF (weiIS_L2.eq_2 ..) ?_
          refine GO (tn 5 z) (by kernel_rfl) ?_
          refine CSd (fun h5p h5 => ?_) (fun h5p h5 => ?_)
          · have := lenM_eq aCited ((el l v6).fCites)
            have hcc := wl_el (w := wCited) (l := (el l v6).fCites) (i := x9) (by omega)
            simp only [wCited, wStr] at hcc
            have := quo_eq (((ByteArray.size ((el ((el l v6).fCites) x9).fKey) + ByteArray.size ((el ((el l v6).fCites) x9).fPrefix) + ByteArray.size ((el ((el l v6).fCites) x9).fSuffix) : Nat) : Int)) 40 (by decide) (by decide)
            refine GO (kb h5 (tn 3 (ke (el_aCited ((el l v6).fCites) x9 (by first | omega | (simp only [lenM_eq, true_and]; omega))) (tn 10 (kn (wrE ((((ByteArray.size ((el ((el l v6).fCites) x9).fKey) : Nat) : Int)) + (((ByteArray.size ((el ((el l v6).fCites) x9).fPrefix) : Nat) : Int))) (((ByteArray.size ((el ((el l v6).fCites) x9).fKey) + ByteArray.size ((el ((el l v6).fCites) x9).fPrefix) : Nat) : Int)) (by omega)) (tn 3 (kn (wrE ((((ByteArray.size ((el ((el l v6).fCites) x9).fKey) + ByteArray.size ((el ((el l v6).fCites) x9).fPrefix) : Nat) : Int)) + (((ByteArray.size ((el ((el l v6).fCites) x9).fSuffix) : Nat) : Int))) (((ByteArray.size ((el ((el l v6).fCites) x9).fKey) + ByteArray.size ((el ((el l v6).fCites) x9).fPrefix) + ByteArray.size ((el ((el l v6).fCites) x9).fSuffix) : Nat) : Int)) (by omega)) (kp (show (40 : Int) ≠ 0 from (by decide)) (kn (wrE ((x5) + (quo .i64 (((ByteArray.size ((el ((el l v6).fCites) x9).fKey) + ByteArray.size ((el ((el l v6).fCites) x9).fPrefix) + ByteArray.size ((el ((el l v6).fCites) x9).fSuffix) : Nat) : Int)) (40))) (x5 + (quo .i64 (((ByteArray.size ((el ((el l v6).fCites) x9).fKey) + ByteArray.size ((el ((el l v6).fCites) x9).fPrefix) + ByteArray.size ((el ((el l v6).fCites) x9).fSuffix) : Nat) : Int)) (40))) (by omega)) (tn 2 (kn (wrE ((((x9 : Nat) : Int)) + 1) (((x9 + 1 : Nat) : Int)) (by omega)) (tn 1 z)))))))))))) (by kernel_rfl) ?_
            exact AG ⟨_, _, by first | omega | assumption | (simp only [lenM_eq]; omega) | (simp; done) | (simp; omega), by first | omega | assumption | (simp only [lenM_eq]; omega) | (simp; done) | (simp; omega), by first | omega | assumption | (simp only [lenM_eq]; omega) | (simp; done) | (simp; omega), by omega, rfl, rfl⟩ (WK (by kernel_rfl)) (by kernel_rfl) (Nat.lt_succ_self _)
          · have := lenM_eq aCited ((el l v6).fCites)
            refine GO (kb h5 z) (by kernel_rfl) ?_
            have := hrb ((el l v6).fKids) (depth + 1) (by first | assumption | omega | decide | (simp; done) | (simp; omega)) (by first | assumption | omega | decide | (simp; done) | (simp; omega)) (by first | assumption | omega | decide | (simp; done) | (simp; omega)) (by first | assumption | omega | decide | (simp; done) | (simp; omega))
            refine OUT (tn 4 (kn (wrE ((depth) + 1) (depth + 1) (by omega)) (kc (hrec ((el l v6).fKids) (depth + 1) (by first | assumption | omega | decide | (simp; done) | (simp; omega)) (by first | assumption | omega | decide | (simp; done) | (simp; omega)) (by first | assumption | omega | decide | (simp; done) | (simp; omega)) (by first | assumption | omega | decide | (simp; done) | (simp; omega))) (kn (wrE ((x5) + (rec ((el l v6).fKids) (depth + 1))) (x5 + (rec ((el l v6).fKids) (depth + 1))) (by omega)) (tn 2 (kn (wrE ((((v6 : Nat) : Int)) + 1) (((v6 + 1 : Nat) : Int)) (by omega)) (tn 1 z))))))) (by kernel_rfl) ?_
            exact AG ⟨_, _, by first | omega | assumption | (simp only [lenM_eq]; omega) | (simp; done) | (simp; omega), by first | omega | assumption | (simp only [lenM_eq]; omega) | (simp; done) | (simp; omega), by omega, rfl, rfl⟩ (WK (by kernel_rfl)) (by kernel_rfl) (Nat.lt_succ_self _)
    · have := lenM_eq aInline l
      refine GO (kb h2 z) (by kernel_rfl) ?_
      refine OUT (tn 2 z) (by kernel_rfl) ?_
      exact EN (by kernel_rfl)
def weiIN : Nat → (List DInline) → Int → Int
  | 0, _, _ => default
  | n + 1, l, depth => weiIS (weiIN n) l depth
theorem quo40 (n : Nat) (h : n ≤ 1073741824) : 0 ≤ quo .i64 (n : Int) 40 ∧ quo .i64 (n : Int) 40 ≤ 1073741824 := by
  have := quo_eq (n : Int) 40 (by decide) (by decide) (by omega) (by omega)
  omega
theorem weiIS_L2_bd (M : Int) (rec : (List DInline) → Int → Int) (l : List DInline) (depth : Int) (v5 : Int) (v6 : Nat) (w5 : Int) (w8 : Nat) (k0 k1 : Int → Nat → Int) (hM : 0 ≤ M) (hw : wInline (el l v6) ≤ 1073741824) (hc : (el l v6).fCites.length ≤ 9)
    (hk : ∀ x : Int, 0 ≤ x → x ≤ 1000 + 18 * 1073741824 → 0 ≤ k0 (x + rec (el l v6).fKids (depth + 1)) (v6 + 1) ∧ k0 (x + rec (el l v6).fKids (depth + 1)) (v6 + 1) ≤ M) :
    ∀ (n : Nat) (x5 : Int) (x9 : Nat), 0 ≤ x5 → x5 ≤ 1000 + 9 * 1073741824 + x9 * 1073741824 → x9 ≤ (el l v6).fCites.length → 0 ≤ weiIS_L2 rec l depth v5 v6 w5 w8 k0 k1 n x5 x9 ∧ weiIS_L2 rec l depth v5 v6 w5 w8 k0 k1 n x5 x9 ≤ M := by
  intro n
  induction n with
  | zero => intro x5 x9 h1 h2 h3; rw [weiIS_L2]; exact ⟨Int.le_refl 0, hM⟩
  | succ n ih =>
    intro x5 x9 h1 h2 h3
    rw [weiIS_L2]
    have hlm := lenM_eq aCited (el l v6).fCites
    refine condP (fun r : Int => 0 ≤ r ∧ r ≤ M) (fun q => ?_) (fun q => hk _ h1 (by omega))
    have q1 := of_decide_eq_true q
    have hcw := wInline_eq (el l v6)
    have hcc := wl_el (w := wCited) (l := (el l v6).fCites) (i := x9) (by omega)
    simp only [wCited, wStr] at hcc
    have hq := quo40 (ByteArray.size ((el ((el l v6).fCites) x9).fKey) + ByteArray.size ((el ((el l v6).fCites) x9).fPrefix) + ByteArray.size ((el ((el l v6).fCites) x9).fSuffix)) (by omega)
    exact ih _ _ (by omega) (by omega) (by omega)
theorem weiIS_L1_bd (M : Int) (rec : (List DInline) → Int → Int) (l : List DInline) (depth : Int) (v5 : Int) (v6 : Nat) (k0 : Int → Nat → Int) (hM : 0 ≤ M) (hw : wInline (el l v6) ≤ 1073741824) (ha : (el l v6).fArgs.length ≤ 9) (hc : (el l v6).fCites.length ≤ 9)
    (hk : ∀ x : Int, 0 ≤ x → x ≤ 1000 + 18 * 1073741824 → 0 ≤ k0 (x + rec (el l v6).fKids (depth + 1)) (v6 + 1) ∧ k0 (x + rec (el l v6).fKids (depth + 1)) (v6 + 1) ≤ M) :
    ∀ (n : Nat) (w5 : Int) (w8 : Nat), 0 ≤ w5 → w5 ≤ 1000 + w8 * 1073741824 → w8 ≤ (el l v6).fArgs.length → 0 ≤ weiIS_L1 rec l depth v5 v6 k0 n w5 w8 ∧ weiIS_L1 rec l depth v5 v6 k0 n w5 w8 ≤ M := by
  intro n
  induction n with
  | zero => intro w5 w8 h1 h2 h3; rw [weiIS_L1]; exact ⟨Int.le_refl 0, hM⟩
  | succ n ih =>
    intro w5 w8 h1 h2 h3
    rw [weiIS_L1]
    have hlm := lenM_eq strAV (el l v6).fArgs
    refine condP (fun r : Int => 0 ≤ r ∧ r ≤ M) (fun q => ?_) (fun q => weiIS_L2_bd M rec l depth v5 v6 w5 w8 k0 _ hM hw hc hk _ _ _ h1 (by omega) (by omega))
    have q1 := of_decide_eq_true q
    have hcw := wInline_eq (el l v6)
    have hcc := wl_el (w := wStr) (l := (el l v6).fArgs) (i := w8) (by omega)
    simp only [wStr] at hcc
    have hq := quo40 (ByteArray.size (el ((el l v6).fArgs) w8)) (by omega)
    exact ih _ _ (by omega) (by omega) (by omega)
theorem weiIS_L0_bd (rec : (List DInline) → Int → Int) (l : List DInline) (depth : Int) (hl : wl wInline l ≤ 1073741824) (hd : 0 ≤ depth) (hd2 : depth ≤ 20) (hr : ∀ l' : List DInline, wl wInline l' < wl wInline l → 0 ≤ rec l' (depth + 1) ∧ rec l' (depth + 1) ≤ (22 - (depth + 1)) * 21474836480) :
    ∀ (n : Nat) (v5 : Int) (v6 : Nat), 0 ≤ v5 → v5 ≤ (22 - depth) * 21474836480 → 0 ≤ weiIS_L0 rec l depth n v5 v6 ∧ weiIS_L0 rec l depth n v5 v6 ≤ (22 - depth) * 21474836480
  | 0, v5, v6, h1, h2 => by show (0 : Int) ≤ 0 ∧ (0 : Int) ≤ _; omega
  | n + 1, v5, v6, h1, h2 => by
    rw [weiIS_L0]
    have hlm := lenM_eq aInline l
    refine condP (fun r : Int => 0 ≤ r ∧ r ≤ (22 - depth) * 21474836480) (fun q => condP (fun r : Int => 0 ≤ r ∧ r ≤ (22 - depth) * 21474836480) (fun _ => by show (0 : Int) ≤ 1000 ∧ (1000 : Int) ≤ _; omega) (fun q2 => ?_)) (fun q => ⟨h1, h2⟩)
    have q1 := of_decide_eq_true (cond_ff q).1
    have q3 := of_decide_eq_true (cond_ff q).2
    have q4 := of_decide_eq_false (cond_tt q2).2
    have q5 := of_decide_eq_false (cond_tt (cond_tt q2).1).2
    have hl2 := lenM_eq aCited (el l v6).fCites
    have hl3 := lenM_eq strAV (el l v6).fArgs
    have hce := wl_el (w := wInline) (l := l) (i := v6) (by omega)
    have hcw := wInline_eq (el l v6)
    have hq := hr (el l v6).fKids (by omega)
    refine weiIS_L1_bd _ rec l depth v5 v6 _ (by omega) (by omega) (by omega) (by omega) (fun x hx1 hx2 => weiIS_L0_bd rec l depth hl hd hd2 hr n _ _ (by omega) (by omega)) _ _ _ h1 (by omega) (by omega)
theorem weiIN_bd : ∀ (n : Nat) (l : List DInline) (depth : Int), wl wInline l < n → wl wInline l ≤ 1073741824 → 0 ≤ depth → depth ≤ 21 → 0 ≤ weiIN n l depth ∧ weiIN n l depth ≤ (22 - depth) * 21474836480
  | 0, l, depth, h, _, _, _ => by omega
  | n + 1, l, depth, h, hl, hd, hd2 => by
    have hw_0 := wl_len (w := wInline) wInline_pos l
    rw [weiIN, weiIS]
    refine condP (fun r : Int => 0 ≤ r ∧ r ≤ (22 - depth) * 21474836480) (fun _ => by show (0 : Int) ≤ 1000 ∧ (1000 : Int) ≤ _; omega) (fun q => ?_)
    have q1 := of_decide_eq_false (cond_tt q).1
    exact weiIS_L0_bd _ l depth hl hd (by omega) (fun l' q => weiIN_bd n l' (depth + 1) (by omega) (by omega) (by omega) (by omega)) _ _ _ (by omega) (by simp only [lenM_eq]; omega)
theorem weiIN_to : ∀ (n : Nat) (l : List DInline) (depth : Int), wl wInline l < n → wl wInline l ≤ 1073741824 → 0 ≤ depth → depth ≤ 21 → CallTo Tryz.prog 34 [(jL (l.map aInline)), (jI (depth))] [] [] (jI (weiIN n l depth)) [] []
  | 0, l, depth, h0, _, _, _ => absurd h0 (Nat.not_lt_zero _)
  | n + 1, l, depth, h0, hl, hd, hd2 => by
    exact weiI_st (weiIN n) l depth hl hd hd2 (fun l' depth' q1 hl' hd' hd2' => weiIN_to n l' depth' (by omega) hl' hd' hd2') (fun l' depth' q1 hl' hd' hd2' => weiIN_bd n l' depth' (by omega) hl' hd' hd2')
def weiI (l : List DInline) (depth : Int) : Int := weiIN (wl wInline l + 1) l depth
theorem weiI_to (l : List DInline) (depth : Int) (hl : wl wInline l ≤ 1073741824) (hd : 0 ≤ depth) (hd2 : depth ≤ 21) : CallTo Tryz.prog 34 [(jL (l.map aInline)), (jI (depth))] [] [] (jI (weiI l depth)) [] [] := weiIN_to _ l depth (Nat.lt_succ_self _) hl hd hd2
theorem weiI_bd (l : List DInline) (depth : Int) (hl : wl wInline l ≤ 1073741824) (hd : 0 ≤ depth) (hd2 : depth ≤ 21) : 0 ≤ (weiI l depth) ∧ (weiI l depth) ≤ (22 - depth) * 21474836480 := weiIN_bd _ l depth (Nat.lt_succ_self _) hl hd hd2
end Go.Proofs.YtcdfhagcchmnhaaGreatDoor
namespace Go.Proofs.YtcdfhagcchmnhaaGreatDoor
open Go Go.Eng
def hvyIS_L0 (rec : (List DBlock) → Int → Int) (l : List DBlock) (depth : Int) : Nat → Int → Nat → Int
  | 0, _, _ => default
  | n0 + 1, v5, v6 => cond (cond (decide ((((v6 : Nat) : Int) : Int) < ((lenM aBlock l : Nat) : Int))) (decide ((v5 : Int) < 1000)) (false)) (cond (cond (decide ((((ByteArray.size ((el l v6).fText) + ByteArray.size ((el l v6).fInfo) + ByteArray.size ((el l v6).fDest) + ByteArray.size ((el l v6).fTitle) : Nat) : Int) : Int) > 300)) (true) (longB ((el l v6).fAttr))) (1000) (hvyIS_L0 rec l depth n0 (v5 + ((weiI ((el l v6).fLine) 0) + (rec ((el l v6).fKids) (depth + 1)))) (v6 + 1))) (v5)
def hvyIS (rec : (List DBlock) → Int → Int) (l : List DBlock) (depth : Int) : Int := cond (cond (decide ((depth : Int) > 20)) (true) (decide ((((lenM aBlock l : Nat) : Int) : Int) > 200))) (1000) (hvyIS_L0 rec l depth ((List.length l - (0)) + 1) (((lenM aBlock l : Nat) : Int)) 0)
set_option maxRecDepth 100000 in
set_option maxHeartbeats 4000000 in
theorem hvyI_st (rec : (List DBlock) → Int → Int) (l : List DBlock) (depth : Int) (hl : wl wBlock l ≤ 1073741824) (hd : 0 ≤ depth) (hd2 : depth ≤ 21) (hrec : ∀ (l' : List DBlock) (depth' : Int), wl wBlock l' < wl wBlock l → wl wBlock l' ≤ 1073741824 → 0 ≤ depth' → depth' ≤ 21 → CallTo Tryz.prog 17 [(jL ((l').map aBlock)), (jI (depth'))] [] [] (jI (rec l' depth')) [] []) (hrb : ∀ (l' : List DBlock) (depth' : Int), wl wBlock l' < wl wBlock l → wl wBlock l' ≤ 1073741824 → 0 ≤ depth' → depth' ≤ 21 → 0 ≤ (rec l' depth') ∧ (rec l' depth') ≤ (22 - depth') * 1000000000000) : CallTo Tryz.prog 17 [(jL (l.map aBlock)), (jI (depth))] [] [] (jI (hvyIS rec l depth)) [] [] := by
  have hw_0 := wl_len (w := wBlock) wBlock_pos l
  refine BEG (fun r : Int => (jI (r))) (hvyIS rec l depth) Tryz.func17 (by kernel_rfl) ?_
  refine UF (hvyIS.eq_1 ..) ?_
  refine GO (tn 7 (kj (decide ((depth : Int) > 20)) z (tn 2 z) z)) (by kernel_rfl) ?_
  refine CS (fun h1 => ?_) (fun h1 => ?_)
  · have := lenM_eq aBlock l
    refine GO (kb h1 (tn 1 z)) (by kernel_rfl) ?_
    exact EN (by kernel_rfl)
  · have := lenM_eq aBlock l
    obtain ⟨h1a, h1o⟩ := cond_tt h1
    have h1ap := of_decide_eq_false h1a
    have := lenM_eq aBlock l
    have h1op := of_decide_eq_false h1o
    refine GO (kb h1 (tn 1 z)) (by kernel_rfl) ?_
    refine LP (fun N M S => ∃ v5 : Int, ∃ v6 : Nat, (0 ≤ v5) ∧ (v5 ≤ (22 - depth) * 1000000000000) ∧ (List.length l - v6 < N) ∧ M = hvyIS_L0 rec l depth N v5 v6 ∧ S = (sx 63 [(0, (jL (l.map aBlock))), (1, (jI (depth))), (5, (jI (v5))), (6, (jI (((v6 : Nat) : Int))))] [] [])) (by kernel_rfl) ⟨_, _, by first | omega | assumption | (simp only [lenM_eq]; omega) | (simp; done) | (simp; omega), by first | omega | assumption | (simp only [lenM_eq]; omega) | (simp; done) | (simp; omega), by omega, rfl, rfl⟩ (WK (by kernel_rfl)) ?_
    rintro n0 M S ⟨v5, v6, hv, hv2, hF0, rfl, rfl⟩
    obtain ⟨n0, rfl⟩ : ∃ k, n0 = k + 1 := ⟨n0 - 1, by omega⟩
    refine UF (hvyIS_L0.eq_2 ..) ?_
    refine GO (tn 5 (kj (decide ((((v6 : Nat) : Int) : Int) < ((lenM aBlock l : Nat) : Int))) (tn 2 z) z z)) (by kernel_rfl) ?_
    refine CS (fun h2 => ?_) (fun h2 => ?_)
    · have := lenM_eq aBlock l
      obtain ⟨h2a, h2o⟩ := cond_ff h2
      have := lenM_eq aBlock l
      have h2ap := of_decide_eq_true h2a
      have hce := wl_el (w := wBlock) (l := l) (i := v6) (by omega)
      have hcw := wBlock_eq (el l v6)
      simp only [wStr, w1] at hcw
      have h2op := of_decide_eq_true h2o
      refine GO (kb h2 (tn 2 (ke (el_aBlock l v6 (by first | omega | (simp only [lenM_eq, true_and]; omega))) (tn 9 (kn (wrE ((((ByteArray.size ((el l v6).fText) : Nat) : Int)) + (((ByteArray.size ((el l v6).fInfo) : Nat) : Int))) (((ByteArray.size ((el l v6).fText) + ByteArray.size ((el l v6).fInfo) : Nat) : Int)) (by omega)) (tn 3 (kn (wrE ((((ByteArray.size ((el l v6).fText) + ByteArray.size ((el l v6).fInfo) : Nat) : Int)) + (((ByteArray.size ((el l v6).fDest) : Nat) : Int))) (((ByteArray.size ((el l v6).fText) + ByteArray.size ((el l v6).fInfo) + ByteArray.size ((el l v6).fDest) : Nat) : Int)) (by omega)) (tn 3 (kn (wrE ((((ByteArray.size ((el l v6).fText) + ByteArray.size ((el l v6).fInfo) + ByteArray.size ((el l v6).fDest) : Nat) : Int)) + (((ByteArray.size ((el l v6).fTitle) : Nat) : Int))) (((ByteArray.size ((el l v6).fText) + ByteArray.size ((el l v6).fInfo) + ByteArray.size ((el l v6).fDest) + ByteArray.size ((el l v6).fTitle) : Nat) : Int)) (by omega)) (tn 2 (kj (decide ((((ByteArray.size ((el l v6).fText) + ByteArray.size ((el l v6).fInfo) + ByteArray.size ((el l v6).fDest) + ByteArray.size ((el l v6).fTitle) : Nat) : Int) : Int) > 300)) z (tn 2 (hc (fun h => by have j0 := h.2; have j0p := of_decide_eq_false j0; exact (longB_to ((el l v6).fAttr) (by first | assumption | omega | decide | (simp; done) | (simp; omega)))) z)) z))))))))))) (by kernel_rfl) ?_
      refine CS (fun h3 => ?_) (fun h3 => ?_)
      · refine GO (kb h3 (tn 1 z)) (by kernel_rfl) ?_
        refine OUT z (by kernel_rfl) ?_
        exact EN (by kernel_rfl)
      · obtain ⟨h3a, h3o⟩ := cond_tt h3
        have h3ap := of_decide_eq_false h3a
        refine GO (kb h3 z) (by kernel_rfl) ?_
        have := weiI_bd ((el l v6).fLine) 0 (by first | assumption | omega | decide | (simp; done) | (simp; omega)) (by first | assumption | omega | decide | (simp; done) | (simp; omega)) (by first | assumption | omega | decide | (simp; done) | (simp; omega))
        have := hrb ((el l v6).fKids) (depth + 1) (by first | assumption | omega | decide | (simp; done) | (simp; omega)) (by first | assumption | omega | decide | (simp; done) | (simp; omega)) (by first | assumption | omega | decide | (simp; done) | (simp; omega)) (by first | assumption | omega | decide | (simp; done) | (simp; omega))
        have d4 := (weiI_to ((el l v6).fLine) 0 (by first | assumption | omega | decide | (simp; done) | (simp; omega)) (by first | assumption | omega | decide | (simp; done) | (simp; omega)) (by first | assumption | omega | decide | (simp; done) | (simp; omega)))
        have d5 := wrE ((depth) + 1) (depth + 1) (by omega)
        have d6 := (hrec ((el l v6).fKids) (depth + 1) (by first | assumption | omega | decide | (simp; done) | (simp; omega)) (by first | assumption | omega | decide | (simp; done) | (simp; omega)) (by first | assumption | omega | decide | (simp; done) | (simp; omega)) (by first | assumption | omega | decide | (simp; done) | (simp; omega)))
        have d7 := wrE ((weiI ((el l v6).fLine) 0) + (rec ((el l v6).fKids) (depth + 1))) ((weiI ((el l v6).fLine) 0) + (rec ((el l v6).fKids) (depth + 1))) (by omega)
        have d8 := wrE ((v5) + ((weiI ((el l v6).fLine) 0) + (rec ((el l v6).fKids) (depth + 1)))) (v5 + ((weiI ((el l v6).fLine) 0) + (rec ((el l v6).fKids) (depth + 1)))) (by omega)
        refine DR3 (tn 3 (ko (cO d4) (kp d4 (tn 4 (ko (nO d5) (kp d5 (ko (cO d6) (kp d6 (tn 1 (ko (nO d7) (kp d7 (ko (nO d8) (kp d8 (tn 2 (kn (wrE ((((v6 : Nat) : Int)) + 1) (((v6 + 1 : Nat) : Int)) (by omega)) (tn 1 z)))))))))))))))) (by kernel_rfl) (by kernel_rfl) (by kernel_rfl) ?_
        exact AG ⟨_, _, by first | omega | assumption | (simp only [lenM_eq]; omega) | (simp; done) | (simp; omega), by first | omega | assumption | (simp only [lenM_eq]; omega) | (simp; done) | (simp; omega), by omega, rfl, rfl⟩ (WK (by kernel_rfl)) (by kernel_rfl) (Nat.lt_succ_self _)
    · have := lenM_eq aBlock l
      refine GO (kb h2 z) (by kernel_rfl) ?_
      refine OUT (tn 2 z) (by kernel_rfl) ?_
      exact EN (by kernel_rfl)
def hvyIN : Nat → (List DBlock) → Int → Int
  | 0, _, _ => default
  | n + 1, l, depth => hvyIS (hvyIN n) l depth
theorem hvyIS_L0_bd (rec : (List DBlock) → Int → Int) (l : List DBlock) (depth : Int) (hl : wl wBlock l ≤ 1073741824) (hd : 0 ≤ depth) (hd2 : depth ≤ 20) (hr : ∀ l' : List DBlock, wl wBlock l' < wl wBlock l → 0 ≤ rec l' (depth + 1) ∧ rec l' (depth + 1) ≤ (22 - (depth + 1)) * 1000000000000) :
    ∀ (n : Nat) (v5 : Int) (v6 : Nat), 0 ≤ v5 → v5 ≤ (22 - depth) * 1000000000000 → 0 ≤ hvyIS_L0 rec l depth n v5 v6 ∧ hvyIS_L0 rec l depth n v5 v6 ≤ (22 - depth) * 1000000000000 := by
  intro n
  induction n with
  | zero => intro v5 v6 h1 h2; rw [hvyIS_L0]; exact ⟨Int.le_refl 0, show (0 : Int) ≤ (22 - depth) * 1000000000000 by omega⟩
  | succ n ih =>
    intro v5 v6 h1 h2
    rw [hvyIS_L0]
    have hlm := lenM_eq aBlock l
    refine condP (fun r : Int => 0 ≤ r ∧ r ≤ (22 - depth) * 1000000000000) (fun q => condP (fun r : Int => 0 ≤ r ∧ r ≤ (22 - depth) * 1000000000000) (fun _ => by show (0 : Int) ≤ 1000 ∧ (1000 : Int) ≤ _; omega) (fun q2 => ?_)) (fun q => ⟨h1, h2⟩)
    have q1 := of_decide_eq_true (cond_ff q).1
    have q3 := of_decide_eq_true (cond_ff q).2
    have hce := wl_el (w := wBlock) (l := l) (i := v6) (by omega)
    have hcw := wBlock_eq (el l v6)
    have hq := hr (el l v6).fKids (by omega)
    have hq2 := weiI_bd (el l v6).fLine 0 (by omega) (by omega) (by omega)
    exact ih _ _ (by omega) (by omega)
theorem hvyIN_bd : ∀ (n : Nat) (l : List DBlock) (depth : Int), wl wBlock l < n → wl wBlock l ≤ 1073741824 → 0 ≤ depth → depth ≤ 21 → 0 ≤ hvyIN n l depth ∧ hvyIN n l depth ≤ (22 - depth) * 1000000000000
  | 0, l, depth, h, _, _, _ => by omega
  | n + 1, l, depth, h, hl, hd, hd2 => by
    have hw_0 := wl_len (w := wBlock) wBlock_pos l
    rw [hvyIN, hvyIS]
    refine condP (fun r : Int => 0 ≤ r ∧ r ≤ (22 - depth) * 1000000000000) (fun _ => by show (0 : Int) ≤ 1000 ∧ (1000 : Int) ≤ _; omega) (fun q => ?_)
    have q1 := of_decide_eq_false (cond_tt q).1
    exact hvyIS_L0_bd _ l depth hl hd (by omega) (fun l' q => hvyIN_bd n l' (depth + 1) (by omega) (by omega) (by omega) (by omega)) _ _ _ (by omega) (by simp only [lenM_eq]; omega)
theorem hvyIN_to : ∀ (n : Nat) (l : List DBlock) (depth : Int), wl wBlock l < n → wl wBlock l ≤ 1073741824 → 0 ≤ depth → depth ≤ 21 → CallTo Tryz.prog 17 [(jL (l.map aBlock)), (jI (depth))] [] [] (jI (hvyIN n l depth)) [] []
  | 0, l, depth, h0, _, _, _ => absurd h0 (Nat.not_lt_zero _)
  | n + 1, l, depth, h0, hl, hd, hd2 => by
    exact hvyI_st (hvyIN n) l depth hl hd hd2 (fun l' depth' q1 hl' hd' hd2' => hvyIN_to n l' depth' (by omega) hl' hd' hd2') (fun l' depth' q1 hl' hd' hd2' => hvyIN_bd n l' depth' (by omega) hl' hd' hd2')
def hvyI (l : List DBlock) (depth : Int) : Int := hvyIN (wl wBlock l + 1) l depth
theorem hvyI_to (l : List DBlock) (depth : Int) (hl : wl wBlock l ≤ 1073741824) (hd : 0 ≤ depth) (hd2 : depth ≤ 21) : CallTo Tryz.prog 17 [(jL (l.map aBlock)), (jI (depth))] [] [] (jI (hvyI l depth)) [] [] := hvyIN_to _ l depth (Nat.lt_succ_self _) hl hd hd2
theorem hvyI_bd (l : List DBlock) (depth : Int) (hl : wl wBlock l ≤ 1073741824) (hd : 0 ≤ depth) (hd2 : depth ≤ 21) : 0 ≤ (hvyI l depth) ∧ (hvyI l depth) ≤ (22 - depth) * 1000000000000 := hvyIN_bd _ l depth (Nat.lt_succ_self _) hl hd hd2
def smlD_L0 (d : DDoc) : Nat → Nat → Bool
  | 0, _ => default
  | n0 + 1, v3 => cond (decide ((((v3 : Nat) : Int) : Int) < ((lenM aPair d.fMeta : Nat) : Int))) (cond (decide ((((ByteArray.size ((el d.fMeta v3).fKey) + ByteArray.size ((el d.fMeta v3).fValue) : Nat) : Int) : Int) > 300)) (false) (smlD_L0 d n0 (v3 + 1))) (decide ((hvyI d.fBlocks 0 : Int) ≤ 120))
def smlD (d : DDoc) : Bool := cond (decide ((((lenM aPair d.fMeta : Nat) : Int) : Int) > 70)) (false) (smlD_L0 d ((List.length d.fMeta - (0)) + 1) 0)
set_option maxRecDepth 100000 in
set_option maxHeartbeats 4000000 in
theorem smlD_to (d : DDoc) (hd : wDoc d ≤ 1073741824) : CallTo Tryz.prog 5 [(.av (cDoc d))] [] [] (jB (smlD d)) [] [] := by
  have hwd := wDoc_eq d
  have hw_0 := wl_len (w := wPair) wPair_pos d.fMeta
  refine BEG (fun r : Bool => (jB (r))) (smlD d) Tryz.func5 (by kernel_rfl) ?_
  refine UF (smlD.eq_1 ..) ?_
  refine GO (tn 6 z) (by kernel_rfl) ?_
  refine CSd (fun h1p h1 => ?_) (fun h1p h1 => ?_)
  · have := lenM_eq aPair d.fMeta
    refine GO (kb h1 (tn 1 z)) (by kernel_rfl) ?_
    exact EN (by kernel_rfl)
  · have := lenM_eq aPair d.fMeta
    refine GO (kb h1 (tn 1 z)) (by kernel_rfl) ?_
    refine LP (fun N M S => ∃ v3 : Nat, (List.length d.fMeta - v3 < N) ∧ M = smlD_L0 d N v3 ∧ S = (sx 35 [(1, (.ptr 1 0)), (3, (jI (((v3 : Nat) : Int))))] [(1, (.cells 25 (sDoc d)))] [])) (by kernel_rfl) ⟨_, by omega, rfl, rfl⟩ (WK (by kernel_rfl)) ?_
    rintro n0 M S ⟨v3, hF0, rfl, rfl⟩
    obtain ⟨n0, rfl⟩ : ∃ k, n0 = k + 1 := ⟨n0 - 1, by omega⟩
    refine UF (smlD_L0.eq_2 ..) ?_
    refine GO (tn 5 z) (by kernel_rfl) ?_
    refine CSd (fun h2p h2 => ?_) (fun h2p h2 => ?_)
    · have := lenM_eq aPair d.fMeta
      have hce := wl_el (w := wPair) (l := d.fMeta) (i := v3) (by omega)
      simp only [wPair, wStr] at hce
      refine GO (kb h2 z) (by kernel_rfl) ?_
      have d3 := (el_aPair d.fMeta v3 (by first | omega | (simp only [lenM_eq, true_and]; omega)))
      have d4 := (el_aPair d.fMeta v3 (by first | omega | (simp only [lenM_eq, true_and]; omega)))
      have d5 := wrE ((((ByteArray.size ((el d.fMeta v3).fKey) : Nat) : Int)) + (((ByteArray.size ((el d.fMeta v3).fValue) : Nat) : Int))) (((ByteArray.size ((el d.fMeta v3).fKey) + ByteArray.size ((el d.fMeta v3).fValue) : Nat) : Int)) (by omega)
      refine DR3 (tn 3 (ko (eO d3) (kp d3 (tn 6 (ko (eO d4) (kp d4 (tn 3 (ko (nO d5) (kp d5 (tn 1 z)))))))))) (by kernel_rfl) (by kernel_rfl) (by kernel_rfl) ?_
      refine CSd (fun h6p h6 => ?_) (fun h6p h6 => ?_)
      · refine GO (kb h6 (tn 1 z)) (by kernel_rfl) ?_
        refine OUT z (by kernel_rfl) ?_
        exact EN (by kernel_rfl)
      · refine GO (kb h6 (tn 1 (kn (wrE ((((v3 : Nat) : Int)) + 1) (((v3 + 1 : Nat) : Int)) (by omega)) (tn 1 z)))) (by kernel_rfl) ?_
        exact AG ⟨_, by omega, rfl, rfl⟩ (WK (by kernel_rfl)) (by kernel_rfl) (Nat.lt_succ_self _)
    · have := lenM_eq aPair d.fMeta
      refine GO (kb h2 z) (by kernel_rfl) ?_
      have := hvyI_bd d.fBlocks 0 (by first | assumption | omega | decide | (simp; done) | (simp; omega)) (by first | assumption | omega | decide | (simp; done) | (simp; omega)) (by first | assumption | omega | decide | (simp; done) | (simp; omega))
      refine OUT (tn 2 (kc (hvyI_to d.fBlocks 0 (by first | assumption | omega | decide | (simp; done) | (simp; omega)) (by first | assumption | omega | decide | (simp; done) | (simp; omega)) (by first | assumption | omega | decide | (simp; done) | (simp; omega))) (tn 2 z))) (by kernel_rfl) ?_
      exact EN (by kernel_rfl)
end Go.Proofs.YtcdfhagcchmnhaaGreatDoor
namespace Go.Proofs.YtcdfhagcchmnhaaGreatDoor
open Go Go.Eng
theorem wl_take {α : Type} [Inhabited α] {w : α → Nat} : ∀ {l : List α} {i : Nat}, i < l.length → wl w (l.take (i + 1)) = wl w (l.take i) + w (el l i) ∧ wl w (l.take (i + 1)) ≤ wl w l
  | x :: l, 0, _ => by simp [wl, el]
  | x :: l, i + 1, h => by
    have := wl_take (w := w) (l := l) (i := i) (by simpa using h)
    have e : el (x :: l) (i + 1) = el l i := by simp [el]
    simp only [List.take_succ_cons, wl, e]; omega
theorem wl_take_le {α : Type} {w : α → Nat} : ∀ (l : List α) (i : Nat), wl w (l.take i) ≤ wl w l
  | [], i => by simp [wl]
  | x :: l, 0 => by simp [wl]
  | x :: l, i + 1 => by have := wl_take_le (w := w) l i; simp only [List.take_succ_cons, wl]; omega
theorem drop_el {α : Type} [Inhabited α] {l : List α} {i : Nat} (h : i < l.length) : l.drop i = el l i :: l.drop (i + 1) := by
  rw [List.drop_eq_getElem_cons h]; simp [el, h]
theorem loop_flat {α β : Type} [Inhabited α] (f : α → AV) (l : List α) (g : α → List β) (F : Nat → List β → Nat → List β) (hF : ∀ n acc i, F (n + 1) acc i = cond (decide ((((i : Nat) : Int) : Int) < ((lenM f l : Nat) : Int))) (F n (acc ++ g (el l i)) (i + 1)) acc) : ∀ (n : Nat) (acc : List β) (i : Nat), l.length - i < n → F n acc i = acc ++ (l.drop i).flatMap g
  | 0, acc, i, h => by omega
  | n + 1, acc, i, h => by
    have hl := lenM_eq f l
    rw [hF]
    by_cases hi : i < l.length
    · rw [show decide ((((i : Nat) : Int) : Int) < ((lenM f l : Nat) : Int)) = true from decide_eq_true (by omega), cond_true, loop_flat f l g F hF n _ _ (by omega), drop_el hi]
      simp
    · rw [show decide ((((i : Nat) : Int) : Int) < ((lenM f l : Nat) : Int)) = false from decide_eq_false (by omega), cond_false, List.drop_eq_nil_of_le (by omega)]
      simp
theorem flat_wl {α β : Type} {w : α → Nat} {w' : β → Nat} {g : α → List β} : ∀ {l : List α}, (∀ x ∈ l, wl w' (g x) ≤ w x) → wl w' (l.flatMap g) ≤ wl w l
  | [], _ => by simp [wl]
  | x :: l, h => by
    have h1 := h x (by simp)
    have h2 := flat_wl (l := l) (fun y hy => h y (by simp [hy]))
    simp only [List.flatMap_cons, wl_append, wl]; omega
theorem flat_eq {α β : Type} {g g' : α → List β} : ∀ {l : List α}, (∀ x ∈ l, g x = g' x) → l.flatMap g = l.flatMap g'
  | [], _ => rfl
  | x :: l, h => by rw [List.flatMap_cons, List.flatMap_cons, h x (by simp), flat_eq (fun y hy => h y (by simp [hy]))]
theorem flat_len {α β : Type} {w : α → Nat} {g : α → List β} : ∀ {l : List α}, (∀ x ∈ l, (g x).length ≤ w x) → (l.flatMap g).length ≤ wl w l
  | [], _ => by simp [wl]
  | x :: l, h => by
    have h1 := h x (by simp)
    have h2 := flat_len (l := l) (fun y hy => h y (by simp [hy]))
    simp only [List.flatMap_cons, List.length_append, wl]; omega
def dpIS_L0 (rec : (List DInline) → List DInline) (l : List DInline) : Nat → (List DInline) → Nat → List DInline
  | 0, _, _ => default
  | n0 + 1, v3, v4 => cond (decide ((((v4 : Nat) : Int) : Int) < ((lenM aInline l : Nat) : Int))) (dpIS_L0 rec l n0 ((v3 ++ ([el l v4])) ++ (rec ((el l v4).fKids))) (v4 + 1)) (v3)
def dpIS (rec : (List DInline) → List DInline) (l : List DInline) : List DInline := dpIS_L0 rec l ((List.length l - (0)) + 1) ([]) 0
set_option maxRecDepth 100000 in
set_option maxHeartbeats 4000000 in
theorem dpI_st (rec : (List DInline) → List DInline) (l : List DInline) (hl : wl wInline l ≤ 1073741824) (hrec : ∀ (l' : List DInline), wl wInline l' < wl wInline l → wl wInline l' ≤ 1073741824 → CallTo Tryz.prog 55 [(jL ((l').map aInline))] [] [] (jL ((rec l').map aInline)) [] []) (hrb : ∀ (l' : List DInline), wl wInline l' < wl wInline l → wl wInline l' ≤ 1073741824 → (rec l').length ≤ wl wInline l') : CallTo Tryz.prog 55 [(jL (l.map aInline))] [] [] (jL ((dpIS rec l).map aInline)) [] [] := by
  have hw_0 := wl_len (w := wInline) wInline_pos l
  refine BEG (fun r : List DInline => (jL (r.map aInline))) (dpIS rec l) Tryz.func55 (by kernel_rfl) ?_
  refine UF (dpIS.eq_1 ..) ?_
  refine GO (tn 3 z) (by kernel_rfl) ?_
  refine LP (fun N M S => ∃ gv3 : Nat, ∃ v3 : List DInline, ∃ v4 : Nat, (v3.length ≤ wl wInline (l.take v4)) ∧ (List.length l - v4 < N) ∧ M = dpIS_L0 rec l N v3 v4 ∧ S = (sx 27 [(0, (jL (l.map aInline))), (3, (.own (203, 49) (gv3) 10 (v3.map aInline))), (4, (jI (((v4 : Nat) : Int))))] [] [((203, 49), gv3)])) (by kernel_rfl) ⟨0, _, _, by first | omega | assumption | (simp only [lenM_eq]; omega) | (simp; done) | (simp; omega), by omega, rfl, rfl⟩ (WKf [(3, (.own (203, 49) ((0)) 10 (([]).map aInline)))] (ac (show ((([]).map aInline) : List AV) = [] ∧ 0 < 49 ∧ ((0) : Nat) = (0) from ⟨rfl, by decide, rfl⟩) an) (by kernel_rfl)) ?_
  rintro n0 M S ⟨gv3, v3, v4, hv, hF0, rfl, rfl⟩
  obtain ⟨n0, rfl⟩ : ∃ k, n0 = k + 1 := ⟨n0 - 1, by omega⟩
  refine UF (dpIS_L0.eq_2 ..) ?_
  refine GO (tn 4 z) (by kernel_rfl) ?_
  refine CSd (fun h1p h1 => ?_) (fun h1p h1 => ?_)
  · have := lenM_eq aInline l
    have hce := wl_el (w := wInline) (l := l) (i := v4) (by omega)
    have hcw := wInline_eq (el l v4)
    simp only [wStr, w1] at hcw
    have htk := wl_take (w := wInline) (l := l) (i := v4) (by omega)
    have := hrb ((el l v4).fKids) (by first | assumption | omega | decide | (simp; done) | (simp; omega)) (by first | assumption | omega | decide | (simp; done) | (simp; omega))
    refine GO (kb h1 (tn 3 (ke (el_aInline l v4 (by first | omega | (simp only [lenM_eq, true_and]; omega))) (tn 1 (kp (show Uni 10 [(cInline (el l v4))] from (uni_one rfl rfl)) (kp (show (gv3 : Nat) = gv3 ∧ Uni 10 [(cInline (el l v4))] ∧ (((v3.map aInline) : List AV).length + ([(cInline (el l v4))] : List AV).length) * 192 ≤ 140737488355328 from ⟨rfl, uni_one rfl rfl, by first | omega | (simp; done) | (simp; omega)⟩) (kw (ap1_aInline v3 (el l v4)) (tn 4 (ke (el_aInline l v4 (by first | omega | (simp only [lenM_eq, true_and]; omega))) (tn 2 (kc (hrec ((el l v4).fKids) (by first | assumption | omega | decide | (simp; done) | (simp; omega)) (by first | assumption | omega | decide | (simp; done) | (simp; omega))) (kp (show (gv3 + 1 : Nat) = gv3 + 1 ∧ Uni 10 ((rec ((el l v4).fKids)).map aInline) ∧ ((((v3 ++ ([el l v4])).map aInline) : List AV).length + (((rec ((el l v4).fKids)).map aInline) : List AV).length) * 192 ≤ 140737488355328 from ⟨rfl, uni_aInline _, by first | omega | (simp; done) | (simp; omega)⟩) (kw (apL aInline (v3 ++ ([el l v4])) (rec ((el l v4).fKids))) (tn 2 (kn (wrE ((((v4 : Nat) : Int)) + 1) (((v4 + 1 : Nat) : Int)) (by omega)) (tn 1 z)))))))))))))))) (by kernel_rfl) ?_
    exact AG ⟨gv3 + 1 + 1, _, _, by first | omega | assumption | (simp only [lenM_eq]; omega) | (simp; done) | (simp; omega), by omega, rfl, rfl⟩ (WK (by kernel_rfl)) (by kernel_rfl) (Nat.lt_succ_self _)
  · have := lenM_eq aInline l
    refine GO (kb h1 z) (by kernel_rfl) ?_
    refine OUT (tn 2 z) (by kernel_rfl) ?_
    exact EN (by kernel_rfl)
def dpIN : Nat → (List DInline) → List DInline
  | 0, _ => default
  | n + 1, l => dpIS (dpIN n) l
theorem dpIS_eq (rec : (List DInline) → List DInline) (l : List DInline) : dpIS rec l = l.flatMap (fun x => x :: rec x.fKids) := by
  have := loop_flat aInline l (fun x => x :: rec x.fKids) (dpIS_L0 rec l) (fun n acc i => by rw [dpIS_L0]; simp) ((List.length l - (0)) + 1) [] 0 (by omega)
  rw [dpIS, this]; simp
theorem dpIN_bd : ∀ (n : Nat) (l : List DInline), wl wInline l < n → wl wInline l ≤ 1073741824 → (dpIN n l).length ≤ wl wInline l
  | 0, l, h, _ => by omega
  | n + 1, l, h, hl => by
    rw [dpIN, dpIS_eq]
    refine flat_len (fun x hx => ?_)
    have h1 := wl_mem (w := wInline) hx
    have h2 := wInline_eq x
    have h3 := dpIN_bd n x.fKids (by omega) (by omega)
    simp only [List.length_cons]; omega
theorem dpIN_to : ∀ (n : Nat) (l : List DInline), wl wInline l < n → wl wInline l ≤ 1073741824 → CallTo Tryz.prog 55 [(jL (l.map aInline))] [] [] (jL ((dpIN n l).map aInline)) [] []
  | 0, l, h0, _ => absurd h0 (Nat.not_lt_zero _)
  | n + 1, l, h0, hl => by
    exact dpI_st (dpIN n) l hl (fun l' q1 hl' => dpIN_to n l' (by omega) hl') (fun l' q1 hl' => dpIN_bd n l' (by omega) hl')
def dpI (l : List DInline) : List DInline := dpIN (wl wInline l + 1) l
theorem dpI_to (l : List DInline) (hl : wl wInline l ≤ 1073741824) : CallTo Tryz.prog 55 [(jL (l.map aInline))] [] [] (jL ((dpI l).map aInline)) [] [] := dpIN_to _ l (Nat.lt_succ_self _) hl
theorem dpI_bd (l : List DInline) (hl : wl wInline l ≤ 1073741824) : (dpI l).length ≤ wl wInline l := dpIN_bd _ l (Nat.lt_succ_self _) hl
def lsBS_L0 (rec : (List DBlock) → List DBlock) (l : List DBlock) : Nat → (List DBlock) → Nat → List DBlock
  | 0, _, _ => default
  | n0 + 1, v3, v4 => cond (decide ((((v4 : Nat) : Int) : Int) < ((lenM aBlock l : Nat) : Int))) (lsBS_L0 rec l n0 ((v3 ++ ([el l v4])) ++ (rec ((el l v4).fKids))) (v4 + 1)) (v3)
def lsBS (rec : (List DBlock) → List DBlock) (l : List DBlock) : List DBlock := lsBS_L0 rec l ((List.length l - (0)) + 1) ([]) 0
set_option maxRecDepth 100000 in
set_option maxHeartbeats 4000000 in
theorem lsB_st (rec : (List DBlock) → List DBlock) (l : List DBlock) (hl : wl wBlock l ≤ 1073741824) (hrec : ∀ (l' : List DBlock), wl wBlock l' < wl wBlock l → wl wBlock l' ≤ 1073741824 → CallTo Tryz.prog 54 [(jL ((l').map aBlock))] [] [] (jL ((rec l').map aBlock)) [] []) (hrb : ∀ (l' : List DBlock), wl wBlock l' < wl wBlock l → wl wBlock l' ≤ 1073741824 → (rec l').length ≤ wl wBlock l') : CallTo Tryz.prog 54 [(jL (l.map aBlock))] [] [] (jL ((lsBS rec l).map aBlock)) [] [] := by
  have hw_0 := wl_len (w := wBlock) wBlock_pos l
  refine BEG (fun r : List DBlock => (jL (r.map aBlock))) (lsBS rec l) Tryz.func54 (by kernel_rfl) ?_
  refine UF (lsBS.eq_1 ..) ?_
  refine GO (tn 3 z) (by kernel_rfl) ?_
  refine LP (fun N M S => ∃ gv3 : Nat, ∃ v3 : List DBlock, ∃ v4 : Nat, (v3.length ≤ wl wBlock (l.take v4)) ∧ (List.length l - v4 < N) ∧ M = lsBS_L0 rec l N v3 v4 ∧ S = (sx 27 [(0, (jL (l.map aBlock))), (3, (.own (203, 45) (gv3) 11 (v3.map aBlock))), (4, (jI (((v4 : Nat) : Int))))] [] [((203, 45), gv3)])) (by kernel_rfl) ⟨0, _, _, by first | omega | assumption | (simp only [lenM_eq]; omega) | (simp; done) | (simp; omega), by omega, rfl, rfl⟩ (WKf [(3, (.own (203, 45) ((0)) 11 (([]).map aBlock)))] (ac (show ((([]).map aBlock) : List AV) = [] ∧ 0 < 45 ∧ ((0) : Nat) = (0) from ⟨rfl, by decide, rfl⟩) an) (by kernel_rfl)) ?_
  rintro n0 M S ⟨gv3, v3, v4, hv, hF0, rfl, rfl⟩
  obtain ⟨n0, rfl⟩ : ∃ k, n0 = k + 1 := ⟨n0 - 1, by omega⟩
  refine UF (lsBS_L0.eq_2 ..) ?_
  refine GO (tn 4 z) (by kernel_rfl) ?_
  refine CSd (fun h1p h1 => ?_) (fun h1p h1 => ?_)
  · have := lenM_eq aBlock l
    have hce := wl_el (w := wBlock) (l := l) (i := v4) (by omega)
    have hcw := wBlock_eq (el l v4)
    simp only [wStr, w1] at hcw
    have htk := wl_take (w := wBlock) (l := l) (i := v4) (by omega)
    have := hrb ((el l v4).fKids) (by first | assumption | omega | decide | (simp; done) | (simp; omega)) (by first | assumption | omega | decide | (simp; done) | (simp; omega))
    refine GO (kb h1 (tn 3 (ke (el_aBlock l v4 (by first | omega | (simp only [lenM_eq, true_and]; omega))) (tn 1 (kp (show Uni 11 [(cBlock (el l v4))] from (uni_one rfl rfl)) (kp (show (gv3 : Nat) = gv3 ∧ Uni 11 [(cBlock (el l v4))] ∧ (((v3.map aBlock) : List AV).length + ([(cBlock (el l v4))] : List AV).length) * 192 ≤ 140737488355328 from ⟨rfl, uni_one rfl rfl, by first | omega | (simp; done) | (simp; omega)⟩) (kw (ap1_aBlock v3 (el l v4)) (tn 4 (ke (el_aBlock l v4 (by first | omega | (simp only [lenM_eq, true_and]; omega))) (tn 2 (kc (hrec ((el l v4).fKids) (by first | assumption | omega | decide | (simp; done) | (simp; omega)) (by first | assumption | omega | decide | (simp; done) | (simp; omega))) (kp (show (gv3 + 1 : Nat) = gv3 + 1 ∧ Uni 11 ((rec ((el l v4).fKids)).map aBlock) ∧ ((((v3 ++ ([el l v4])).map aBlock) : List AV).length + (((rec ((el l v4).fKids)).map aBlock) : List AV).length) * 192 ≤ 140737488355328 from ⟨rfl, uni_aBlock _, by first | omega | (simp; done) | (simp; omega)⟩) (kw (apL aBlock (v3 ++ ([el l v4])) (rec ((el l v4).fKids))) (tn 2 (kn (wrE ((((v4 : Nat) : Int)) + 1) (((v4 + 1 : Nat) : Int)) (by omega)) (tn 1 z)))))))))))))))) (by kernel_rfl) ?_
    exact AG ⟨gv3 + 1 + 1, _, _, by first | omega | assumption | (simp only [lenM_eq]; omega) | (simp; done) | (simp; omega), by omega, rfl, rfl⟩ (WK (by kernel_rfl)) (by kernel_rfl) (Nat.lt_succ_self _)
  · have := lenM_eq aBlock l
    refine GO (kb h1 z) (by kernel_rfl) ?_
    refine OUT (tn 2 z) (by kernel_rfl) ?_
    exact EN (by kernel_rfl)
def lsBN : Nat → (List DBlock) → List DBlock
  | 0, _ => default
  | n + 1, l => lsBS (lsBN n) l
theorem lsBS_eq (rec : (List DBlock) → List DBlock) (l : List DBlock) : lsBS rec l = l.flatMap (fun x => x :: rec x.fKids) := by
  have := loop_flat aBlock l (fun x => x :: rec x.fKids) (lsBS_L0 rec l) (fun n acc i => by rw [lsBS_L0]; simp) ((List.length l - (0)) + 1) [] 0 (by omega)
  rw [lsBS, this]; simp
theorem lsBN_bd : ∀ (n : Nat) (l : List DBlock), wl wBlock l < n → wl wBlock l ≤ 1073741824 → (lsBN n l).length ≤ wl wBlock l
  | 0, l, h, _ => by omega
  | n + 1, l, h, hl => by
    rw [lsBN, lsBS_eq]
    refine flat_len (fun x hx => ?_)
    have h1 := wl_mem (w := wBlock) hx
    have h2 := wBlock_eq x
    have h3 := lsBN_bd n x.fKids (by omega) (by omega)
    simp only [List.length_cons]; omega
theorem lsBN_to : ∀ (n : Nat) (l : List DBlock), wl wBlock l < n → wl wBlock l ≤ 1073741824 → CallTo Tryz.prog 54 [(jL (l.map aBlock))] [] [] (jL ((lsBN n l).map aBlock)) [] []
  | 0, l, h0, _ => absurd h0 (Nat.not_lt_zero _)
  | n + 1, l, h0, hl => by
    exact lsB_st (lsBN n) l hl (fun l' q1 hl' => lsBN_to n l' (by omega) hl') (fun l' q1 hl' => lsBN_bd n l' (by omega) hl')
def lsB (l : List DBlock) : List DBlock := lsBN (wl wBlock l + 1) l
theorem lsB_to (l : List DBlock) (hl : wl wBlock l ≤ 1073741824) : CallTo Tryz.prog 54 [(jL (l.map aBlock))] [] [] (jL ((lsB l).map aBlock)) [] [] := lsBN_to _ l (Nat.lt_succ_self _) hl
theorem lsB_bd (l : List DBlock) (hl : wl wBlock l ≤ 1073741824) : (lsB l).length ≤ wl wBlock l := lsBN_bd _ l (Nat.lt_succ_self _) hl
end Go.Proofs.YtcdfhagcchmnhaaGreatDoor
namespace Go.Proofs.YtcdfhagcchmnhaaGreatDoor
open Go Go.Eng
theorem dT {p : Prop} [Decidable p] (h : p) : decide p = true := decide_eq_true h
theorem dF {p : Prop} [Decidable p] (h : ¬ p) : decide p = false := decide_eq_false h
def splL : List UInt8 → List (List UInt8)
  | [] => [[]]
  | b :: l => if b = 32 then [] :: splL l else (b :: (splL l).headD []) :: (splL l).tail
def neL (l : List (List UInt8)) : List (List UInt8) := l.filter (fun x => !x.isEmpty)
theorem splL_ht : ∀ l : List UInt8, splL l = (splL l).headD [] :: (splL l).tail
  | [] => rfl
  | b :: l => by rw [splL]; split <;> rfl
def wda : List UInt8 → List UInt8 → List (List UInt8)
  | p, [] => neL [p]
  | p, b :: t => if b = 32 then neL [p] ++ wda [] t else wda (p ++ [b]) t
theorem wda_eq : ∀ (t p : List UInt8), wda p t = neL ((p ++ (splL t).headD []) :: (splL t).tail)
  | [], p => by simp [wda, splL]
  | b :: t, p => by
    rw [wda, splL]
    split
    · rw [wda_eq t []]
      simp only [List.headD_cons, List.tail_cons, List.append_nil, List.nil_append]
      rw [← splL_ht]
      simp only [neL, List.filter_cons, List.filter_nil]
      split <;> rfl
    · rw [wda_eq t]
      simp
theorem splitK_eq : ∀ l : List UInt8, Lib.splitK [32] 0 (Lib.count l [32]) l = splL l
  | [] => by rw [Lib.count_miss (by rfl)]; rfl
  | b :: l => by
    have ih := splitK_eq l
    by_cases h : b = 32
    · subst h
      have hix : Lib.index ((32 : UInt8) :: l) [32] = ((0 : Nat) : Int) := by rw [Lib.index]; simp [List.isPrefixOf]
      rw [Lib.count_cons_eq, Nat.add_comm, Lib.splitK, hix, splL, if_pos rfl]
      simp only [List.length_cons, List.length_nil]
      rw [if_neg (by decide), show ((0 : Nat) : Int).toNat = 0 from rfl, List.drop_succ_cons, List.drop_zero, ih]
      rfl
    · have hp : ([32] : List UInt8).isPrefixOf (b :: l) = false := by simp [List.isPrefixOf, Ne.symm h]
      have hix : Lib.index (b :: l) [32] = if Lib.index l [32] == -1 then -1 else Lib.index l [32] + 1 := by rw [Lib.index, hp]; simp
      rw [Lib.count_cons_ne b 32 l h, splL, if_neg h]
      by_cases hm : Lib.index l [32] = -1
      · rw [Lib.count_miss hm] at ih ⊢
        rw [← ih]; rfl
      · have hge := Lib.index_ge l [32]
        obtain ⟨j, hj⟩ : ∃ j : Nat, Lib.index l [32] = j := ⟨(Lib.index l [32]).toNat, by omega⟩
        have hc := Lib.count_hit (s := l) (sub := [32]) (by simp) hj
        obtain ⟨c, hcc⟩ : ∃ c, Lib.count l [32] = c + 1 := ⟨_, hc.trans (Nat.add_comm _ _)⟩
        rw [hcc] at ih ⊢
        rw [Lib.splitK, if_neg (by rw [beq_iff_eq]; exact hm), hj] at ih
        rw [if_neg (by rw [beq_iff_eq]; exact hm), hj] at hix
        rw [Lib.splitK, hix, if_neg (by rw [beq_iff_eq]; omega), ← ih]
        rw [show ((j : Int) + 1).toNat = j + 1 by omega, show ((j : Int)).toNat = j by omega]
        rfl
def tl (s : ByteArray) : List UInt8 := s.data.toList
theorem tl_inj {a b : List ByteArray} (h : a.map tl = b.map tl) : a = b := by
  refine List.map_inj_right (f := tl) ?_ |>.1 h
  intro x y hxy
  obtain ⟨⟨x⟩⟩ := x
  obtain ⟨⟨y⟩⟩ := y
  simp only [tl] at hxy
  rw [hxy]
theorem spl_tl (s : ByteArray) : (spl s).map tl = splL (tl s) := by
  rw [← splitK_eq]
  exact Lib.splitB_data sp1 0 _ s
theorem wrdP_tl (s : ByteArray) : (wrdP s).map tl = wda [] (tl s) := by
  have e : wrdP s = (spl s).filter (fun x => !eqs x ⟨#[]⟩) := by
    have := loop_flat strAV (spl s) (fun x => if (!eqs x ⟨#[]⟩) = true then [x] else []) (wrdP_L0 s) (fun n acc i => ?_) ((spl s).length - 0 + 1) [] 0 (by omega)
    · rw [wrdP, this]
      simp only [List.nil_append, List.drop_zero]
      induction (spl s) with
      | nil => rfl
      | cons x l ih => rw [List.flatMap_cons, List.filter_cons, ih]; split <;> rfl
    · rw [wrdP_L0]
      cases decide ((((i : Nat) : Int) : Int) < ((lenM strAV (spl s) : Nat) : Int)) with
      | false => rfl
      | true =>
        simp only [cond_true]
        cases eqs (el (spl s) i) ⟨#[]⟩ with
        | false => rfl
        | true => simp
  rw [e, wda_eq, List.nil_append, ← splL_ht, ← spl_tl, neL, List.filter_map]
  congr 1
  refine List.filter_congr (fun x _ => ?_)
  show (!eqs x ⟨#[]⟩) = !(tl x).isEmpty
  obtain ⟨⟨x⟩⟩ := x
  cases x <;> rfl
theorem tl_drop (s : ByteArray) {i : Nat} (h : i < s.size) : (tl s).drop i = s.data.toList[i]'(by rw [Array.length_toList]; exact h) :: (tl s).drop (i + 1) := List.drop_eq_getElem_cons (by rw [tl, Array.length_toList]; exact h)
theorem byt_tl (s : ByteArray) {i : Nat} (h : i < s.size) : byt s i = (s.data.toList[i]'(by rw [Array.length_toList]; exact h)).toNat := by
  have h' : i < s.data.size := h
  simp only [byt, Array.getD_eq_getD_getElem?, Array.getElem?_eq_getElem h', Option.getD_some, Array.getElem_toList]
theorem tl_len (s : ByteArray) : (tl s).length = s.size := by rw [tl, Array.length_toList]; rfl
theorem ext_tl (s : ByteArray) (a b : Nat) : tl (s.extract a b) = ((tl s).drop a).take (b - a) := Lib.extract_data s a b
theorem ext_succ (s : ByteArray) {f i : Nat} (hf : f ≤ i) (h : i < s.size) : tl (s.extract f (i + 1)) = tl (s.extract f i) ++ [s.data.toList[i]'(by rw [Array.length_toList]; exact h)] := by
  have hl := tl_len s
  rw [ext_tl, ext_tl, show i + 1 - f = (i - f) + 1 by omega, List.take_add_one, List.getElem?_drop, show f + (i - f) = i by omega]
  congr 1
  have h2 : i < s.data.toList.length := by rw [Array.length_toList]; exact h
  show (s.data.toList[i]?).toList = _
  rw [List.getElem?_eq_getElem h2]; rfl
theorem ext_self (s : ByteArray) (i : Nat) : tl (s.extract i i) = [] := by rw [ext_tl, Nat.sub_self]; rfl
theorem neL_one {p : List UInt8} (h : p ≠ []) : neL [p] = [p] := by
  cases p with
  | nil => exact absurd rfl h
  | cons x l => rfl
theorem ext_ne (s : ByteArray) {f i : Nat} (h : f < i) (hi : i ≤ s.size) : tl (s.extract f i) ≠ [] := by
  intro e
  have := congrArg List.length e
  rw [ext_tl, List.length_take, List.length_drop, tl_len] at this
  simp at this; omega
theorem wrdR_L0_tl (s : ByteArray) : ∀ (n : Nat) (acc : List ByteArray) (f i : Nat), f ≤ i → i ≤ s.size → s.size + 1 - i < n → (wrdR_L0 s n acc f i).map tl = acc.map tl ++ wda (tl (s.extract f i)) ((tl s).drop i)
  | 0, acc, f, i, _, _, h => by omega
  | n + 1, acc, f, i, hf, hi, h => by
    rw [wrdR_L0, dT (p := ((i : Nat) : Int) ≤ _) (by omega), cond_true]
    by_cases he : i = s.size
    · obtain ⟨m, rfl⟩ : ∃ m, n = m + 1 := ⟨n - 1, by omega⟩
      have hend : ∀ a b, wrdR_L0 s (m + 1) a b (i + 1) = a := fun a b => by rw [wrdR_L0, dF (p := ((i + 1 : Nat) : Int) ≤ _) (by omega), cond_false]
      rw [show (((i : Nat) : Int) == ((s.size : Nat) : Int)) = true by rw [beq_iff_eq]; omega, cond_true, cond_true, hend, hend, List.drop_eq_nil_of_le (by rw [tl_len]; omega), wda]
      by_cases hfi : f < i
      · rw [dT (p := ((i : Nat) : Int) > _) (by omega), cond_true, neL_one (ext_ne s hfi hi), List.map_append]; rfl
      · have : f = i := by omega
        subst this
        rw [dF (p := ((f : Nat) : Int) > _) (by omega), cond_false, ext_self]
        simp [neL]
    · have hlt : i < s.size := by omega
      rw [show (((i : Nat) : Int) == ((s.size : Nat) : Int)) = false by rw [beq_eq_false_iff_ne]; omega, cond_false, tl_drop s hlt, byt_tl s hlt, wda]
      have hx := ext_succ s hf hlt
      generalize s.data.toList[i]'(by rw [Array.length_toList]; exact hlt) = b at hx
      by_cases hb : b = 32
      · subst hb
        rw [show ((((32 : UInt8).toNat : Nat) : Int) == 32) = true from rfl, cond_true, if_pos rfl]
        have hrec : ∀ a, (wrdR_L0 s n a (i + 1) (i + 1)).map tl = a.map tl ++ wda [] ((tl s).drop (i + 1)) := fun a => by rw [wrdR_L0_tl s n _ _ _ (Nat.le_refl _) (by omega) (by omega), ext_self]
        by_cases hfi : f < i
        · rw [dT (p := ((i : Nat) : Int) > _) (by omega), cond_true, hrec, neL_one (ext_ne s hfi hi), List.map_append, List.append_assoc]; rfl
        · have : f = i := by omega
          subst this
          rw [dF (p := ((f : Nat) : Int) > _) (by omega), cond_false, hrec, ext_self]
          simp [neL]
      · rw [show (((b.toNat : Nat) : Int) == 32) = false by
          rw [beq_eq_false_iff_ne]
          intro e
          exact hb (UInt8.toNat_inj.1 (by show b.toNat = 32; omega)), cond_false, if_neg hb, wrdR_L0_tl s n _ _ _ (by omega) (by omega) (by omega), hx]
theorem wrdR_tl (s : ByteArray) : (wrdR s).map tl = wda [] (tl s) := by
  rw [wrdR, wrdR_L0_tl s _ _ _ _ (Nat.le_refl _) (Nat.zero_le _) (by omega), ext_self]; rfl
theorem wrdP_eq (s : ByteArray) : wrdP s = wrdR s := tl_inj ((wrdP_tl s).trans (wrdR_tl s).symm)
theorem wda_sz : ∀ (t p : List UInt8) (x : List UInt8), x ∈ wda p t → x.length ≤ p.length + t.length
  | [], p, x, h => by
    simp only [wda, neL] at h
    have := (List.mem_filter.1 h).1
    simp at this; subst this; simp
  | b :: t, p, x, h => by
    rw [wda] at h
    split at h
    · rcases List.mem_append.1 h with h | h
      · have := (List.mem_filter.1 h).1
        simp at this; subst this; simp
      · have := wda_sz t [] x h
        simp at this ⊢; omega
    · have := wda_sz t (p ++ [b]) x h
      simp at this ⊢; omega
theorem wda_len : ∀ (t p : List UInt8), (wda p t).length ≤ t.length + 1
  | [], p => by
    have := List.length_filter_le (fun x : List UInt8 => !x.isEmpty) [p]
    simpa [wda, neL] using this
  | b :: t, p => by
    rw [wda]
    split
    · have h1 := List.length_filter_le (fun x : List UInt8 => !x.isEmpty) [p]
      have h2 := wda_len t []
      simp only [List.length_append, neL, List.length_cons, List.length_nil] at h1 ⊢; omega
    · have := wda_len t (p ++ [b])
      simp only [List.length_cons]; omega
theorem wrdR_len (s : ByteArray) : (wrdR s).length ≤ s.size + 1 := by
  have h := wda_len (tl s) []
  rw [← wrdR_tl, List.length_map, tl_len] at h; exact h
theorem wrdR_sz (s : ByteArray) (x : ByteArray) (h : x ∈ wrdR s) : x.size ≤ s.size := by
  have h2 := wda_sz (tl s) [] (tl x) (by rw [← wrdR_tl]; exact List.mem_map_of_mem h)
  rw [tl_len, tl_len] at h2; simpa using h2
theorem hasR_any (l : List ByteArray) (s : ByteArray) : hasR l s = l.any (fun x => eqs x s) := by
  have : ∀ (n i : Nat), l.length - i < n → hasR_L0 l s n i = (l.drop i).any (fun x => eqs x s) := by
    intro n
    induction n with
    | zero => intro i h; omega
    | succ n ih =>
      intro i h
      have hl := lenM_eq strAV l
      rw [hasR_L0]
      by_cases hi : i < l.length
      · rw [dT (p := ((i : Nat) : Int) < _) (by omega), cond_true, ih _ (by omega), drop_el hi, List.any_cons]
        cases eqs (el l i) s <;> rfl
      · rw [dF (p := ((i : Nat) : Int) < _) (by omega), cond_false, List.drop_eq_nil_of_le (by omega)]; rfl
  rw [hasR, this _ _ (by omega)]; rfl
theorem letC_eq (c : Int) : letC c = letA c := rfl
theorem partC_eq (c : Int) : partC c = inN c := by
  unfold partC inN
  rw [letC_eq]
  cases letA c <;> cases decide (c ≥ 48) <;> cases decide (c ≤ 57) <;> cases (c == 45) <;> cases (c == 95) <;> cases (c == 46) <;> cases (c == 58) <;> rfl
theorem wordI_L0_eq (s : ByteArray) (i : Int) : ∀ (n : Nat) (v : Int), wordI_L0 s i n v = wrdA_L0 s i n v
  | 0, v => rfl
  | n + 1, v => by rw [wordI_L0, wrdA_L0, partC_eq, wordI_L0_eq s i n]
theorem wordI_eq (s : ByteArray) (i : Int) : wordI s i = wrdA s i := wordI_L0_eq s i _ _
theorem namC_eq (s : ByteArray) : namC s = namA s := by
  unfold namC namA
  rw [letC_eq, wordI_eq]
  by_cases h1 : s.size = 0
  · rw [show decide (((s.size : Nat) : Int) ≥ 1) = false from dF (by omega), show (((s.size : Nat) : Int) == 0) = true by rw [beq_iff_eq]; omega]; rfl
  · rw [show decide (((s.size : Nat) : Int) ≥ 1) = true from dT (by omega), show (((s.size : Nat) : Int) == 0) = false by rw [beq_eq_false_iff_ne]; omega]
    by_cases h2 : s.size > 60
    · rw [show decide (((s.size : Nat) : Int) > 60) = true from dT (by omega), show decide (((s.size : Nat) : Int) ≤ 60) = false from dF (by omega)]; rfl
    · rw [show decide (((s.size : Nat) : Int) > 60) = false from dF (by omega), show decide (((s.size : Nat) : Int) ≤ 60) = true from dT (by omega)]
      cases letA ((byt s 0 : Nat) : Int) <;> simp
theorem getR_L0_sz (a : DAttr) (key : ByteArray) : ∀ (n i : Nat), (getR_L0 a key n i).1.size ≤ wl wPair a.fPairs
  | 0, i => Nat.zero_le _
  | n + 1, i => by
    rw [getR_L0]
    by_cases hi : i < a.fPairs.length
    · have hw := wl_el (w := wPair) (l := a.fPairs) (i := i) hi
      have he := wPair_eq (el a.fPairs i)
      simp only [wStr] at he
      cases decide ((((i : Nat) : Int) : Int) < ((lenM aPair a.fPairs : Nat) : Int)) with
      | false => exact Nat.zero_le _
      | true =>
        cases eqs (el a.fPairs i).fKey key with
        | true => simp only [cond_true]; omega
        | false => simp only [cond_true, cond_false]; exact getR_L0_sz a key n _
    · have hl := lenM_eq aPair a.fPairs
      rw [dF (p := ((i : Nat) : Int) < _) (by omega)]
      exact Nat.zero_le _
theorem getR_sz (a : DAttr) (key : ByteArray) : (getR a key).1.size ≤ wl wPair a.fPairs := getR_L0_sz a key _ _
theorem getP_L0_eq (a : DAttr) (key : ByteArray) : ∀ (n v : Nat), getP_L0 a key n v = getR_L0 a key n v
  | 0, v => rfl
  | n + 1, v => by rw [getP_L0, getR_L0, getP_L0_eq a key n]
theorem getP_eq (a : DAttr) (key : ByteArray) : getP a key = getR a key := getP_L0_eq a key _ _
end Go.Proofs.YtcdfhagcchmnhaaGreatDoor
namespace Go.Proofs.YtcdfhagcchmnhaaGreatDoor
open Go Go.Eng
theorem lsBN_mem : ∀ (n : Nat) (l : List DBlock), wl wBlock l < n → ∀ y ∈ lsBN n l, wBlock y ≤ wl wBlock l
  | 0, l, h, y, hy => by omega
  | n + 1, l, h, y, hy => by
    rw [lsBN, lsBS_eq, List.mem_flatMap] at hy
    obtain ⟨x, hx, hy⟩ := hy
    have h1 := wl_mem (w := wBlock) hx
    have h2 := wBlock_eq x
    simp only [List.mem_cons] at hy
    rcases hy with rfl | hy
    · exact h1
    · have := lsBN_mem n x.fKids (by omega) y hy; omega
theorem lsB_mem (l : List DBlock) : ∀ y ∈ lsB l, wBlock y ≤ wl wBlock l := lsBN_mem _ l (Nat.lt_succ_self _)
def wLn (b : DBlock) : Nat := wl wInline b.fLine
theorem lsBN_ln : ∀ (n : Nat) (l : List DBlock), wl wBlock l < n → wl wLn (lsBN n l) ≤ wl wBlock l
  | 0, l, h => by omega
  | n + 1, l, h => by
    rw [lsBN, lsBS_eq]
    refine flat_wl (fun x hx => ?_)
    have h1 := wl_mem (w := wBlock) hx
    have h2 := wBlock_eq x
    have h3 := lsBN_ln n x.fKids (by omega)
    simp only [wl, wLn]; omega
theorem lsB_ln (l : List DBlock) : wl wLn (lsB l) ≤ wl wBlock l := lsBN_ln _ l (Nat.lt_succ_self _)
theorem dpIN_mem : ∀ (n : Nat) (l : List DInline), wl wInline l < n → ∀ y ∈ dpIN n l, wInline y ≤ wl wInline l
  | 0, l, h, y, hy => by omega
  | n + 1, l, h, y, hy => by
    rw [dpIN, dpIS_eq, List.mem_flatMap] at hy
    obtain ⟨x, hx, hy⟩ := hy
    have h1 := wl_mem (w := wInline) hx
    have h2 := wInline_eq x
    simp only [List.mem_cons] at hy
    rcases hy with rfl | hy
    · exact h1
    · have := dpIN_mem n x.fKids (by omega) y hy; omega
theorem dpI_mem (l : List DInline) : ∀ y ∈ dpI l, wInline y ≤ wl wInline l := dpIN_mem _ l (Nat.lt_succ_self _)
def ilsB_L0 (l : List DBlock) : Nat → (List DInline) → Nat → List DInline
  | 0, _, _ => default
  | n0 + 1, v3, v5 => cond (decide ((((v5 : Nat) : Int) : Int) < ((lenM aBlock (lsB l) : Nat) : Int))) (ilsB_L0 l n0 (v3 ++ (dpI ((el (lsB l) v5).fLine))) (v5 + 1)) (v3)
def ilsB (l : List DBlock) : List DInline := ilsB_L0 l ((List.length (lsB l) - (0)) + 1) ([]) 0
set_option maxRecDepth 100000 in
set_option maxHeartbeats 4000000 in
theorem ilsB_to (l : List DBlock) (hl : wl wBlock l ≤ 1073741824) : CallTo Tryz.prog 25 [(jL (l.map aBlock))] [] [] (jL ((ilsB l).map aInline)) [] [] := by
  refine BEG (fun r : List DInline => (jL (r.map aInline))) (ilsB l) Tryz.func25 (by kernel_rfl) ?_
  refine UF (ilsB.eq_1 ..) ?_
  have := lsB_bd l (by first | assumption | omega | decide | (simp; done) | (simp; omega))
  refine GO (tn 3 (kc (lsB_to l (by first | assumption | omega | decide | (simp; done) | (simp; omega))) (tn 2 z))) (by kernel_rfl) ?_
  refine LP (fun N M S => ∃ gv3 : Nat, ∃ v3 : List DInline, ∃ v5 : Nat, (v3.length ≤ wl wLn ((lsB l).take v5)) ∧ (List.length (lsB l) - v5 < N) ∧ M = ilsB_L0 l N v3 v5 ∧ S = (sx 23 [(3, (.own (203, 49) (gv3) 10 (v3.map aInline))), (4, (jL ((lsB l).map aBlock))), (5, (jI (((v5 : Nat) : Int))))] [] [((203, 49), gv3)])) (by kernel_rfl) ⟨0, _, _, by simp [wl], by omega, rfl, rfl⟩ (WKf [(3, (.own (203, 49) ((0)) 10 (([]).map aInline)))] (ac (show ((([]).map aInline) : List AV) = [] ∧ 0 < 49 ∧ ((0) : Nat) = (0) from ⟨rfl, by decide, rfl⟩) an) (by kernel_rfl)) ?_
  rintro n0 M S ⟨gv3, v3, v5, hv, hF0, rfl, rfl⟩
  obtain ⟨n0, rfl⟩ : ∃ k, n0 = k + 1 := ⟨n0 - 1, by omega⟩
  refine UF (ilsB_L0.eq_2 ..) ?_
  refine GO (tn 4 z) (by kernel_rfl) ?_
  refine CSd (fun h1p h1 => ?_) (fun h1p h1 => ?_)
  · have := lenM_eq aBlock (lsB l)
    have hm := lsB_mem l _ (el_mem (l := lsB l) (i := v5) (by omega))
    have hmw := wBlock_eq (el (lsB l) v5)
    have htk := wl_take (w := wLn) (l := lsB l) (i := v5) (by omega)
    have hln := lsB_ln l
    rw [show wLn (el (lsB l) v5) = wl wInline (el (lsB l) v5).fLine from rfl] at htk
    have := dpI_bd ((el (lsB l) v5).fLine) (by first | assumption | omega | decide | (simp; done) | (simp; omega))
    refine GO (kb h1 (tn 3 (ke (el_aBlock (lsB l) v5 (by first | omega | (simp only [lenM_eq, true_and]; omega))) (tn 2 (kc (dpI_to ((el (lsB l) v5).fLine) (by first | assumption | omega | decide | (simp; done) | (simp; omega))) (kp (show (gv3 : Nat) = gv3 ∧ Uni 10 ((dpI ((el (lsB l) v5).fLine)).map aInline) ∧ (((v3.map aInline) : List AV).length + (((dpI ((el (lsB l) v5).fLine)).map aInline) : List AV).length) * 192 ≤ 140737488355328 from ⟨rfl, uni_aInline _, by first | omega | (simp; done) | (simp; omega)⟩) (kw (apL aInline v3 (dpI ((el (lsB l) v5).fLine))) (tn 2 (kn (wrE ((((v5 : Nat) : Int)) + 1) (((v5 + 1 : Nat) : Int)) (by omega)) (tn 1 z)))))))))) (by kernel_rfl) ?_
    exact AG ⟨gv3 + 1, _, _, by first | omega | assumption | (simp only [lenM_eq]; omega) | (simp; done) | (simp; omega), by omega, rfl, rfl⟩ (WK (by kernel_rfl)) (by kernel_rfl) (Nat.lt_succ_self _)
  · have := lenM_eq aBlock (lsB l)
    refine GO (kb h1 z) (by kernel_rfl) ?_
    refine OUT (tn 2 z) (by kernel_rfl) ?_
    exact EN (by kernel_rfl)
theorem ilsB_eq (l : List DBlock) : ilsB l = (lsB l).flatMap (fun b => dpI b.fLine) := by
  have := loop_flat aBlock (lsB l) (fun b => dpI b.fLine) (ilsB_L0 l) (fun n acc i => by rw [ilsB_L0]) ((List.length (lsB l) - (0)) + 1) [] 0 (by omega)
  rw [ilsB, this]; simp
theorem ilsB_mem (l : List DBlock) : ∀ y ∈ ilsB l, wInline y ≤ wl wBlock l := by
  intro y hy
  rw [ilsB_eq, List.mem_flatMap] at hy
  obtain ⟨b, hb, hy⟩ := hy
  have h1 := lsB_mem l b hb
  have h2 := wBlock_eq b
  have h3 := dpI_mem _ y hy
  omega
theorem ilsB_len (l : List DBlock) (hl : wl wBlock l ≤ 1073741824) : (ilsB l).length ≤ wl wBlock l := by
  rw [ilsB_eq]
  refine Nat.le_trans (flat_len (w := wLn) (fun b hb => ?_)) (lsB_ln l)
  have h1 := lsB_mem l b hb
  have h2 := wBlock_eq b
  exact dpI_bd b.fLine (by omega)
end Go.Proofs.YtcdfhagcchmnhaaGreatDoor
namespace Go.Proofs.YtcdfhagcchmnhaaGreatDoor
open Go Go.Eng
def useR_L0 (l : List DBlock) : Nat → (List ByteArray) → Nat → List ByteArray
  | 0, _, _ => default
  | n0 + 1, v3, v9 => cond (decide ((((v9 : Nat) : Int) : Int) < ((lenM aInline (ilsB l) : Nat) : Int))) (cond (cond ((((el (ilsB l) v9).fKind : Int) == 15)) ((!hasR v3 ((el (ilsB l) v9).fText))) (false)) (useR_L0 l n0 (v3 ++ ([(el (ilsB l) v9).fText])) (v9 + 1)) (useR_L0 l n0 v3 (v9 + 1))) (v3)
def useR (l : List DBlock) : List ByteArray := useR_L0 l ((List.length (ilsB l) - (0)) + 1) ([]) 0
set_option maxRecDepth 100000 in
set_option maxHeartbeats 4000000 in
theorem useR_to (l : List DBlock) (hl : wl wBlock l ≤ 1073741824) : CallTo Tryz.prog 12 [(jL (l.map aBlock))] [] [] (jL ((useR l).map strAV)) [] [] := by
  have hil := ilsB_len l (by omega)
  refine BEG (fun r : List ByteArray => (jL (r.map strAV))) (useR l) Tryz.func12 (by kernel_rfl) ?_
  refine UF (useR.eq_1 ..) ?_
  refine GO (tn 3 (kc (ilsB_to l (by first | assumption | omega | decide | (simp; done) | (simp; omega))) (tn 2 z))) (by kernel_rfl) ?_
  refine LP (fun N M S => ∃ gv3 : Nat, ∃ v3 : List ByteArray, ∃ v9 : Nat, (v3.length ≤ v9) ∧ (List.length (ilsB l) - v9 < N) ∧ M = useR_L0 l N v3 v9 ∧ S = (sx 30 [(3, (.own (203, 10) (gv3) 1 (v3.map strAV))), (7, (jL ((ilsB l).map aInline))), (8, (jI (((lenM aInline (ilsB l) : Nat) : Int)))), (9, (jI (((v9 : Nat) : Int))))] [] [((203, 10), gv3)])) (by kernel_rfl) ⟨0, _, _, by first | omega | assumption | (simp only [lenM_eq]; omega) | (simp; done) | (simp; omega), by omega, rfl, rfl⟩ (WKf [(3, (.own (203, 10) ((0)) 1 (([]).map strAV)))] (ac (show ((([]).map strAV) : List AV) = [] ∧ 0 < 10 ∧ ((0) : Nat) = (0) from ⟨rfl, by decide, rfl⟩) an) (by kernel_rfl)) ?_
  rintro n0 M S ⟨gv3, v3, v9, hv, hF0, rfl, rfl⟩
  obtain ⟨n0, rfl⟩ : ∃ k, n0 = k + 1 := ⟨n0 - 1, by omega⟩
  refine UF (useR_L0.eq_2 ..) ?_
  refine GO (tn 1 z) (by kernel_rfl) ?_
  refine CSd (fun h1p h1 => ?_) (fun h1p h1 => ?_)
  · have := lenM_eq aInline (ilsB l)
    have hm := ilsB_mem l _ (el_mem (l := ilsB l) (i := v9) (by omega))
    have hmw := wInline_eq (el (ilsB l) v9)
    refine GO (kb h1 (ke (el_aInline (ilsB l) v9 (by first | omega | (simp only [lenM_eq, true_and]; omega))) (tn 7 (kj ((((el (ilsB l) v9).fKind : Int) == 15)) (tn 3 (hc (fun h => by have j0 := h.2; have j0p := eq_of_beq j0; exact (hasR_to v3 ((el (ilsB l) v9).fText) (by first | assumption | omega | decide | (simp; done) | (simp; omega)))) (tn 1 z))) z z)))) (by kernel_rfl) ?_
    refine CS (fun h2 => ?_) (fun h2 => ?_)
    · obtain ⟨h2a, h2o⟩ := cond_ff h2
      have h2ap := eq_of_beq h2a
      have h2on := nott h2o
      refine GO (kb h2 (tn 3 (kp (show Uni 1 [(vS ((el (ilsB l) v9).fText))] from (uni_one rfl rfl)) (kp (show (gv3 : Nat) = gv3 ∧ Uni 1 [(vS ((el (ilsB l) v9).fText))] ∧ (((v3.map strAV) : List AV).length + ([(vS ((el (ilsB l) v9).fText))] : List AV).length) * 16 ≤ 140737488355328 from ⟨rfl, uni_one rfl rfl, by first | omega | (simp; done) | (simp; omega)⟩) (kw (ap1 strAV v3 ((el (ilsB l) v9).fText)) (tn 1 (kn (wrE ((((v9 : Nat) : Int)) + 1) (((v9 + 1 : Nat) : Int)) (by omega)) (tn 1 z)))))))) (by kernel_rfl) ?_
      exact AG ⟨gv3 + 1, _, _, by first | omega | assumption | (simp only [lenM_eq]; omega) | (simp; done) | (simp; omega), by omega, rfl, rfl⟩ (WK (by kernel_rfl)) (by kernel_rfl) (Nat.lt_succ_self _)
    · refine GO (kb h2 (kn (wrE ((((v9 : Nat) : Int)) + 1) (((v9 + 1 : Nat) : Int)) (by omega)) (tn 1 z))) (by kernel_rfl) ?_
      exact AG ⟨gv3, _, _, by first | omega | assumption | (simp only [lenM_eq]; omega) | (simp; done) | (simp; omega), by omega, rfl, rfl⟩ (WK (by kernel_rfl)) (by kernel_rfl) (Nat.lt_succ_self _)
  · have := lenM_eq aInline (ilsB l)
    refine GO (kb h1 z) (by kernel_rfl) ?_
    refine OUT (tn 2 z) (by kernel_rfl) ?_
    exact EN (by kernel_rfl)
end Go.Proofs.YtcdfhagcchmnhaaGreatDoor
namespace Go.Proofs.YtcdfhagcchmnhaaGreatDoor
open Go Go.Eng
def chkR_L2 (b : DBlock) (inside : Bool) (sofar : List DMacro) (v40 : Nat) (w50 : Nat) (k0 : Nat → Int) (k1 : Nat → Int) : Nat → Nat → Int
  | 0, _ => default
  | n2 + 1, x63 => cond (decide ((((x63 : Nat) : Int) : Int) < ((lenM aMacro sofar : Nat) : Int))) (cond (eqs ((el sofar x63).fName) ((getR b.fAttr (⟨#[110, 97, 109, 101]⟩)).1)) (7) (chkR_L2 b inside sofar v40 w50 k0 k1 n2 (x63 + 1))) (cond (cond (decide ((((lenM strAV (wrdR ((getR b.fAttr (⟨#[97, 114, 103, 115]⟩)).1)) : Nat) : Int) : Int) > 8)) (true) (decide ((((lenM aMacro sofar : Nat) : Int) : Int) ≥ 64))) (3) (0))
def chkR_L1 (b : DBlock) (inside : Bool) (sofar : List DMacro) (v40 : Nat) (k0 : Nat → Int) : Nat → Nat → Int
  | 0, _ => default
  | n1 + 1, w50 => cond (decide ((((w50 : Nat) : Int) : Int) < ((lenM strAV (wrdR ((getR b.fAttr (⟨#[97, 114, 103, 115]⟩)).1)) : Nat) : Int))) (cond (hasR ((List.drop 0 (wrdR ((getR b.fAttr (⟨#[97, 114, 103, 115]⟩)).1))).take (w50 - 0)) (el (wrdR ((getR b.fAttr (⟨#[97, 114, 103, 115]⟩)).1)) w50)) (7) (chkR_L1 b inside sofar v40 k0 n1 (w50 + 1))) (chkR_L2 b inside sofar v40 w50 k0 (chkR_L1 b inside sofar v40 k0 n1) ((List.length sofar - (0)) + 1) 0)
def chkR_L0 (b : DBlock) (inside : Bool) (sofar : List DMacro) : Nat → Nat → Int
  | 0, _ => default
  | n0 + 1, v40 => cond (decide ((((v40 : Nat) : Int) : Int) < ((lenM strAV (wrdR ((getR b.fAttr (⟨#[97, 114, 103, 115]⟩)).1)) : Nat) : Int))) (cond ((!namC (el (wrdR ((getR b.fAttr (⟨#[97, 114, 103, 115]⟩)).1)) v40))) (6) (chkR_L0 b inside sofar n0 (v40 + 1))) (chkR_L1 b inside sofar v40 (chkR_L0 b inside sofar n0) ((List.length (wrdR ((getR b.fAttr (⟨#[97, 114, 103, 115]⟩)).1)) - (0)) + 1) 0)
def chkR (b : DBlock) (inside : Bool) (sofar : List DMacro) : Int := cond (inside) (5) (cond ((!(getR b.fAttr (⟨#[110, 97, 109, 101]⟩)).2)) (8) (cond ((!namC ((getR b.fAttr (⟨#[110, 97, 109, 101]⟩)).1))) (6) (chkR_L0 b inside sofar ((List.length (wrdR ((getR b.fAttr (⟨#[97, 114, 103, 115]⟩)).1)) - (0)) + 1) 0)))
set_option maxRecDepth 100000 in
set_option maxHeartbeats 4000000 in
theorem chkR_to (b : DBlock) (inside : Bool) (sofar : List DMacro) (hb : wBlock b ≤ 1073741824) (hs : sofar.length ≤ 1073741824) : CallTo Tryz.prog 44 [(.av (cBlock b)), (jB (inside)), (jL (sofar.map aMacro))] [] [] (jI (chkR b inside sofar)) [] [] := by
  have hw := wBlock_eq b
  have hwa := wAttr_eq b.fAttr
  have hpl := wl_len (w := wPair) wPair_pos b.fAttr.fPairs
  have hs1 := getR_sz b.fAttr (⟨#[110, 97, 109, 101]⟩)
  have hs2 := getR_sz b.fAttr (⟨#[97, 114, 103, 115]⟩)
  have hwl := wrdR_len (getR b.fAttr (⟨#[97, 114, 103, 115]⟩)).1
  have hlq := lenM_eq strAV (wrdR (getR b.fAttr (⟨#[97, 114, 103, 115]⟩)).1)
  refine BEG (fun r : Int => (jI (r))) (chkR b inside sofar) Tryz.func44 (by kernel_rfl) ?_
  refine UF (chkR.eq_1 ..) ?_
  refine GO (tn 4 (kc (getR_to b.fAttr (⟨#[110, 97, 109, 101]⟩) (by first | assumption | omega | decide | (simp; done) | (simp; omega))) (tn 7 (kc (getR_to b.fAttr (⟨#[97, 114, 103, 115]⟩) (by first | assumption | omega | decide | (simp; done) | (simp; omega))) (tn 6 (kc (wrdR_to ((getR b.fAttr (⟨#[97, 114, 103, 115]⟩)).1) (by first | assumption | omega | decide | (simp; done) | (simp; omega))) (tn 2 z))))))) (by kernel_rfl) ?_
  refine CS (fun h1 => ?_) (fun h1 => ?_)
  · refine GO (kb h1 (tn 1 z)) (by kernel_rfl) ?_
    exact EN (by kernel_rfl)
  · refine GO (kb h1 (tn 2 z)) (by kernel_rfl) ?_
    refine CS (fun h2 => ?_) (fun h2 => ?_)
    · have h2n := nott h2
      refine GO (kb h2 (tn 1 z)) (by kernel_rfl) ?_
      exact EN (by kernel_rfl)
    · have h2n := notf h2
      refine GO (kb h2 (tn 1 (kc (namC_to ((getR b.fAttr (⟨#[110, 97, 109, 101]⟩)).1) (by first | assumption | omega | decide | (simp; done) | (simp; omega))) (tn 1 z)))) (by kernel_rfl) ?_
      refine CS (fun h3 => ?_) (fun h3 => ?_)
      · have h3n := nott h3
        refine GO (kb h3 (tn 1 z)) (by kernel_rfl) ?_
        exact EN (by kernel_rfl)
      · have h3n := notf h3
        refine GO (kb h3 (tn 3 z)) (by kernel_rfl) ?_
        refine LP (fun N M S => ∃ v40 : Nat, (List.length (wrdR ((getR b.fAttr (⟨#[97, 114, 103, 115]⟩)).1)) - v40 < N) ∧ M = chkR_L0 b inside sofar N v40 ∧ S = (sx 80 [(2, (jL (sofar.map aMacro))), (7, (jS ((getR b.fAttr (⟨#[110, 97, 109, 101]⟩)).1))), (11, (jL ((wrdR ((getR b.fAttr (⟨#[97, 114, 103, 115]⟩)).1)).map strAV))), (38, (jL ((wrdR ((getR b.fAttr (⟨#[97, 114, 103, 115]⟩)).1)).map strAV))), (39, (jI (((lenM strAV (wrdR ((getR b.fAttr (⟨#[97, 114, 103, 115]⟩)).1)) : Nat) : Int)))), (40, (jI (((v40 : Nat) : Int))))] [] [])) (by kernel_rfl) ⟨_, by omega, rfl, rfl⟩ (WK (by kernel_rfl)) ?_
        rintro n0 M S ⟨v40, hF0, rfl, rfl⟩
        obtain ⟨n0, rfl⟩ : ∃ k, n0 = k + 1 := ⟨n0 - 1, by omega⟩
        refine UF (chkR_L0.eq_2 ..) ?_
        refine GO (tn 1 z) (by kernel_rfl) ?_
        refine CSd (fun h4p h4 => ?_) (fun h4p h4 => ?_)
        · have hz := wrdR_sz (getR b.fAttr (⟨#[97, 114, 103, 115]⟩)).1 _ (el_mem (l := (wrdR (getR b.fAttr (⟨#[97, 114, 103, 115]⟩)).1)) (i := v40) (by omega))
          refine GO (kb h4 (ke (el_strAV (wrdR ((getR b.fAttr (⟨#[97, 114, 103, 115]⟩)).1)) v40 (by first | omega | (simp only [lenM_eq, true_and]; omega))) (tn 3 (kc (namC_to (el (wrdR ((getR b.fAttr (⟨#[97, 114, 103, 115]⟩)).1)) v40) (by first | assumption | omega | decide | (simp; done) | (simp; omega))) (tn 1 z))))) (by kernel_rfl) ?_
          refine CS (fun h5 => ?_) (fun h5 => ?_)
          · have h5n := nott h5
            refine GO (kb h5 (tn 1 z)) (by kernel_rfl) ?_
            refine OUT z (by kernel_rfl) ?_
            exact EN (by kernel_rfl)
          · have h5n := notf h5
            refine GO (kb h5 (kn (wrE ((((v40 : Nat) : Int)) + 1) (((v40 + 1 : Nat) : Int)) (by omega)) (tn 1 z))) (by kernel_rfl) ?_
            exact AG ⟨_, by omega, rfl, rfl⟩ (WK (by kernel_rfl)) (by kernel_rfl) (Nat.lt_succ_self _)
        · refine GO (kb h4 z) (by kernel_rfl) ?_
          refine OUT (tn 3 z) (by kernel_rfl) ?_
          refine LP (fun N M S => ∃ w50 : Nat, (List.length (wrdR ((getR b.fAttr (⟨#[97, 114, 103, 115]⟩)).1)) - w50 < N) ∧ M = chkR_L1 b inside sofar v40 (chkR_L0 b inside sofar n0) N w50 ∧ S = (sx 80 [(2, (jL (sofar.map aMacro))), (7, (jS ((getR b.fAttr (⟨#[110, 97, 109, 101]⟩)).1))), (11, (jL ((wrdR ((getR b.fAttr (⟨#[97, 114, 103, 115]⟩)).1)).map strAV))), (48, (jL ((wrdR ((getR b.fAttr (⟨#[97, 114, 103, 115]⟩)).1)).map strAV))), (49, (jI (((lenM strAV (wrdR ((getR b.fAttr (⟨#[97, 114, 103, 115]⟩)).1)) : Nat) : Int)))), (50, (jI (((w50 : Nat) : Int))))] [] [])) (by kernel_rfl) ⟨_, by omega, rfl, rfl⟩ (WK (by kernel_rfl)) ?_
          rintro n1 M S ⟨w50, hF1, rfl, rfl⟩
          obtain ⟨n1, rfl⟩ : ∃ k, n1 = k + 1 := ⟨n1 - 1, by omega⟩
          refine UF (chkR_L1.eq_2 ..) ?_
          refine GO (tn 1 z) (by kernel_rfl) ?_
          refine CSd (fun h6p h6 => ?_) (fun h6p h6 => ?_)
          · have hz := wrdR_sz (getR b.fAttr (⟨#[97, 114, 103, 115]⟩)).1 _ (el_mem (l := (wrdR (getR b.fAttr (⟨#[97, 114, 103, 115]⟩)).1)) (i := w50) (by omega))
            refine GO (kb h6 (tn 1 (ke (el_strAV (wrdR ((getR b.fAttr (⟨#[97, 114, 103, 115]⟩)).1)) w50 (by first | omega | (simp only [lenM_eq, true_and]; omega))) (tn 5 (kp (show 0 ≤ (0 : Int) ∧ (0 : Int) ≤ ((w50 : Nat) : Int) ∧ ((w50 : Nat) : Int) ≤ ((lenM strAV (wrdR ((getR b.fAttr (⟨#[97, 114, 103, 115]⟩)).1)) : Nat) : Int) ∧ Uni 1 ((wrdR ((getR b.fAttr (⟨#[97, 114, 103, 115]⟩)).1)).map strAV) from ⟨by first | omega | (simp only [lenM_eq, true_and]; omega), by first | omega | (simp only [lenM_eq, true_and]; omega), by first | omega | (simp only [lenM_eq, true_and]; omega), uni_strAV _⟩) (kw (cutL strAV (wrdR ((getR b.fAttr (⟨#[97, 114, 103, 115]⟩)).1)) 0 (w50 - 0)) (tn 1 (kc (hasR_to ((List.drop 0 (wrdR ((getR b.fAttr (⟨#[97, 114, 103, 115]⟩)).1))).take (w50 - 0)) (el (wrdR ((getR b.fAttr (⟨#[97, 114, 103, 115]⟩)).1)) w50) (by first | assumption | omega | decide | (simp; done) | (simp; omega))) z)))))))) (by kernel_rfl) ?_
            refine CS (fun h7 => ?_) (fun h7 => ?_)
            · refine GO (kb h7 (tn 1 z)) (by kernel_rfl) ?_
              refine OUT z (by kernel_rfl) ?_
              exact EN (by kernel_rfl)
            · refine GO (kb h7 (kn (wrE ((((w50 : Nat) : Int)) + 1) (((w50 + 1 : Nat) : Int)) (by omega)) (tn 1 z))) (by kernel_rfl) ?_
              exact AG ⟨_, by omega, rfl, rfl⟩ (WK (by kernel_rfl)) (by kernel_rfl) (Nat.lt_succ_self _)
          · refine GO (kb h6 z) (by kernel_rfl) ?_
            refine OUT (tn 3 z) (by kernel_rfl) ?_
            refine LP (fun N M S => ∃ x63 : Nat, (List.length sofar - x63 < N) ∧ M = chkR_L2 b inside sofar v40 w50 (chkR_L0 b inside sofar n0) (chkR_L1 b inside sofar v40 (chkR_L0 b inside sofar n0) n1) N x63 ∧ S = (sx 80 [(2, (jL (sofar.map aMacro))), (7, (jS ((getR b.fAttr (⟨#[110, 97, 109, 101]⟩)).1))), (11, (jL ((wrdR ((getR b.fAttr (⟨#[97, 114, 103, 115]⟩)).1)).map strAV))), (61, (jL (sofar.map aMacro))), (62, (jI (((lenM aMacro sofar : Nat) : Int)))), (63, (jI (((x63 : Nat) : Int))))] [] [])) (by kernel_rfl) ⟨_, by omega, rfl, rfl⟩ (WK (by kernel_rfl)) ?_
            rintro n2 M S ⟨x63, hF2, rfl, rfl⟩
            obtain ⟨n2, rfl⟩ : ∃ k, n2 = k + 1 := ⟨n2 - 1, by omega⟩
            refine UF (chkR_L2.eq_2 ..) ?_
            refine GO (tn 1 z) (by kernel_rfl) ?_
            refine CSd (fun h8p h8 => ?_) (fun h8p h8 => ?_)
            · have := lenM_eq aMacro sofar
              refine GO (kb h8 (ke (el_aMacro sofar x63 (by first | omega | (simp only [lenM_eq, true_and]; omega))) (tn 7 z))) (by kernel_rfl) ?_
              refine CS (fun h9 => ?_) (fun h9 => ?_)
              · refine GO (kb h9 (tn 1 z)) (by kernel_rfl) ?_
                refine OUT z (by kernel_rfl) ?_
                exact EN (by kernel_rfl)
              · refine GO (kb h9 (kn (wrE ((((x63 : Nat) : Int)) + 1) (((x63 + 1 : Nat) : Int)) (by omega)) (tn 1 z))) (by kernel_rfl) ?_
                exact AG ⟨_, by omega, rfl, rfl⟩ (WK (by kernel_rfl)) (by kernel_rfl) (Nat.lt_succ_self _)
            · have := lenM_eq aMacro sofar
              refine GO (kb h8 z) (by kernel_rfl) ?_
              refine OUT (tn 4 (kj (decide ((((lenM strAV (wrdR ((getR b.fAttr (⟨#[97, 114, 103, 115]⟩)).1)) : Nat) : Int) : Int) > 8)) z (tn 3 z) z)) (by kernel_rfl) ?_
              refine CS (fun h10 => ?_) (fun h10 => ?_)
              · have := lenM_eq aMacro sofar
                refine GO (kb h10 (tn 1 z)) (by kernel_rfl) ?_
                exact EN (by kernel_rfl)
              · have := lenM_eq aMacro sofar
                obtain ⟨h10a, h10o⟩ := cond_tt h10
                have h10ap := of_decide_eq_false h10a
                have := lenM_eq aMacro sofar
                have h10op := of_decide_eq_false h10o
                refine GO (kb h10 (tn 1 z)) (by kernel_rfl) ?_
                exact EN (by kernel_rfl)
end Go.Proofs.YtcdfhagcchmnhaaGreatDoor
namespace Go.Proofs.YtcdfhagcchmnhaaGreatDoor
open Go Go.Eng
def textsB_L0 (a : List ByteArray) (b : List ByteArray) : Nat → Nat → Bool
  | 0, _ => default
  | n0 + 1, v5 => cond (decide ((((v5 : Nat) : Int) : Int) < ((lenM strAV a : Nat) : Int))) (cond ((!eqs (el a v5) (el b v5))) (false) (textsB_L0 a b n0 (v5 + 1))) (true)
def textsB (a : List ByteArray) (b : List ByteArray) : Bool := cond (((((lenM strAV a : Nat) : Int) : Int) != ((lenM strAV b : Nat) : Int))) (false) (textsB_L0 a b ((List.length a - (0)) + 1) 0)
set_option maxRecDepth 100000 in
set_option maxHeartbeats 4000000 in
theorem textsB_to (a : List ByteArray) (b : List ByteArray) (ha : a.length ≤ 1073741824) (hb : b.length ≤ 1073741824) : CallTo Tryz.prog 72 [(jL (a.map strAV)), (jL (b.map strAV))] [] [] (jB (textsB a b)) [] [] := by
  refine BEG (fun r : Bool => (jB (r))) (textsB a b) Tryz.func72 (by kernel_rfl) ?_
  refine UF (textsB.eq_1 ..) ?_
  refine GO (tn 6 z) (by kernel_rfl) ?_
  refine CSn (fun h1p h1 => ?_) (fun h1p h1 => ?_)
  · have := lenM_eq strAV a
    have := lenM_eq strAV b
    refine GO (kb h1 (tn 1 z)) (by kernel_rfl) ?_
    exact EN (by kernel_rfl)
  · have := lenM_eq strAV a
    have := lenM_eq strAV b
    refine GO (kb h1 (tn 1 z)) (by kernel_rfl) ?_
    refine LP (fun N M S => ∃ v5 : Nat, (List.length a - v5 < N) ∧ M = textsB_L0 a b N v5 ∧ S = (sx 26 [(0, (jL (a.map strAV))), (1, (jL (b.map strAV))), (5, (jI (((v5 : Nat) : Int))))] [] [])) (by kernel_rfl) ⟨_, by omega, rfl, rfl⟩ (WK (by kernel_rfl)) ?_
    rintro n0 M S ⟨v5, hF0, rfl, rfl⟩
    obtain ⟨n0, rfl⟩ : ∃ k, n0 = k + 1 := ⟨n0 - 1, by omega⟩
    refine UF (textsB_L0.eq_2 ..) ?_
    refine GO (tn 4 z) (by kernel_rfl) ?_
    refine CSd (fun h2p h2 => ?_) (fun h2p h2 => ?_)
    · have := lenM_eq strAV a
      refine GO (kb h2 z) (by kernel_rfl) ?_
      have d3 := (el_strAV a v5 (by first | omega | (simp only [lenM_eq, true_and]; omega)))
      have d4 := (el_strAV b v5 (by first | omega | (simp only [lenM_eq, true_and]; omega)))
      refine DR3 (tn 2 (ko (eO d3) (kp d3 (tn 3 (ko (eO d4) (kp d4 (tn 2 z))))))) (by kernel_rfl) (by kernel_rfl) (by kernel_rfl) ?_
      refine CS (fun h5 => ?_) (fun h5 => ?_)
      · have h5n := nott h5
        refine GO (kb h5 (tn 1 z)) (by kernel_rfl) ?_
        refine OUT z (by kernel_rfl) ?_
        exact EN (by kernel_rfl)
      · have h5n := notf h5
        refine GO (kb h5 (tn 1 (kn (wrE ((((v5 : Nat) : Int)) + 1) (((v5 + 1 : Nat) : Int)) (by omega)) (tn 1 z)))) (by kernel_rfl) ?_
        exact AG ⟨_, by omega, rfl, rfl⟩ (WK (by kernel_rfl)) (by kernel_rfl) (Nat.lt_succ_self _)
    · have := lenM_eq strAV a
      refine GO (kb h2 z) (by kernel_rfl) ?_
      refine OUT (tn 1 z) (by kernel_rfl) ?_
      exact EN (by kernel_rfl)
def pairsB_L0 (a : List DPair) (b : List DPair) : Nat → Nat → Bool
  | 0, _ => default
  | n0 + 1, v5 => cond (decide ((((v5 : Nat) : Int) : Int) < ((lenM aPair a : Nat) : Int))) (cond ((!(eqs ((el a v5).fKey) ((el b v5).fKey) && (eqs ((el a v5).fValue) ((el b v5).fValue) && true)))) (false) (pairsB_L0 a b n0 (v5 + 1))) (true)
def pairsB (a : List DPair) (b : List DPair) : Bool := cond (((((lenM aPair a : Nat) : Int) : Int) != ((lenM aPair b : Nat) : Int))) (false) (pairsB_L0 a b ((List.length a - (0)) + 1) 0)
set_option maxRecDepth 100000 in
set_option maxHeartbeats 4000000 in
theorem pairsB_to (a : List DPair) (b : List DPair) (ha : a.length ≤ 1073741824) (hb : b.length ≤ 1073741824) : CallTo Tryz.prog 73 [(jL (a.map aPair)), (jL (b.map aPair))] [] [] (jB (pairsB a b)) [] [] := by
  refine BEG (fun r : Bool => (jB (r))) (pairsB a b) Tryz.func73 (by kernel_rfl) ?_
  refine UF (pairsB.eq_1 ..) ?_
  refine GO (tn 6 z) (by kernel_rfl) ?_
  refine CSn (fun h1p h1 => ?_) (fun h1p h1 => ?_)
  · have := lenM_eq aPair a
    have := lenM_eq aPair b
    refine GO (kb h1 (tn 1 z)) (by kernel_rfl) ?_
    exact EN (by kernel_rfl)
  · have := lenM_eq aPair a
    have := lenM_eq aPair b
    refine GO (kb h1 (tn 1 z)) (by kernel_rfl) ?_
    refine LP (fun N M S => ∃ v5 : Nat, (List.length a - v5 < N) ∧ M = pairsB_L0 a b N v5 ∧ S = (sx 26 [(0, (jL (a.map aPair))), (1, (jL (b.map aPair))), (5, (jI (((v5 : Nat) : Int))))] [] [])) (by kernel_rfl) ⟨_, by omega, rfl, rfl⟩ (WK (by kernel_rfl)) ?_
    rintro n0 M S ⟨v5, hF0, rfl, rfl⟩
    obtain ⟨n0, rfl⟩ : ∃ k, n0 = k + 1 := ⟨n0 - 1, by omega⟩
    refine UF (pairsB_L0.eq_2 ..) ?_
    refine GO (tn 4 z) (by kernel_rfl) ?_
    refine CSd (fun h2p h2 => ?_) (fun h2p h2 => ?_)
    · have := lenM_eq aPair a
      refine GO (kb h2 z) (by kernel_rfl) ?_
      have d3 := (el_aPair a v5 (by first | omega | (simp only [lenM_eq, true_and]; omega)))
      have d4 := (el_aPair b v5 (by first | omega | (simp only [lenM_eq, true_and]; omega)))
      refine DR3 (tn 2 (ko (eO d3) (kp d3 (tn 3 (ko (eO d4) (kp d4 (tn 2 z))))))) (by kernel_rfl) (by kernel_rfl) (by kernel_rfl) ?_
      refine CS (fun h5 => ?_) (fun h5 => ?_)
      · have h5n := nott h5
        refine GO (kb h5 (tn 1 z)) (by kernel_rfl) ?_
        refine OUT z (by kernel_rfl) ?_
        exact EN (by kernel_rfl)
      · have h5n := notf h5
        refine GO (kb h5 (tn 1 (kn (wrE ((((v5 : Nat) : Int)) + 1) (((v5 + 1 : Nat) : Int)) (by omega)) (tn 1 z)))) (by kernel_rfl) ?_
        exact AG ⟨_, by omega, rfl, rfl⟩ (WK (by kernel_rfl)) (by kernel_rfl) (Nat.lt_succ_self _)
    · have := lenM_eq aPair a
      refine GO (kb h2 z) (by kernel_rfl) ?_
      refine OUT (tn 1 z) (by kernel_rfl) ?_
      exact EN (by kernel_rfl)
def atsB (a : DAttr) (b : DAttr) : Bool := cond (cond (eqs (a.fID) (b.fID)) (textsB a.fClasses b.fClasses) (false)) (pairsB a.fPairs b.fPairs) (false)
set_option maxRecDepth 100000 in
set_option maxHeartbeats 4000000 in
theorem atsB_to (a : DAttr) (b : DAttr) (ha : wAttr a ≤ 1073741824) (hb : wAttr b ≤ 1073741824) : CallTo Tryz.prog 47 [(.av (cAttr a)), (.av (cAttr b))] [] [] (jB (atsB a b)) [] [] := by
  have hwa := wAttr_eq a
  have hwb := wAttr_eq b
  have hw_0 := wl_len (w := wStr) wStr_pos a.fClasses
  have hw_1 := wl_len (w := wPair) wPair_pos a.fPairs
  have hw_2 := wl_len (w := wStr) wStr_pos b.fClasses
  have hw_3 := wl_len (w := wPair) wPair_pos b.fPairs
  refine BEG (fun r : Bool => (jB (r))) (atsB a b) Tryz.func47 (by kernel_rfl) ?_
  refine UF (atsB.eq_1 ..) ?_
  refine GO (tn 9 (kj (eqs (a.fID) (b.fID)) (tn 4 (hc (fun h => by have j0 := h.2; exact (textsB_to a.fClasses b.fClasses (by first | assumption | omega | decide | (simp; done) | (simp; omega)) (by first | assumption | omega | decide | (simp; done) | (simp; omega)))) z)) z (tn 1 (kj (cond (eqs (a.fID) (b.fID)) (textsB a.fClasses b.fClasses) (false)) (tn 4 (hc (fun h => by have j0 := h.2; obtain ⟨j0a, j0o⟩ := cond_ff j0; exact (pairsB_to a.fPairs b.fPairs (by first | assumption | omega | decide | (simp; done) | (simp; omega)) (by first | assumption | omega | decide | (simp; done) | (simp; omega)))) z)) z (tn 1 z))))) (by kernel_rfl) ?_
  exact EN (by kernel_rfl)
def samLS_L1 (rec : (List DInline) → (List DInline) → Bool) (a : List DInline) (b : List DInline) (v5 : Nat) (k0 : Nat → Bool) : Nat → Nat → Bool
  | 0, _ => default
  | n1 + 1, w8 => cond (decide ((((w8 : Nat) : Int) : Int) < ((lenM aCited ((el a v5).fCites) : Nat) : Int))) (cond ((!(eqs ((el ((el a v5).fCites) w8).fKey) ((el ((el b v5).fCites) w8).fKey) && (eqs ((el ((el a v5).fCites) w8).fPrefix) ((el ((el b v5).fCites) w8).fPrefix) && (eqs ((el ((el a v5).fCites) w8).fSuffix) ((el ((el b v5).fCites) w8).fSuffix) && (((el ((el a v5).fCites) w8).fBare == (el ((el b v5).fCites) w8).fBare) && true)))))) (false) (samLS_L1 rec a b v5 k0 n1 (w8 + 1))) (k0 (v5 + 1))
def samLS_L0 (rec : (List DInline) → (List DInline) → Bool) (a : List DInline) (b : List DInline) : Nat → Nat → Bool
  | 0, _ => default
  | n0 + 1, v5 => cond (decide ((((v5 : Nat) : Int) : Int) < ((lenM aInline a : Nat) : Int))) (cond (cond (cond (cond (cond (cond (cond (cond ((((el a v5).fKind : Int) != (el b v5).fKind)) (true) ((!eqs ((el a v5).fText) ((el b v5).fText)))) (true) ((!eqs ((el a v5).fDest) ((el b v5).fDest)))) (true) ((!eqs ((el a v5).fTitle) ((el b v5).fTitle)))) (true) ((!atsB ((el a v5).fAttr) ((el b v5).fAttr)))) (true) ((!textsB ((el a v5).fArgs) ((el b v5).fArgs)))) (true) (((((lenM aCited ((el a v5).fCites) : Nat) : Int) : Int) != ((lenM aCited ((el b v5).fCites) : Nat) : Int)))) (true) ((!rec ((el a v5).fKids) ((el b v5).fKids)))) (false) (samLS_L1 rec a b v5 (samLS_L0 rec a b n0) ((List.length ((el a v5).fCites) - (0)) + 1) 0)) (true)
def samLS (rec : (List DInline) → (List DInline) → Bool) (a : List DInline) (b : List DInline) : Bool := cond (((((lenM aInline a : Nat) : Int) : Int) != ((lenM aInline b : Nat) : Int))) (false) (samLS_L0 rec a b ((List.length a - (0)) + 1) 0)
set_option maxRecDepth 100000 in
set_option maxHeartbeats 4000000 in
theorem samL_st (rec : (List DInline) → (List DInline) → Bool) (a : List DInline) (b : List DInline) (ha : wl wInline a ≤ 1073741824) (hb : wl wInline b ≤ 1073741824) (hrec : ∀ (a' : List DInline) (b' : List DInline), wl wInline a' < wl wInline a → wl wInline a' ≤ 1073741824 → wl wInline b' ≤ 1073741824 → CallTo Tryz.prog 48 [(jL ((a').map aInline)), (jL ((b').map aInline))] [] [] (jB (rec a' b')) [] []) : CallTo Tryz.prog 48 [(jL (a.map aInline)), (jL (b.map aInline))] [] [] (jB (samLS rec a b)) [] [] := by
  have hw_0 := wl_len (w := wInline) wInline_pos a
  have hw_1 := wl_len (w := wInline) wInline_pos b
  refine BEG (fun r : Bool => (jB (r))) (samLS rec a b) Tryz.func48 (by kernel_rfl) ?_
  refine UF (samLS.eq_1 ..) ?_
  refine GO (tn 6 z) (by kernel_rfl) ?_
  refine CSn (fun h1p h1 => ?_) (fun h1p h1 => ?_)
  · have := lenM_eq aInline a
    have := lenM_eq aInline b
    refine GO (kb h1 (tn 1 z)) (by kernel_rfl) ?_
    exact EN (by kernel_rfl)
  · have := lenM_eq aInline a
    have := lenM_eq aInline b
    refine GO (kb h1 (tn 1 z)) (by kernel_rfl) ?_
    refine LP (fun N M S => ∃ v5 : Nat, (List.length a - v5 < N) ∧ M = samLS_L0 rec a b N v5 ∧ S = (sx 105 [(0, (jL (a.map aInline))), (1, (jL (b.map aInline))), (5, (jI (((v5 : Nat) : Int))))] [] [])) (by kernel_rfl) ⟨_, by omega, rfl, rfl⟩ (WK (by kernel_rfl)) ?_
    rintro n0 M S ⟨v5, hF0, rfl, rfl⟩
    obtain ⟨n0, rfl⟩ : ∃ k, n0 = k + 1 := ⟨n0 - 1, by omega⟩
    refine UF (samLS_L0.eq_2 ..) ?_
    refine GO (tn 4 z) (by kernel_rfl) ?_
    refine CSd (fun h2p h2 => ?_) (fun h2p h2 => ?_)
    · have := lenM_eq aInline a
      have hcea := wl_el (w := wInline) (l := a) (i := v5) (by omega)
      have hcwa := wInline_eq (el a v5)
      simp only [wStr, w1] at hcwa
      have hceb := wl_el (w := wInline) (l := b) (i := v5) (by omega)
      have hcwb := wInline_eq (el b v5)
      simp only [wStr, w1] at hcwb
      have hla0 := wl_len (w := wStr) wStr_pos (el a v5).fArgs
      have hla1 := wl_len (w := wCited) wCited_pos (el a v5).fCites
      have hlb0 := wl_len (w := wStr) wStr_pos (el b v5).fArgs
      have hlb1 := wl_len (w := wCited) wCited_pos (el b v5).fCites
      refine GO (kb h2 z) (by kernel_rfl) ?_
      have d3 := (el_aInline a v5 (by first | omega | (simp only [lenM_eq, true_and]; omega)))
      have d4 := (el_aInline b v5 (by first | omega | (simp only [lenM_eq, true_and]; omega)))
      refine DR3 (tn 2 (ko (eO d3) (kp d3 (tn 5 (ko (eO d4) (kp d4 (kp d4 (tn 12 (kj ((((el a v5).fKind : Int) != (el b v5).fKind)) z (tn 5 z) (tn 1 (kj (cond ((((el a v5).fKind : Int) != (el b v5).fKind)) (true) ((!eqs ((el a v5).fText) ((el b v5).fText)))) z (tn 5 z) (tn 1 (kj (cond (cond ((((el a v5).fKind : Int) != (el b v5).fKind)) (true) ((!eqs ((el a v5).fText) ((el b v5).fText)))) (true) ((!eqs ((el a v5).fDest) ((el b v5).fDest)))) z (tn 5 z) (tn 1 (kj (cond (cond (cond ((((el a v5).fKind : Int) != (el b v5).fKind)) (true) ((!eqs ((el a v5).fText) ((el b v5).fText)))) (true) ((!eqs ((el a v5).fDest) ((el b v5).fDest)))) (true) ((!eqs ((el a v5).fTitle) ((el b v5).fTitle)))) z (tn 4 (hc (fun h => by have j0 := h.2; obtain ⟨j0a, j0o⟩ := cond_tt j0; obtain ⟨j0aa, j0ao⟩ := cond_tt j0a; obtain ⟨j0aaa, j0aao⟩ := cond_tt j0aa; have j0aaap := eq_of_bne_false j0aaa; have j0aaon := notf j0aao; have j0aon := notf j0ao; have j0on := notf j0o; exact (atsB_to ((el a v5).fAttr) ((el b v5).fAttr) (by first | assumption | omega | decide | (simp; done) | (simp; omega)) (by first | assumption | omega | decide | (simp; done) | (simp; omega)))) (tn 1 z))) (tn 1 (kj (cond (cond (cond (cond ((((el a v5).fKind : Int) != (el b v5).fKind)) (true) ((!eqs ((el a v5).fText) ((el b v5).fText)))) (true) ((!eqs ((el a v5).fDest) ((el b v5).fDest)))) (true) ((!eqs ((el a v5).fTitle) ((el b v5).fTitle)))) (true) ((!atsB ((el a v5).fAttr) ((el b v5).fAttr)))) z (tn 4 (hc (fun h => by have j0 := h.2; obtain ⟨j0a, j0o⟩ := cond_tt j0; obtain ⟨j0aa, j0ao⟩ := cond_tt j0a; obtain ⟨j0aaa, j0aao⟩ := cond_tt j0aa; obtain ⟨j0aaaa, j0aaao⟩ := cond_tt j0aaa; have j0aaaap := eq_of_bne_false j0aaaa; have j0aaaon := notf j0aaao; have j0aaon := notf j0aao; have j0aon := notf j0ao; have j0on := notf j0o; exact (textsB_to ((el a v5).fArgs) ((el b v5).fArgs) (by first | assumption | omega | decide | (simp; done) | (simp; omega)) (by first | assumption | omega | decide | (simp; done) | (simp; omega)))) (tn 1 z))) (tn 1 (kj (cond (cond (cond (cond (cond ((((el a v5).fKind : Int) != (el b v5).fKind)) (true) ((!eqs ((el a v5).fText) ((el b v5).fText)))) (true) ((!eqs ((el a v5).fDest) ((el b v5).fDest)))) (true) ((!eqs ((el a v5).fTitle) ((el b v5).fTitle)))) (true) ((!atsB ((el a v5).fAttr) ((el b v5).fAttr)))) (true) ((!textsB ((el a v5).fArgs) ((el b v5).fArgs)))) z (tn 7 z) (tn 1 (kj (cond (cond (cond (cond (cond (cond ((((el a v5).fKind : Int) != (el b v5).fKind)) (true) ((!eqs ((el a v5).fText) ((el b v5).fText)))) (true) ((!eqs ((el a v5).fDest) ((el b v5).fDest)))) (true) ((!eqs ((el a v5).fTitle) ((el b v5).fTitle)))) (true) ((!atsB ((el a v5).fAttr) ((el b v5).fAttr)))) (true) ((!textsB ((el a v5).fArgs) ((el b v5).fArgs)))) (true) (((((lenM aCited ((el a v5).fCites) : Nat) : Int) : Int) != ((lenM aCited ((el b v5).fCites) : Nat) : Int)))) z (tn 4 (hc (fun h => by have j0 := h.2; have := lenM_eq aCited ((el a v5).fCites); have := lenM_eq aCited ((el b v5).fCites); obtain ⟨j0a, j0o⟩ := cond_tt j0; obtain ⟨j0aa, j0ao⟩ := cond_tt j0a; obtain ⟨j0aaa, j0aao⟩ := cond_tt j0aa; obtain ⟨j0aaaa, j0aaao⟩ := cond_tt j0aaa; obtain ⟨j0aaaaa, j0aaaao⟩ := cond_tt j0aaaa; obtain ⟨j0aaaaaa, j0aaaaao⟩ := cond_tt j0aaaaa; have j0aaaaaap := eq_of_bne_false j0aaaaaa; have j0aaaaaon := notf j0aaaaao; have j0aaaaon := notf j0aaaao; have j0aaaon := notf j0aaao; have j0aaon := notf j0aao; have j0aon := notf j0ao; have := lenM_eq aCited ((el a v5).fCites); have := lenM_eq aCited ((el b v5).fCites); have j0op := eq_of_bne_false j0o; exact (hrec ((el a v5).fKids) ((el b v5).fKids) (by first | assumption | omega | decide | (simp; done) | (simp; omega)) (by first | assumption | omega | decide | (simp; done) | (simp; omega)) (by first | assumption | omega | decide | (simp; done) | (simp; omega)))) (tn 1 z))) z))))))))))))))))))))) (by kernel_rfl) (by kernel_rfl) (by kernel_rfl) ?_
      refine CS (fun h5 => ?_) (fun h5 => ?_)
      · have := lenM_eq aCited ((el a v5).fCites)
        have := lenM_eq aCited ((el b v5).fCites)
        refine GO (kb h5 (tn 1 z)) (by kernel_rfl) ?_
        refine OUT z (by kernel_rfl) ?_
        exact EN (by kernel_rfl)
      · have := lenM_eq aCited ((el a v5).fCites)
        have := lenM_eq aCited ((el b v5).fCites)
        obtain ⟨h5a, h5o⟩ := cond_tt h5
        have := lenM_eq aCited ((el a v5).fCites)
        have := lenM_eq aCited ((el b v5).fCites)
        obtain ⟨h5aa, h5ao⟩ := cond_tt h5a
        obtain ⟨h5aaa, h5aao⟩ := cond_tt h5aa
        obtain ⟨h5aaaa, h5aaao⟩ := cond_tt h5aaa
        obtain ⟨h5aaaaa, h5aaaao⟩ := cond_tt h5aaaa
        obtain ⟨h5aaaaaa, h5aaaaao⟩ := cond_tt h5aaaaa
        obtain ⟨h5aaaaaaa, h5aaaaaao⟩ := cond_tt h5aaaaaa
        have h5aaaaaaap := eq_of_bne_false h5aaaaaaa
        have h5aaaaaaon := notf h5aaaaaao
        have h5aaaaaon := notf h5aaaaao
        have h5aaaaon := notf h5aaaao
        have h5aaaon := notf h5aaao
        have h5aaon := notf h5aao
        have := lenM_eq aCited ((el a v5).fCites)
        have := lenM_eq aCited ((el b v5).fCites)
        have h5aop := eq_of_bne_false h5ao
        have h5on := notf h5o
        refine GO (kb h5 (tn 1 z)) (by kernel_rfl) ?_
        refine LP (fun N M S => ∃ w8 : Nat, (List.length ((el a v5).fCites) - w8 < N) ∧ M = samLS_L1 rec a b v5 (samLS_L0 rec a b n0) N w8 ∧ S = (sx 105 [(0, (jL (a.map aInline))), (1, (jL (b.map aInline))), (5, (jI (((v5 : Nat) : Int)))), (6, (.ptr 6 0)), (7, (.ptr 7 0)), (8, (jI (((w8 : Nat) : Int)))), (20, (jL (a.map aInline))), (21, (jI (((v5 : Nat) : Int)))), (22, (.av (.ro [(vI ((el a v5).fKind)), (vS ((el a v5).fText)), (vS ((el a v5).fDest)), (vS ((el a v5).fTitle)), (vS (((el a v5).fAttr).fID)), (.sl ((((el a v5).fAttr).fClasses).map strAV)), (.sl ((((el a v5).fAttr).fPairs).map aPair)), (.sl (((el a v5).fArgs).map strAV)), (.sl (((el a v5).fCites).map aCited)), (.sl (((el a v5).fKids).map aInline))] 0))), (23, (.av (cInline (el a v5)))), (24, (jL (b.map aInline))), (25, (jI (((v5 : Nat) : Int)))), (26, (.av (.ro [(vI ((el b v5).fKind)), (vS ((el b v5).fText)), (vS ((el b v5).fDest)), (vS ((el b v5).fTitle)), (vS (((el b v5).fAttr).fID)), (.sl ((((el b v5).fAttr).fClasses).map strAV)), (.sl ((((el b v5).fAttr).fPairs).map aPair)), (.sl (((el b v5).fArgs).map strAV)), (.sl (((el b v5).fCites).map aCited)), (.sl (((el b v5).fKids).map aInline))] 0))), (27, (.av (cInline (el b v5))))] [(7, (.cells 48 (sInline (el b v5)))), (6, (.cells 48 (sInline (el a v5))))] [])) (by kernel_rfl) ⟨_, by omega, rfl, rfl⟩ (WK (by kernel_rfl)) ?_
        rintro n1 M S ⟨w8, hF1, rfl, rfl⟩
        obtain ⟨n1, rfl⟩ : ∃ k, n1 = k + 1 := ⟨n1 - 1, by omega⟩
        refine UF (samLS_L1.eq_2 ..) ?_
        refine GO (tn 5 z) (by kernel_rfl) ?_
        refine CSd (fun h6p h6 => ?_) (fun h6p h6 => ?_)
        · have := lenM_eq aCited ((el a v5).fCites)
          refine GO (kb h6 z) (by kernel_rfl) ?_
          have d7 := (el_aCited ((el a v5).fCites) w8 (by first | omega | (simp only [lenM_eq, true_and]; omega)))
          have d8 := (el_aCited ((el b v5).fCites) w8 (by first | omega | (simp only [lenM_eq, true_and]; omega)))
          refine DR3 (tn 3 (ko (eO d7) (kp d7 (tn 4 (ko (eO d8) (kp d8 (tn 2 z))))))) (by kernel_rfl) (by kernel_rfl) (by kernel_rfl) ?_
          refine CS (fun h9 => ?_) (fun h9 => ?_)
          · have h9n := nott h9
            refine GO (kb h9 (tn 1 z)) (by kernel_rfl) ?_
            refine OUT z (by kernel_rfl) ?_
            refine OUT z (by kernel_rfl) ?_
            exact EN (by kernel_rfl)
          · have h9n := notf h9
            refine GO (kb h9 (tn 1 (kn (wrE ((((w8 : Nat) : Int)) + 1) (((w8 + 1 : Nat) : Int)) (by omega)) (tn 1 z)))) (by kernel_rfl) ?_
            exact AG ⟨_, by omega, rfl, rfl⟩ (WK (by kernel_rfl)) (by kernel_rfl) (Nat.lt_succ_self _)
        · have := lenM_eq aCited ((el a v5).fCites)
          refine GO (kb h6 z) (by kernel_rfl) ?_
          refine OUT (tn 1 (kn (wrE ((((v5 : Nat) : Int)) + 1) (((v5 + 1 : Nat) : Int)) (by omega)) (tn 1 z))) (by kernel_rfl) ?_
          exact AG ⟨_, by omega, rfl, rfl⟩ (WK (by kernel_rfl)) (by kernel_rfl) (Nat.lt_succ_self _)
    · have := lenM_eq aInline a
      refine GO (kb h2 z) (by kernel_rfl) ?_
      refine OUT (tn 1 z) (by kernel_rfl) ?_
      exact EN (by kernel_rfl)
def samLN : Nat → (List DInline) → (List DInline) → Bool
  | 0, _, _ => default
  | n + 1, a, b => samLS (samLN n) a b
theorem samLN_to : ∀ (n : Nat) (a : List DInline) (b : List DInline), wl wInline a < n → wl wInline a ≤ 1073741824 → wl wInline b ≤ 1073741824 → CallTo Tryz.prog 48 [(jL (a.map aInline)), (jL (b.map aInline))] [] [] (jB (samLN n a b)) [] []
  | 0, a, b, h0, _, _ => absurd h0 (Nat.not_lt_zero _)
  | n + 1, a, b, h0, ha, hb => by
    exact samL_st (samLN n) a b ha hb (fun a' b' q1 ha' hb' => samLN_to n a' b' (by omega) ha' hb')
def samL (a : List DInline) (b : List DInline) : Bool := samLN (wl wInline a + 1) a b
theorem samL_to (a : List DInline) (b : List DInline) (ha : wl wInline a ≤ 1073741824) (hb : wl wInline b ≤ 1073741824) : CallTo Tryz.prog 48 [(jL (a.map aInline)), (jL (b.map aInline))] [] [] (jB (samL a b)) [] [] := samLN_to _ a b (Nat.lt_succ_self _) ha hb
def samBS_L0 (rec : (List DBlock) → (List DBlock) → Bool) (a : List DBlock) (b : List DBlock) : Nat → Nat → Bool
  | 0, _ => default
  | n0 + 1, v5 => cond (decide ((((v5 : Nat) : Int) : Int) < ((lenM aBlock a : Nat) : Int))) (cond (cond (cond (cond (cond (cond (cond (cond (cond ((((el a v5).fKind : Int) != (el b v5).fKind)) (true) ((((el a v5).fLevel : Int) != (el b v5).fLevel))) (true) ((!eqs ((el a v5).fInfo) ((el b v5).fInfo)))) (true) ((!eqs ((el a v5).fText) ((el b v5).fText)))) (true) ((!eqs ((el a v5).fDest) ((el b v5).fDest)))) (true) ((!eqs ((el a v5).fTitle) ((el b v5).fTitle)))) (true) ((!atsB ((el a v5).fAttr) ((el b v5).fAttr)))) (true) ((!samL ((el a v5).fLine) ((el b v5).fLine)))) (true) ((!rec ((el a v5).fKids) ((el b v5).fKids)))) (false) (samBS_L0 rec a b n0 (v5 + 1))) (true)
def samBS (rec : (List DBlock) → (List DBlock) → Bool) (a : List DBlock) (b : List DBlock) : Bool := cond (((((lenM aBlock a : Nat) : Int) : Int) != ((lenM aBlock b : Nat) : Int))) (false) (samBS_L0 rec a b ((List.length a - (0)) + 1) 0)
set_option maxRecDepth 100000 in
set_option maxHeartbeats 4000000 in
theorem samB_st (rec : (List DBlock) → (List DBlock) → Bool) (a : List DBlock) (b : List DBlock) (ha : wl wBlock a ≤ 1073741824) (hb : wl wBlock b ≤ 1073741824) (hrec : ∀ (a' : List DBlock) (b' : List DBlock), wl wBlock a' < wl wBlock a → wl wBlock a' ≤ 1073741824 → wl wBlock b' ≤ 1073741824 → CallTo Tryz.prog 23 [(jL ((a').map aBlock)), (jL ((b').map aBlock))] [] [] (jB (rec a' b')) [] []) : CallTo Tryz.prog 23 [(jL (a.map aBlock)), (jL (b.map aBlock))] [] [] (jB (samBS rec a b)) [] [] := by
  have hw_0 := wl_len (w := wBlock) wBlock_pos a
  have hw_1 := wl_len (w := wBlock) wBlock_pos b
  refine BEG (fun r : Bool => (jB (r))) (samBS rec a b) Tryz.func23 (by kernel_rfl) ?_
  refine UF (samBS.eq_1 ..) ?_
  refine GO (tn 6 z) (by kernel_rfl) ?_
  refine CSn (fun h1p h1 => ?_) (fun h1p h1 => ?_)
  · have := lenM_eq aBlock a
    have := lenM_eq aBlock b
    refine GO (kb h1 (tn 1 z)) (by kernel_rfl) ?_
    exact EN (by kernel_rfl)
  · have := lenM_eq aBlock a
    have := lenM_eq aBlock b
    refine GO (kb h1 (tn 1 z)) (by kernel_rfl) ?_
    refine LP (fun N M S => ∃ v5 : Nat, (List.length a - v5 < N) ∧ M = samBS_L0 rec a b N v5 ∧ S = (sx 91 [(0, (jL (a.map aBlock))), (1, (jL (b.map aBlock))), (5, (jI (((v5 : Nat) : Int))))] [] [])) (by kernel_rfl) ⟨_, by omega, rfl, rfl⟩ (WK (by kernel_rfl)) ?_
    rintro n0 M S ⟨v5, hF0, rfl, rfl⟩
    obtain ⟨n0, rfl⟩ : ∃ k, n0 = k + 1 := ⟨n0 - 1, by omega⟩
    refine UF (samBS_L0.eq_2 ..) ?_
    refine GO (tn 4 z) (by kernel_rfl) ?_
    refine CSd (fun h2p h2 => ?_) (fun h2p h2 => ?_)
    · have := lenM_eq aBlock a
      have hcea := wl_el (w := wBlock) (l := a) (i := v5) (by omega)
      have hcwa := wBlock_eq (el a v5)
      simp only [wStr, w1] at hcwa
      have hceb := wl_el (w := wBlock) (l := b) (i := v5) (by omega)
      have hcwb := wBlock_eq (el b v5)
      simp only [wStr, w1] at hcwb
      refine GO (kb h2 z) (by kernel_rfl) ?_
      have d3 := (el_aBlock a v5 (by first | omega | (simp only [lenM_eq, true_and]; omega)))
      have d4 := (el_aBlock b v5 (by first | omega | (simp only [lenM_eq, true_and]; omega)))
      refine DR3 (tn 2 (ko (eO d3) (kp d3 (tn 5 (ko (eO d4) (kp d4 (kp d4 (tn 12 (kj ((((el a v5).fKind : Int) != (el b v5).fKind)) z (tn 5 z) (tn 1 (kj (cond ((((el a v5).fKind : Int) != (el b v5).fKind)) (true) ((((el a v5).fLevel : Int) != (el b v5).fLevel))) z (tn 5 z) (tn 1 (kj (cond (cond ((((el a v5).fKind : Int) != (el b v5).fKind)) (true) ((((el a v5).fLevel : Int) != (el b v5).fLevel))) (true) ((!eqs ((el a v5).fInfo) ((el b v5).fInfo)))) z (tn 5 z) (tn 1 (kj (cond (cond (cond ((((el a v5).fKind : Int) != (el b v5).fKind)) (true) ((((el a v5).fLevel : Int) != (el b v5).fLevel))) (true) ((!eqs ((el a v5).fInfo) ((el b v5).fInfo)))) (true) ((!eqs ((el a v5).fText) ((el b v5).fText)))) z (tn 5 z) (tn 1 (kj (cond (cond (cond (cond ((((el a v5).fKind : Int) != (el b v5).fKind)) (true) ((((el a v5).fLevel : Int) != (el b v5).fLevel))) (true) ((!eqs ((el a v5).fInfo) ((el b v5).fInfo)))) (true) ((!eqs ((el a v5).fText) ((el b v5).fText)))) (true) ((!eqs ((el a v5).fDest) ((el b v5).fDest)))) z (tn 5 z) (tn 1 (kj (cond (cond (cond (cond (cond ((((el a v5).fKind : Int) != (el b v5).fKind)) (true) ((((el a v5).fLevel : Int) != (el b v5).fLevel))) (true) ((!eqs ((el a v5).fInfo) ((el b v5).fInfo)))) (true) ((!eqs ((el a v5).fText) ((el b v5).fText)))) (true) ((!eqs ((el a v5).fDest) ((el b v5).fDest)))) (true) ((!eqs ((el a v5).fTitle) ((el b v5).fTitle)))) z (tn 4 (hc (fun h => by have j0 := h.2; obtain ⟨j0a, j0o⟩ := cond_tt j0; obtain ⟨j0aa, j0ao⟩ := cond_tt j0a; obtain ⟨j0aaa, j0aao⟩ := cond_tt j0aa; obtain ⟨j0aaaa, j0aaao⟩ := cond_tt j0aaa; obtain ⟨j0aaaaa, j0aaaao⟩ := cond_tt j0aaaa; have j0aaaaap := eq_of_bne_false j0aaaaa; have j0aaaaop := eq_of_bne_false j0aaaao; have j0aaaon := notf j0aaao; have j0aaon := notf j0aao; have j0aon := notf j0ao; have j0on := notf j0o; exact (atsB_to ((el a v5).fAttr) ((el b v5).fAttr) (by first | assumption | omega | decide | (simp; done) | (simp; omega)) (by first | assumption | omega | decide | (simp; done) | (simp; omega)))) (tn 1 z))) (tn 1 (kj (cond (cond (cond (cond (cond (cond ((((el a v5).fKind : Int) != (el b v5).fKind)) (true) ((((el a v5).fLevel : Int) != (el b v5).fLevel))) (true) ((!eqs ((el a v5).fInfo) ((el b v5).fInfo)))) (true) ((!eqs ((el a v5).fText) ((el b v5).fText)))) (true) ((!eqs ((el a v5).fDest) ((el b v5).fDest)))) (true) ((!eqs ((el a v5).fTitle) ((el b v5).fTitle)))) (true) ((!atsB ((el a v5).fAttr) ((el b v5).fAttr)))) z (tn 4 (hc (fun h => by have j0 := h.2; obtain ⟨j0a, j0o⟩ := cond_tt j0; obtain ⟨j0aa, j0ao⟩ := cond_tt j0a; obtain ⟨j0aaa, j0aao⟩ := cond_tt j0aa; obtain ⟨j0aaaa, j0aaao⟩ := cond_tt j0aaa; obtain ⟨j0aaaaa, j0aaaao⟩ := cond_tt j0aaaa; obtain ⟨j0aaaaaa, j0aaaaao⟩ := cond_tt j0aaaaa; have j0aaaaaap := eq_of_bne_false j0aaaaaa; have j0aaaaaop := eq_of_bne_false j0aaaaao; have j0aaaaon := notf j0aaaao; have j0aaaon := notf j0aaao; have j0aaon := notf j0aao; have j0aon := notf j0ao; have j0on := notf j0o; exact (samL_to ((el a v5).fLine) ((el b v5).fLine) (by first | assumption | omega | decide | (simp; done) | (simp; omega)) (by first | assumption | omega | decide | (simp; done) | (simp; omega)))) (tn 1 z))) (tn 1 (kj (cond (cond (cond (cond (cond (cond (cond ((((el a v5).fKind : Int) != (el b v5).fKind)) (true) ((((el a v5).fLevel : Int) != (el b v5).fLevel))) (true) ((!eqs ((el a v5).fInfo) ((el b v5).fInfo)))) (true) ((!eqs ((el a v5).fText) ((el b v5).fText)))) (true) ((!eqs ((el a v5).fDest) ((el b v5).fDest)))) (true) ((!eqs ((el a v5).fTitle) ((el b v5).fTitle)))) (true) ((!atsB ((el a v5).fAttr) ((el b v5).fAttr)))) (true) ((!samL ((el a v5).fLine) ((el b v5).fLine)))) z (tn 4 (hc (fun h => by have j0 := h.2; obtain ⟨j0a, j0o⟩ := cond_tt j0; obtain ⟨j0aa, j0ao⟩ := cond_tt j0a; obtain ⟨j0aaa, j0aao⟩ := cond_tt j0aa; obtain ⟨j0aaaa, j0aaao⟩ := cond_tt j0aaa; obtain ⟨j0aaaaa, j0aaaao⟩ := cond_tt j0aaaa; obtain ⟨j0aaaaaa, j0aaaaao⟩ := cond_tt j0aaaaa; obtain ⟨j0aaaaaaa, j0aaaaaao⟩ := cond_tt j0aaaaaa; have j0aaaaaaap := eq_of_bne_false j0aaaaaaa; have j0aaaaaaop := eq_of_bne_false j0aaaaaao; have j0aaaaaon := notf j0aaaaao; have j0aaaaon := notf j0aaaao; have j0aaaon := notf j0aaao; have j0aaon := notf j0aao; have j0aon := notf j0ao; have j0on := notf j0o; exact (hrec ((el a v5).fKids) ((el b v5).fKids) (by first | assumption | omega | decide | (simp; done) | (simp; omega)) (by first | assumption | omega | decide | (simp; done) | (simp; omega)) (by first | assumption | omega | decide | (simp; done) | (simp; omega)))) (tn 1 z))) z))))))))))))))))))))))) (by kernel_rfl) (by kernel_rfl) (by kernel_rfl) ?_
      refine CS (fun h5 => ?_) (fun h5 => ?_)
      · refine GO (kb h5 (tn 1 z)) (by kernel_rfl) ?_
        refine OUT z (by kernel_rfl) ?_
        exact EN (by kernel_rfl)
      · obtain ⟨h5a, h5o⟩ := cond_tt h5
        obtain ⟨h5aa, h5ao⟩ := cond_tt h5a
        obtain ⟨h5aaa, h5aao⟩ := cond_tt h5aa
        obtain ⟨h5aaaa, h5aaao⟩ := cond_tt h5aaa
        obtain ⟨h5aaaaa, h5aaaao⟩ := cond_tt h5aaaa
        obtain ⟨h5aaaaaa, h5aaaaao⟩ := cond_tt h5aaaaa
        obtain ⟨h5aaaaaaa, h5aaaaaao⟩ := cond_tt h5aaaaaa
        obtain ⟨h5aaaaaaaa, h5aaaaaaao⟩ := cond_tt h5aaaaaaa
        have h5aaaaaaaap := eq_of_bne_false h5aaaaaaaa
        have h5aaaaaaaop := eq_of_bne_false h5aaaaaaao
        have h5aaaaaaon := notf h5aaaaaao
        have h5aaaaaon := notf h5aaaaao
        have h5aaaaon := notf h5aaaao
        have h5aaaon := notf h5aaao
        have h5aaon := notf h5aao
        have h5aon := notf h5ao
        have h5on := notf h5o
        refine GO (kb h5 (tn 1 (kn (wrE ((((v5 : Nat) : Int)) + 1) (((v5 + 1 : Nat) : Int)) (by omega)) (tn 1 z)))) (by kernel_rfl) ?_
        exact AG ⟨_, by omega, rfl, rfl⟩ (WK (by kernel_rfl)) (by kernel_rfl) (Nat.lt_succ_self _)
    · have := lenM_eq aBlock a
      refine GO (kb h2 z) (by kernel_rfl) ?_
      refine OUT (tn 1 z) (by kernel_rfl) ?_
      exact EN (by kernel_rfl)
def samBN : Nat → (List DBlock) → (List DBlock) → Bool
  | 0, _, _ => default
  | n + 1, a, b => samBS (samBN n) a b
theorem samBN_to : ∀ (n : Nat) (a : List DBlock) (b : List DBlock), wl wBlock a < n → wl wBlock a ≤ 1073741824 → wl wBlock b ≤ 1073741824 → CallTo Tryz.prog 23 [(jL (a.map aBlock)), (jL (b.map aBlock))] [] [] (jB (samBN n a b)) [] []
  | 0, a, b, h0, _, _ => absurd h0 (Nat.not_lt_zero _)
  | n + 1, a, b, h0, ha, hb => by
    exact samB_st (samBN n) a b ha hb (fun a' b' q1 ha' hb' => samBN_to n a' b' (by omega) ha' hb')
def samB (a : List DBlock) (b : List DBlock) : Bool := samBN (wl wBlock a + 1) a b
theorem samB_to (a : List DBlock) (b : List DBlock) (ha : wl wBlock a ≤ 1073741824) (hb : wl wBlock b ≤ 1073741824) : CallTo Tryz.prog 23 [(jL (a.map aBlock)), (jL (b.map aBlock))] [] [] (jB (samB a b)) [] [] := samBN_to _ a b (Nat.lt_succ_self _) ha hb
def macS_L0 (a : List DMacro) (b : List DMacro) : Nat → Nat → Bool
  | 0, _ => default
  | n0 + 1, v5 => cond (decide ((((v5 : Nat) : Int) : Int) < ((lenM aMacro a : Nat) : Int))) (cond ((!eqs ((el a v5).fName) ((el b v5).fName))) (false) (cond ((!samS ((el a v5).fArgs) ((el b v5).fArgs))) (false) (cond ((!samB ((el a v5).fBody) ((el b v5).fBody))) (false) (macS_L0 a b n0 (v5 + 1))))) (true)
def macS (a : List DMacro) (b : List DMacro) : Bool := cond (((((lenM aMacro a : Nat) : Int) : Int) != ((lenM aMacro b : Nat) : Int))) (false) (macS_L0 a b ((List.length a - (0)) + 1) 0)
set_option maxRecDepth 100000 in
set_option maxHeartbeats 4000000 in
theorem macS_to (a : List DMacro) (b : List DMacro) (ha : a.length ≤ 1073741824) (hb : b.length ≤ 1073741824) (qa : ∀ i, i < a.length → (el a i).fArgs.length ≤ 1073741824 ∧ wl wBlock (el a i).fBody ≤ 1073741824) (qb : ∀ i, i < b.length → (el b i).fArgs.length ≤ 1073741824 ∧ wl wBlock (el b i).fBody ≤ 1073741824) : CallTo Tryz.prog 9 [(jL (a.map aMacro)), (jL (b.map aMacro))] [] [] (jB (macS a b)) [] [] := by
  refine BEG (fun r : Bool => (jB (r))) (macS a b) Tryz.func9 (by kernel_rfl) ?_
  refine UF (macS.eq_1 ..) ?_
  refine GO (tn 6 z) (by kernel_rfl) ?_
  refine CSn (fun h1p h1 => ?_) (fun h1p h1 => ?_)
  · have := lenM_eq aMacro a
    have := lenM_eq aMacro b
    refine GO (kb h1 (tn 1 z)) (by kernel_rfl) ?_
    exact EN (by kernel_rfl)
  · have := lenM_eq aMacro a
    have := lenM_eq aMacro b
    refine GO (kb h1 (tn 1 z)) (by kernel_rfl) ?_
    refine LP (fun N M S => ∃ v5 : Nat, (List.length a - v5 < N) ∧ M = macS_L0 a b N v5 ∧ S = (sx 56 [(0, (jL (a.map aMacro))), (1, (jL (b.map aMacro))), (5, (jI (((v5 : Nat) : Int))))] [] [])) (by kernel_rfl) ⟨_, by omega, rfl, rfl⟩ (WK (by kernel_rfl)) ?_
    rintro n0 M S ⟨v5, hF0, rfl, rfl⟩
    obtain ⟨n0, rfl⟩ : ∃ k, n0 = k + 1 := ⟨n0 - 1, by omega⟩
    refine UF (macS_L0.eq_2 ..) ?_
    refine GO (tn 4 z) (by kernel_rfl) ?_
    refine CSd (fun h2p h2 => ?_) (fun h2p h2 => ?_)
    · have := lenM_eq aMacro a
      obtain ⟨hk1, hk2⟩ := qa v5 (by omega)
      obtain ⟨hk3, hk4⟩ := qb v5 (by omega)
      refine GO (kb h2 z) (by kernel_rfl) ?_
      refine CS (fun h3 => ?_) (fun h3 => ?_)
      · have h3n := nott h3
        have d4 := (el_aMacro a v5 (by first | omega | (simp only [lenM_eq, true_and]; omega)))
        have d5 := (el_aMacro b v5 (by first | omega | (simp only [lenM_eq, true_and]; omega)))
        refine DR3 (tn 2 (ko (eO d4) (kp d4 (tn 4 (ko (eO d5) (kp d5 (tn 4 (ko (.b true) (kp (show (!eqs ((el a v5).fName) ((el b v5).fName)) = true from h3) (ko (.b true) (kp (show (!eqs ((el a v5).fName) ((el b v5).fName)) = true from h3) (ko (.b true) (kp (show (!eqs ((el a v5).fName) ((el b v5).fName)) = true from h3) (ko (.b true) (kp (show (!eqs ((el a v5).fName) ((el b v5).fName)) = true from h3) (ko (.b true) (kp (show (!eqs ((el a v5).fName) ((el b v5).fName)) = true from h3) (ko (.b true) (kp (show (!eqs ((el a v5).fName) ((el b v5).fName)) = true from h3) (ko (.b true) (kp (show (!eqs ((el a v5).fName) ((el b v5).fName)) = true from h3) (ko (.b true) (kp (show (!eqs ((el a v5).fName) ((el b v5).fName)) = true from h3) (ko (.b true) (kp (show (!eqs ((el a v5).fName) ((el b v5).fName)) = true from h3) (ko (.b true) (kp (show (!eqs ((el a v5).fName) ((el b v5).fName)) = true from h3) (ko (.b true) (kp (show (!eqs ((el a v5).fName) ((el b v5).fName)) = true from h3) (ko (.b true) (kp (show (!eqs ((el a v5).fName) ((el b v5).fName)) = true from h3) (ko (.b true) (kp h3 (tn 1 (ko (.b true) (kp (show true = true from rfl) (ko (.b true) (kp (show true = true from rfl) (ko (.b true) (kp (show true = true from rfl) (ko (.b true) (kp (show true = true from rfl) (ko (.b true) (kp (show true = true from rfl) (ko (.b true) (kp (show true = true from rfl) (ko (.b true) (kp (show true = true from rfl) (ko (.b true) (kp (show true = true from rfl) (ko (.b true) (kp (show true = true from rfl) (ko (.b true) (kp (show true = true from rfl) (ko (.b true) (kp (show true = true from rfl) (ko (.b true) (kp (show true = true from rfl) (ko (.b true) (kp tt (kb tt (tn 1 z)))))))))))))))))))))))))))))))))))))))))))))))))))))))))))))) (by kernel_rfl) (by kernel_rfl) (by kernel_rfl) ?_
        refine OUT z (by kernel_rfl) ?_
        exact EN (by kernel_rfl)
      · have h3n := notf h3
        refine CS (fun h6 => ?_) (fun h6 => ?_)
        · have h6n := nott h6
          have d7 := (el_aMacro a v5 (by first | omega | (simp only [lenM_eq, true_and]; omega)))
          have d8 := (el_aMacro b v5 (by first | omega | (simp only [lenM_eq, true_and]; omega)))
          have d9 := (el_aMacro a v5 (by first | omega | (simp only [lenM_eq, true_and]; omega)))
          have d10 := (el_aMacro b v5 (by first | omega | (simp only [lenM_eq, true_and]; omega)))
          have d11 := (samS_to ((el a v5).fArgs) ((el b v5).fArgs) (by first | assumption | omega | decide | (simp; done) | (simp; omega)) (by first | assumption | omega | decide | (simp; done) | (simp; omega)))
          refine DR3 (tn 2 (ko (eO d7) (kp d7 (tn 4 (ko (eO d8) (kp d8 (tn 4 (ko (.b false) (kp (show (!eqs ((el a v5).fName) ((el b v5).fName)) = false from h3) (tn 1 (ko (.b false) (kp (show (!eqs ((el a v5).fName) ((el b v5).fName)) = false from h3) (tn 1 (ko (.b false) (kp (show (!eqs ((el a v5).fName) ((el b v5).fName)) = false from h3) (ko (eO d9) (kp d9 (ko (.b false) (kp (show (!eqs ((el a v5).fName) ((el b v5).fName)) = false from h3) (tn 1 (ko (.b false) (kp (show (!eqs ((el a v5).fName) ((el b v5).fName)) = false from h3) (tn 1 (ko (.b false) (kp (show (!eqs ((el a v5).fName) ((el b v5).fName)) = false from h3) (tn 1 (ko (.b false) (kp (show (!eqs ((el a v5).fName) ((el b v5).fName)) = false from h3) (tn 1 (ko (.b false) (kp (show (!eqs ((el a v5).fName) ((el b v5).fName)) = false from h3) (ko (eO d10) (kp d10 (ko (.b false) (kp (show (!eqs ((el a v5).fName) ((el b v5).fName)) = false from h3) (tn 1 (ko (.b false) (kp (show (!eqs ((el a v5).fName) ((el b v5).fName)) = false from h3) (tn 1 (ko (.b false) (kp (show (!eqs ((el a v5).fName) ((el b v5).fName)) = false from h3) (ko (cO d11) (kp d11 (tn 1 (ko (.b false) (kp (show (!eqs ((el a v5).fName) ((el b v5).fName)) = false from h3) (tn 1 (ko (.b false) (kp h3 (tn 1 (ko (.b true) (kp (show (!samS ((el a v5).fArgs) ((el b v5).fArgs)) = true from h6) (ko (.b true) (kp (show (!samS ((el a v5).fArgs) ((el b v5).fArgs)) = true from h6) (ko (.b true) (kp (show (!samS ((el a v5).fArgs) ((el b v5).fArgs)) = true from h6) (ko (.b true) (kp (show (!samS ((el a v5).fArgs) ((el b v5).fArgs)) = true from h6) (ko (.b true) (kp (show (!samS ((el a v5).fArgs) ((el b v5).fArgs)) = true from h6) (ko (.b true) (kp (show (!samS ((el a v5).fArgs) ((el b v5).fArgs)) = true from h6) (ko (.b true) (kp (show (!samS ((el a v5).fArgs) ((el b v5).fArgs)) = true from h6) (ko (.b true) (kp (show (!samS ((el a v5).fArgs) ((el b v5).fArgs)) = true from h6) (ko (.b true) (kp (show (!samS ((el a v5).fArgs) ((el b v5).fArgs)) = true from h6) (ko (.b true) (kp (show (!samS ((el a v5).fArgs) ((el b v5).fArgs)) = true from h6) (ko (.b true) (kp (show (!samS ((el a v5).fArgs) ((el b v5).fArgs)) = true from h6) (ko (.b true) (kp (show (!samS ((el a v5).fArgs) ((el b v5).fArgs)) = true from h6) (ko (.b true) (kp h6 (kb tt (tn 1 z)))))))))))))))))))))))))))))))))))))))))))))))))))))))))))))))))))))))))))))) (by kernel_rfl) (by kernel_rfl) (by kernel_rfl) ?_
          refine OUT z (by kernel_rfl) ?_
          exact EN (by kernel_rfl)
        · have h6n := notf h6
          have d12 := (el_aMacro a v5 (by first | omega | (simp only [lenM_eq, true_and]; omega)))
          have d13 := (el_aMacro b v5 (by first | omega | (simp only [lenM_eq, true_and]; omega)))
          have d14 := (el_aMacro a v5 (by first | omega | (simp only [lenM_eq, true_and]; omega)))
          have d15 := (el_aMacro b v5 (by first | omega | (simp only [lenM_eq, true_and]; omega)))
          have d16 := (samS_to ((el a v5).fArgs) ((el b v5).fArgs) (by first | assumption | omega | decide | (simp; done) | (simp; omega)) (by first | assumption | omega | decide | (simp; done) | (simp; omega)))
          have d17 := (el_aMacro a v5 (by first | omega | (simp only [lenM_eq, true_and]; omega)))
          have d18 := (el_aMacro b v5 (by first | omega | (simp only [lenM_eq, true_and]; omega)))
          have d19 := (samB_to ((el a v5).fBody) ((el b v5).fBody) (by first | assumption | omega | decide | (simp; done) | (simp; omega)) (by first | assumption | omega | decide | (simp; done) | (simp; omega)))
          refine DR3 (tn 2 (ko (eO d12) (kp d12 (tn 4 (ko (eO d13) (kp d13 (tn 4 (ko (.b false) (kp (show (!eqs ((el a v5).fName) ((el b v5).fName)) = false from h3) (tn 1 (ko (.b false) (kp (show (!eqs ((el a v5).fName) ((el b v5).fName)) = false from h3) (tn 1 (ko (.b false) (kp (show (!eqs ((el a v5).fName) ((el b v5).fName)) = false from h3) (ko (eO d14) (kp d14 (ko (.b false) (kp (show (!eqs ((el a v5).fName) ((el b v5).fName)) = false from h3) (tn 1 (ko (.b false) (kp (show (!eqs ((el a v5).fName) ((el b v5).fName)) = false from h3) (tn 1 (ko (.b false) (kp (show (!eqs ((el a v5).fName) ((el b v5).fName)) = false from h3) (tn 1 (ko (.b false) (kp (show (!eqs ((el a v5).fName) ((el b v5).fName)) = false from h3) (tn 1 (ko (.b false) (kp (show (!eqs ((el a v5).fName) ((el b v5).fName)) = false from h3) (ko (eO d15) (kp d15 (ko (.b false) (kp (show (!eqs ((el a v5).fName) ((el b v5).fName)) = false from h3) (tn 1 (ko (.b false) (kp (show (!eqs ((el a v5).fName) ((el b v5).fName)) = false from h3) (tn 1 (ko (.b false) (kp (show (!eqs ((el a v5).fName) ((el b v5).fName)) = false from h3) (ko (cO d16) (kp d16 (tn 1 (ko (.b false) (kp (show (!eqs ((el a v5).fName) ((el b v5).fName)) = false from h3) (tn 1 (ko (.b false) (kp h3 (tn 1 (ko (.b false) (kp (show (!samS ((el a v5).fArgs) ((el b v5).fArgs)) = false from h6) (tn 1 (ko (.b false) (kp (show (!samS ((el a v5).fArgs) ((el b v5).fArgs)) = false from h6) (tn 1 (ko (.b false) (kp (show (!samS ((el a v5).fArgs) ((el b v5).fArgs)) = false from h6) (ko (eO d17) (kp d17 (ko (.b false) (kp (show (!samS ((el a v5).fArgs) ((el b v5).fArgs)) = false from h6) (tn 1 (ko (.b false) (kp (show (!samS ((el a v5).fArgs) ((el b v5).fArgs)) = false from h6) (tn 1 (ko (.b false) (kp (show (!samS ((el a v5).fArgs) ((el b v5).fArgs)) = false from h6) (tn 1 (ko (.b false) (kp (show (!samS ((el a v5).fArgs) ((el b v5).fArgs)) = false from h6) (tn 1 (ko (.b false) (kp (show (!samS ((el a v5).fArgs) ((el b v5).fArgs)) = false from h6) (ko (eO d18) (kp d18 (ko (.b false) (kp (show (!samS ((el a v5).fArgs) ((el b v5).fArgs)) = false from h6) (tn 1 (ko (.b false) (kp (show (!samS ((el a v5).fArgs) ((el b v5).fArgs)) = false from h6) (tn 1 (ko (.b false) (kp (show (!samS ((el a v5).fArgs) ((el b v5).fArgs)) = false from h6) (ko (cO d19) (kp d19 (tn 1 (ko (.b false) (kp (show (!samS ((el a v5).fArgs) ((el b v5).fArgs)) = false from h6) (tn 1 (ko (.b false) (kp h6 z)))))))))))))))))))))))))))))))))))))))))))))))))))))))))))))))))))))))))))))))))))))))))))) (by kernel_rfl) (by kernel_rfl) (by kernel_rfl) ?_
          refine CS (fun h20 => ?_) (fun h20 => ?_)
          · have h20n := nott h20
            refine GO (kb h20 (tn 1 z)) (by kernel_rfl) ?_
            refine OUT z (by kernel_rfl) ?_
            exact EN (by kernel_rfl)
          · have h20n := notf h20
            refine GO (kb h20 (tn 1 (kn (wrE ((((v5 : Nat) : Int)) + 1) (((v5 + 1 : Nat) : Int)) (by omega)) (tn 1 z)))) (by kernel_rfl) ?_
            exact AG ⟨_, by omega, rfl, rfl⟩ (WK (by kernel_rfl)) (by kernel_rfl) (Nat.lt_succ_self _)
    · have := lenM_eq aMacro a
      refine GO (kb h2 z) (by kernel_rfl) ?_
      refine OUT (tn 1 z) (by kernel_rfl) ?_
      exact EN (by kernel_rfl)
end Go.Proofs.YtcdfhagcchmnhaaGreatDoor
