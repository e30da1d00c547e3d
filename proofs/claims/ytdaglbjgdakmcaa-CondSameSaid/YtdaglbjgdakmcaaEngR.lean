/- States told by the slots that are still read. -/
import Derived.Test.YtdaglbjgdakmcaaEngQ
set_option linter.unusedSimpArgs false
set_option linter.unusedVariables false
namespace Go.Eng

def frOf (n : Nat) (l : List (Nat × SV)) : List SV := (List.range n).map (fun i => (l.lookup i).getD .junk)
def sx (n : Nat) (l : List (Nat × SV)) (bx : List (Nat × ABox)) (gn : List (Key × Nat)) : St := ⟨frOf n l, bx, gn⟩
abbrev Seen := Nat × List (Option SV) × List (Nat × ABox) × List (Key × Nat)
def sees (S : St) (ks : List Nat) : Seen := (S.fr.length, ks.map (fun k => S.fr[k]?), S.bx, S.gn)
def seen (r : Option (List Prop × List Or × Exit × St)) (ks : List Nat) : Option (List Prop × List Or × Exit × Seen) :=
  match r with
  | some (cs, o, e, S) => some (cs, o, e, sees S ks)
  | none => none
def keysOf (l : List (Nat × SV)) : List Nat := l.map (·.1)
def valsOf (l : List (Nat × SV)) : List (Option SV) := l.map (fun p => some p.2)

theorem lookup_mem2 {α : Type} {l : List (Nat × α)} {b : Nat} {x : α} (h : l.lookup b = some x) : (b, x) ∈ l := by
  induction l with
  | nil => simp at h
  | cons p l ih =>
    obtain ⟨k, y⟩ := p
    simp only [List.lookup_cons] at h
    split at h
    · rename_i hk; simp at hk h; subst hk h; simp
    · simp [ih h]

theorem frOf_get {n : Nat} {l : List (Nat × SV)} {t : Nat} {s : SV} (h : (frOf n l)[t]? = some s) : t < n ∧ s = (l.lookup t).getD .junk := by
  simp only [frOf, List.getElem?_map, Option.map_eq_some_iff] at h
  obtain ⟨i, h1, rfl⟩ := h
  have hlt : t < n := by
    rcases Nat.lt_or_ge t (List.range n).length with h | h
    · simpa using h
    · simp [List.getElem?_eq_none h] at h1
  simp [List.getElem?_range hlt] at h1
  subst h1; exact ⟨hlt, rfl⟩

theorem frOf_length (n : Nat) (l : List (Nat × SV)) : (frOf n l).length = n := by simp [frOf]

theorem vals_get {f : List SV} : ∀ {l : List (Nat × SV)}, (keysOf l).map (fun k => f[k]?) = valsOf l → ∀ p ∈ l, f[p.1]? = some p.2
  | [], _, p, hp => by simp at hp
  | q :: l, h, p, hp => by
    simp only [keysOf, valsOf, List.map_cons, List.cons.injEq] at h
    simp only [List.mem_cons] at hp
    rcases hp with rfl | hp
    · exact h.1
    · exact vals_get (l := l) h.2 p hp

theorem weak_sees {S : St} {n : Nat} {l : List (Nat × SV)} {bx : List (Nat × ABox)} {gn : List (Key × Nat)} (h : sees S (keysOf l) = (n, valsOf l, bx, gn)) : Weak S (sx n l bx gn) := by
  simp only [sees, Prod.mk.injEq] at h
  obtain ⟨h1, h2, h3, h4⟩ := h
  intro G w a hr
  refine ⟨hr.wf, ?_, fun t s ht => ?_, ?_, ?_, hr.defers⟩
  · simp only [sx, frOf_length]; rw [← h1]; exact hr.size
  · obtain ⟨_, rfl⟩ := frOf_get ht
    cases hl : l.lookup t with
    | none => trivial
    | some v => exact hr.fr t v (vals_get h2 _ (lookup_mem2 hl))
  · simp only [sx]; rw [← h3]; exact hr.bx
  · intro k; rw [hr.gn k]; simp only [sx, St.gen, h4]

theorem W_end {P : Program} {c : Code} {Q : Exit → St → Prop} {S : St} (h : W P c (fun e S1 => ∃ S2, Weak S1 S2 ∧ Q e S2) S) : W P c Q S := by
  intro G w a hr
  refine Code.wp_mono (fun e a' w' hl => ?_) (h G w a hr)
  obtain ⟨S1, G1, ⟨S2, hg, hq⟩, h2, h3, h4⟩ := hl
  exact ⟨S2, G1, hq, h2, hg G1 w' a' h3, h4⟩

theorem W_run {P : Program} {c : Code} {ors : List Or} {S : St} {cs : List Prop} {e : Exit} {Q : Exit → St → Prop} (n : Nat) (l : List (Nat × SV)) (bx : List (Nat × ABox)) (gn : List (Key × Nat))
    (h : seen (run P c ors S) (keysOf l) = some (cs, [], e, n, valsOf l, bx, gn)) (hc : All cs) (hq : Q e (sx n l bx gn)) : W P c Q S := by
  unfold seen at h
  split at h
  · rename_i cs' o e' S1 hr
    simp only [Option.some.injEq, Prod.mk.injEq] at h
    obtain ⟨rfl, rfl, rfl, h4⟩ := h
    refine W_end (W_of_run hr hc ⟨_, weak_sees (n := n) (l := l) (bx := bx) (gn := gn) h4, hq⟩)
  · simp at h

theorem W_drewX {P : Program} {id : Nat} {ops : Array Oper} {Q : Exit → St → Prop} {S : St} (st : List DS) {cs : List Prop} (n : Nat) (l : List (Nat × SV)) (bx : List (Nat × ABox)) (gn : List (Key × Nat)) (hm : P.follows .mixedOrders = true) (hst : st.length = ops.toList.length)
    (hs : dStatic ops.toList st (masks ops.toList []) = true) (hd : dAll P ops.toList st (masks ops.toList []) S.fr (S.bx, S.gn) ops.toList.length = some cs)
    (hS : sees ⟨frD ops.toList st S.fr (fun _ => true) ops.toList.length, (bxD st (S.bx, S.gn) (fun _ => true) ops.toList.length).1, (bxD st (S.bx, S.gn) (fun _ => true) ops.toList.length).2⟩ (keysOf l) = (n, valsOf l, bx, gn)) (hc : All cs)
    (hq : Q .normal (sx n l bx gn)) : W P (.region id ops true) Q S :=
  W_end (W_draw st hm hst hs hd hc ⟨_, weak_sees hS, hq⟩)

theorem W_eq {P : Program} {c : Code} {Q : Exit → St → Prop} {S : St} (S' : St) (h : S = S') (hw : W P c Q S') : W P c Q S := by subst h; exact hw

def WkX (S : St) (l : List (Nat × SV)) : List (Nat × SV) → Prop
  | [] => True
  | (i, v) :: r => WkS S ((l.lookup i).getD .junk) v ∧ WkX S l r

theorem WkX_get {S : St} {l : List (Nat × SV)} : ∀ {r : List (Nat × SV)}, WkX S l r → ∀ p ∈ r, WkS S ((l.lookup p.1).getD .junk) p.2
  | [], _, p, hp => by simp at hp
  | (i, v) :: r, h, p, hp => by
    simp only [List.mem_cons] at hp
    rcases hp with rfl | hp
    · exact h.1
    · exact WkX_get h.2 p hp

theorem frOf_at {n : Nat} {l : List (Nat × SV)} {t : Nat} (h : t < n) : (frOf n l)[t]? = some ((l.lookup t).getD .junk) := by
  simp [frOf, List.getElem?_map, List.getElem?_range h]

theorem weak_sx {n : Nat} {l l' : List (Nat × SV)} {bx bx' : List (Nat × ABox)} {gn gn' : List (Key × Nat)} (h1 : WkX (sx n l bx gn) l l') (h2 : WkBx (sx n l bx gn) bx') (h3 : WkG gn gn' (gn.map (·.1) ++ gn'.map (·.1))) :
    Weak (sx n l bx gn) (sx n l' bx' gn') := by
  have hw : Weak (sx n l bx gn) ⟨(sx n l bx gn).fr, bx', gn'⟩ := by
    refine weak_of ?_ h2 h3
    have hl : ∀ f : List SV, WkL (sx n l bx gn) f f := by
      intro f
      induction f with
      | nil => trivial
      | cons s f ih =>
        refine ⟨?_, ih⟩
        cases s <;> simp [WkS]
    exact hl _
  intro G w a hr
  have hr2 := hw G w a hr
  refine ⟨hr2.wf, by simp only [sx, frOf_length]; have := hr.size; simp only [sx, frOf_length] at this; exact this, fun t s ht => ?_, hr2.bx, hr2.gn, hr2.defers⟩
  obtain ⟨hlt, rfl⟩ := frOf_get ht
  cases hl : l'.lookup t with
  | none => trivial
  | some v =>
    have := WkX_get h1 _ (lookup_mem2 hl)
    exact WkS_rep hr.gn this (hr.fr t _ (frOf_at hlt))

end Go.Eng
