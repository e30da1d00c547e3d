/- A region that draws its order: the rule. -/
import Derived.Test.YtdaglbjgdakmcaaEngO
set_option linter.unusedSimpArgs false
set_option linter.unusedVariables false
namespace Go.Eng

section
variable {P : Program} {ops : List Oper} {st : List DS} {M : List Nat} {f0 : List SV} {b0 : BG}

theorem frD_congr {L L' : Nat → Bool} : ∀ m, (∀ k, k < m → L k = L' k) → frD ops st f0 L m = frD ops st f0 L' m
  | 0, _ => rfl
  | m + 1, h => by simp only [frD]; rw [h m (by omega), frD_congr m (fun k hk => h k (by omega))]

theorem bxD_congr {L L' : Nat → Bool} : ∀ m, (∀ k, k < m → L k = L' k) → bxD st b0 L m = bxD st b0 L' m
  | 0, _ => rfl
  | m + 1, h => by simp only [bxD]; rw [h m (by omega), bxD_congr m (fun k hk => h k (by omega))]

theorem dRuns_get {o : Oper} {s : DS} {f : List SV} : ∀ {l : List (Option Nat)} {cs : List Prop}, dRuns P o s f st b0 l = some cs → All cs → ∀ c ∈ l, ∃ cs', runV P o s.ors ⟨f, (boxOf st b0 c).1, (boxOf st b0 c).2⟩ = some (cs', s.v, (s.out.getD (boxOf st b0 c)).1, (s.out.getD (boxOf st b0 c)).2) ∧ All cs'
  | [], _, _, _, c, hc => by simp at hc
  | d :: l, cs, h, ha, c, hc => by
    simp only [dRuns] at h
    split at h
    · rename_i cs1 v bx gn r h1 h2
      simp only [Option.some.injEq] at h; subst h
      obtain ⟨ha1, ⟨hv, hb⟩, ha2⟩ := All_append ha
      rcases List.mem_cons.1 hc with rfl | hc
      · subst hv; rw [← hb]; exact ⟨cs1, h1, ha1⟩
      · exact dRuns_get h2 ha2 c hc
    · simp at h

structure Good (ops : List Oper) (st : List DS) (M : List Nat) (L : Nat → Bool) (i : Nat) (o : Oper) : Prop where
  un : L i = false
  slot : ∀ t ∈ looks ops o, ∀ k, dstOf ops k = some t → (k < i → L k = true) ∧ (i < k → L k = false)
  eff : ∀ k, (outOf st i).isSome = true → (outOf st k).isSome = true → (k < i → L k = true) ∧ (i < k → L k = false)
  down : ∀ k, (M.getD i 0).testBit k = true → k ≠ i → L k = true
  up : ∀ k, L k = true → (M.getD k 0).testBit i = false

theorem good_of {L : Nat → Bool} {i : Nat} {o : Oper} (hM : M = masks ops []) (hs : dStatic ops st M = true) (hst : st.length ≤ ops.length) (hlt : ∀ k, L k = true → k < ops.length) (hi : ops[i]? = some o) (hun : L i = false)
    (hcl : ∀ k ok, ops[k]? = some ok → L k = true → ∀ e ∈ ok.after, Region.binds .any e = true → L e.on = true) (hr : ∀ e ∈ o.after, Region.binds .any e = true → L e.on = true) : Good ops st M L i o := by
  have hil : i < ops.length := by
    rcases Nat.lt_or_ge i ops.length with h | h
    · exact h
    · simp [List.getElem?_eq_none h] at hi
  have down : ∀ k, (M.getD i 0).testBit k = true → k ≠ i → L k = true := by
    intro k hk hne
    have := masks_closed (also L i) ops [] (fun j oj hj hL e he hb => by
      simp only [List.length_nil, Nat.zero_add, also] at hL ⊢
      split at hL
      · rename_i hji; subst hji
        rw [hi] at hj; simp only [Option.some.injEq] at hj; subst hj
        split
        · rfl
        · exact hr e he hb
      · split
        · rfl
        · exact hcl j oj hj hL e he hb) (fun k hk => by simp at hk) i (by simp [also]) k (by rw [← hM]; exact hk)
    simpa [also, hne] using this
  have up : ∀ k, L k = true → (M.getD k 0).testBit i = false := by
    intro k hk
    cases hb : (M.getD k 0).testBit i with
    | false => rfl
    | true =>
      have := masks_closed L ops [] (fun j oj hj hL e he hb => hcl j oj hj (by simpa using hL) e he hb) (fun k hk => by simp at hk) k hk i (by rw [← hM]; exact hb)
      rw [hun] at this; simp at this
  have ord : ∀ k, ordered M i k = true → (k < i → L k = true) ∧ (i < k → L k = false) := by
    intro k ho
    simp only [ordered, Bool.or_eq_true, Bool.and_eq_true, decide_eq_true_eq] at ho
    rcases ho with ⟨h1, h2⟩ | ⟨h1, h2⟩
    · exact ⟨fun _ => down k h2 (by omega), fun h => by omega⟩
    · refine ⟨fun h => by omega, fun _ => ?_⟩
      cases hL : L k with
      | false => rfl
      | true => rw [up k hL] at h2; simp at h2
  have stat : ∀ k, k < ops.length → k ≠ i → ordered M i k = true ∨ ((∀ t, dstOf ops k = some t → t ∉ looks ops o) ∧ ¬ ((outOf st i).isSome = true ∧ (outOf st k).isSome = true)) := by
    intro k hk hne
    simp only [dStatic, List.all_eq_true, List.mem_range] at hs
    have h1 := hs i hil
    simp only [hi, Bool.and_eq_true] at h1
    have h2 := h1.2
    simp only [List.all_eq_true, List.mem_range] at h2
    have h3 := h2 k hk
    simp only [Bool.or_eq_true, beq_iff_eq, Bool.and_eq_true] at h3
    rcases h3 with (h3 | h3) | ⟨h3, h4⟩
    · exact absurd h3.symm hne
    · exact .inl h3
    · refine .inr ⟨fun t ht hmem => ?_, fun ⟨q1, q2⟩ => ?_⟩
      · rw [ht] at h3
        simp only [Bool.not_eq_true', List.contains_eq_mem] at h3
        simp [hmem] at h3
      · simp [q1, q2] at h4
  refine ⟨hun, fun t ht k hk => ?_, fun k h1 h2 => ?_, down, up⟩
  · have hkl : k < ops.length := by
      rcases Nat.lt_or_ge k ops.length with h | h
      · exact h
      · simp [dstOf, List.getElem?_eq_none h] at hk
    by_cases hne : k = i
    · subst hne; exact ⟨fun h => by omega, fun h => by omega⟩
    · rcases stat k hkl hne with h | ⟨h, _⟩
      · exact ord k h
      · exact absurd ht (h t hk)
  · have hkl : k < ops.length := by
      rcases Nat.lt_or_ge k ops.length with h | h
      · exact h
      · simp [outOf, List.getElem?_eq_none (Nat.le_trans hst h)] at h2
    by_cases hne : k = i
    · subst hne; exact ⟨fun h => by omega, fun h => by omega⟩
    · rcases stat k hkl hne with h | ⟨_, h⟩
      · exact ord k h
      · exact absurd ⟨h1, h2⟩ h

theorem cand_mem {L : Nat → Bool} {i : Nat} {o : Oper} (hg : Good ops st M L i o) (hil : i < ops.length) : ∃ c ∈ cands st M ops.length i, bxD st b0 L ops.length = boxOf st b0 c := by
  cases ho : (outOf st i).isSome with
  | true =>
    refine ⟨lastEff st i, by simp [cands, ho], ?_⟩
    rw [bx_upto hg.un (fun k hk hs => (hg.eff k ho hs).2 hk) ops.length (by omega)]
    exact lastEff_spec i (fun k hk hs => (hg.eff k ho hs).1 hk)
  | false =>
    simp only [cands, ho, Bool.false_eq_true, if_false]
    have hsome : ∀ k, (outOf st k).isSome = true → k ≠ i := by intro k hk e; subst e; rw [ho] at hk; simp at hk
    rcases bx_last (st := st) (b0 := b0) (L := L) ops.length with ⟨h1, h2⟩ | ⟨e, h1, h2, h3, h4, h5⟩
    · refine ⟨none, List.mem_append_left _ ?_, h1⟩
      rw [if_neg]
      · simp
      · intro hany
        simp only [List.any_eq_true, List.mem_range, Bool.and_eq_true] at hany
        obtain ⟨k, hk, hk1, hk2⟩ := hany
        have := hg.down k hk2 (hsome k hk1)
        rw [h2 k hk hk1] at this; simp at this
    · refine ⟨some e, List.mem_append_right _ (List.mem_map.2 ⟨e, List.mem_filter.2 ⟨List.mem_range.2 h1, ?_⟩, rfl⟩), h4⟩
      simp only [Bool.and_eq_true, h3, true_and, Bool.not_eq_true']
      refine ⟨hg.up e h2, ?_⟩
      rw [Bool.eq_false_iff]
      intro hany
      simp only [List.any_eq_true, List.mem_range, Bool.and_eq_true, decide_eq_true_eq] at hany
      obtain ⟨k, hk, ⟨hk0, hk1⟩, hk2⟩ := hany
      have := hg.down k hk2 (hsome k hk1)
      rw [h5 k hk0 hk hk1] at this; simp at this

theorem also_state {L : Nat → Bool} {i : Nat} {o : Oper} {s : DS} (hg : Good ops st M L i o) (hi : ops[i]? = some o) (hil : i < ops.length) (hs : st[i]? = some s) :
    ({ fr := frD ops st f0 (also L i) ops.length, bx := (bxD st b0 (also L i) ops.length).1, gn := (bxD st b0 (also L i) ops.length).2 } : St)
      = ((⟨frD ops st f0 L ops.length, (s.out.getD (bxD st b0 L ops.length)).1, (s.out.getD (bxD st b0 L ops.length)).2⟩ : St).put o.dst s.v) := by
  have hout : outOf st i = s.out := by simp [outOf, hs]
  have hd : dstOf ops i = o.dst := by simp [dstOf, hi]
  have hv : valOf st i = s.v := by simp [valOf, hs]
  have e1 : bxD st b0 (also L i) ops.length = s.out.getD (bxD st b0 L ops.length) := by
    cases ho : s.out with
    | none => rw [bx_also_pure (by rw [hout, ho])]; rfl
    | some b => rw [bx_also_eff (b := b) (by rw [hout, ho]) (fun k hk hks => (hg.eff k (by rw [hout, ho]; rfl) hks).2 hk) _ hil]; rfl
  have e2 : frD ops st f0 (also L i) ops.length = putF (frD ops st f0 L ops.length) o.dst s.v := by
    rw [fr_also hg.un (fun k hk hL t ht hkt => ?_) _ hil, hd, hv]
    have := (hg.slot t (by rw [hd] at ht; simp [looks, ht]) k hkt).2 hk
    rw [this] at hL; simp at hL
  rw [e1, e2]
  cases hd : o.dst <;> rfl

theorem slot_same {L : Nat → Bool} {i : Nat} {o : Oper} (hg : Good ops st M L i o) (hil : i < ops.length) {t : Nat} (ht : t ∈ looks ops o) : (frD ops st f0 L ops.length)[t]? = (frD ops st f0 (fun _ => true) i)[t]? := by
  rw [slot_agrees hg.un (hg.slot t ht) ops.length, show min ops.length i = i by omega]

end

theorem Rel.draw {G : Gh} {w : World} {S : St} {a : Act} (h : Rel G w S a) : Step G w G { w with drawn := w.drawn + 1 } ∧ Rel G { w with drawn := w.drawn + 1 } S a := by
  have hs : Step G w G { w with drawn := w.drawn + 1 } := ⟨⟨fun _ => Nat.le_refl _, ⟨fun _ _ _ => rfl, fun _ _ _ _ h => h⟩, Nat.le_refl _, rfl, rfl, rfl, fun _ => Nat.le_refl _, fun _ _ _ => ⟨rfl, fun _ _ => ⟨rfl, rfl⟩⟩⟩, fun _ _ _ => ⟨rfl, rfl⟩, fun κ _ h => .inl ⟨κ, h⟩⟩
  exact ⟨hs, h.keep hs.toExt ⟨h.wf.inj, h.wf.lt, h.wf.zero⟩ (fun _ _ => ⟨rfl, fun _ _ => ⟨rfl, rfl⟩⟩) rfl⟩

theorem least_false {n : Nat} {L : Nat → Bool} (h : ¬ ∀ i, i < n → L i = true) : ∃ i, i < n ∧ L i = false ∧ ∀ k, k < i → L k = true := by
  induction n with
  | zero => exact absurd (fun i hi => by omega) h
  | succ n ih =>
    by_cases hn : ∀ i, i < n → L i = true
    · refine ⟨n, by omega, ?_, hn⟩
      cases hL : L n with
      | false => rfl
      | true =>
        exact absurd (fun i hi => by
          rcases Nat.lt_or_ge i n with h1 | h1
          · exact hn i h1
          · have : i = n := by omega
            subst this; exact hL) h
    · obtain ⟨i, h1, h2, h3⟩ := ih hn
      exact ⟨i, by omega, h2, h3⟩

def left (L : Nat → Bool) : Nat → Nat
  | 0 => 0
  | m + 1 => left L m + if L m then 0 else 1

theorem left_zero {L : Nat → Bool} : ∀ {m}, left L m = 0 → ∀ i, i < m → L i = true
  | 0, _, i, hi => by omega
  | m + 1, h, i, hi => by
    simp only [left] at h
    rcases Nat.lt_or_ge i m with h1 | h1
    · exact left_zero (by omega) i h1
    · have : i = m := by omega
      subst this
      cases hL : L i with
      | true => rfl
      | false => rw [hL] at h; simp at h

theorem left_also {L : Nat → Bool} {i : Nat} (hL : L i = false) : ∀ {m}, i < m → left (also L i) m + 1 = left L m
  | 0, hi => by omega
  | m + 1, hi => by
    simp only [left]
    rcases Nat.lt_or_ge i m with h1 | h1
    · have := left_also hL h1
      rw [show also L i m = L m by simp only [also, if_neg (show ¬ m = i by omega)]]
      omega
    · have : i = m := by omega
      subst this
      have hb : ∀ m, m ≤ i → left (also L i) m = left L m := by
        intro m
        induction m with
        | zero => intro _; rfl
        | succ m ih =>
          intro hm
          simp only [left]
          rw [ih (by omega), show also L i m = L m by simp only [also, if_neg (show ¬ m = i by omega)]]
      rw [hb i (Nat.le_refl _), hL]
      simp [also]

theorem W_draw {P : Program} {id : Nat} {ops : Array Oper} {Q : Exit → St → Prop} {S : St} (st : List DS) {cs : List Prop} (hm : P.follows .mixedOrders = true) (hst : st.length = ops.toList.length)
    (hs : dStatic ops.toList st (masks ops.toList []) = true) (hd : dAll P ops.toList st (masks ops.toList []) S.fr (S.bx, S.gn) ops.toList.length = some cs) (hc : All cs)
    (hq : Q .normal ⟨frD ops.toList st S.fr (fun _ => true) ops.toList.length, (bxD st (S.bx, S.gn) (fun _ => true) ops.toList.length).1, (bxD st (S.bx, S.gn) (fun _ => true) ops.toList.length).2⟩) : W P (.region id ops true) Q S := by
  intro G0 w0 a0 hr0
  obtain ⟨hstep0, hr0'⟩ := hr0.draw
  apply wp_region_any hm
  generalize hol : ops.toList = opl at *
  have hn : ops.size = opl.length := by rw [← hol]; simp
  have hget : ∀ i : Nat, ops[i]? = opl[i]? := by intro i; rw [← hol]; simp
  have main : ∀ (fuel : Nat) (listed : Array Bool) (G : Gh) (w : World) (a : Act), listed.size = ops.size → left (fun k => listed.getD k false) opl.length ≤ fuel →
      (∀ (k : Nat) ok, opl[k]? = some ok → listed.getD k false = true → ∀ e ∈ ok.after, Region.binds .any e = true → listed.getD e.on false = true) →
      Rel G w ⟨frD opl st S.fr (fun k => listed.getD k false) opl.length, (bxD st (S.bx, S.gn) (fun k => listed.getD k false) opl.length).1, (bxD st (S.bx, S.gn) (fun k => listed.getD k false) opl.length).2⟩ a →
      Step G0 w0 G w → (∀ i, 1000 ≤ i → G.ow (i, 0) = G0.ow (i, 0)) → wpAny P .any ops (lift Q G0 w0) fuel listed a w := by
    intro fuel
    have done : ∀ (listed : Array Bool) (G : Gh) (w : World) (a : Act), (∀ i, i < opl.length → listed.getD i false = true) → Rel G w ⟨frD opl st S.fr (fun k => listed.getD k false) opl.length, (bxD st (S.bx, S.gn) (fun k => listed.getD k false) opl.length).1, (bxD st (S.bx, S.gn) (fun k => listed.getD k false) opl.length).2⟩ a →
        Step G0 w0 G w → (∀ i, 1000 ≤ i → G.ow (i, 0) = G0.ow (i, 0)) → lift Q G0 w0 .normal a w := by
      intro listed G w a hall hr hst' how
      rw [frD_congr (L' := fun _ => true) _ hall, bxD_congr (L' := fun _ => true) _ hall] at hr
      exact ⟨_, G, hq, hst', hr, how⟩
    induction fuel with
    | zero =>
      intro listed G w a hsz hle hcl hr hst' how
      have hall := left_zero (Nat.le_zero.1 hle)
      refine ⟨?_, done listed G w a hall hr hst' how⟩
      rw [List.eq_nil_iff_forall_not_mem]
      intro j hj
      obtain ⟨h1, o, h2, _⟩ := mem_ready.1 hj
      have hjl : j < ops.size := (Array.getElem?_eq_some_iff.1 h2).1
      have h3 := hall j (by omega)
      simp only [Array.getD_eq_getD_getElem?] at h1 h3
      rw [Array.getElem?_eq_getElem (by omega : j < listed.size)] at h1 h3
      simp only [Option.getD_some] at h1 h3
      rw [h1] at h3; simp at h3
    | succ fuel ih =>
      intro listed G w a hsz hle hcl hr hst' how
      have same : ∀ j, j < opl.length → listed.getD j true = listed.getD j false := by
        intro j hj
        simp only [Array.getD_eq_getD_getElem?]
        rw [Array.getElem?_eq_getElem (by omega : j < listed.size)]; rfl
      refine ⟨fun hnil => ?_, fun i hi => ?_⟩
      · apply done listed G w a _ hr hst' how
        apply Classical.byContradiction
        intro hno
        obtain ⟨i, h1, h2, h3⟩ := least_false hno
        have : i ∈ Region.ready .any ops listed := by
          rw [mem_ready]
          refine ⟨by rw [same i h1]; exact h2, opl[i], by rw [hget i]; simp [h1], fun e he hb => h3 e.on ?_⟩
          simp only [dStatic, List.all_eq_true, List.mem_range] at hs
          have q := hs i h1
          simp only [List.getElem?_eq_getElem h1, Bool.and_eq_true] at q
          have q1 := q.1
          simp only [List.all_eq_true] at q1
          have := q1 e (by simpa using he)
          simpa [hb] using this
        rw [hnil] at this; simp at this
      · obtain ⟨h1, o, h2, h3⟩ := mem_ready.1 hi
        rw [hget i] at h2
        have hil : i < opl.length := by
          rcases Nat.lt_or_ge i opl.length with h | h
          · exact h
          · simp [List.getElem?_eq_none h] at h2
        rw [same i hil] at h1
        obtain ⟨s, hsi⟩ : ∃ s, st[i]? = some s := ⟨st[i]'(by omega), by simp⟩
        have hg : Good opl st (masks opl []) (fun k => listed.getD k false) i o := by
          refine good_of rfl hs (by omega) (fun k hk => ?_) h2 h1 hcl h3
          rcases Nat.lt_or_ge k opl.length with h | h
          · exact h
          · simp [Array.getElem?_eq_none (show listed.size ≤ k by omega)] at hk
        have hset : (fun k => (listed.setIfInBounds i true).getD k false) = also (fun k => listed.getD k false) i := by
          funext k
          simp only [also]
          split
          · rename_i hk; subst hk; simp [Array.getD_eq_getD_getElem?, show k < listed.size by omega]
          · rename_i hk; rw [getD_set_ne false (Ne.symm hk)]
        have next : ∀ (G' : Gh) (w' : World) (a' : Act), Step G w G' w' → (∀ i, 1000 ≤ i → G'.ow (i, 0) = G.ow (i, 0)) →
            Rel G' w' ((⟨frD opl st S.fr (fun k => listed.getD k false) opl.length, (s.out.getD (bxD st (S.bx, S.gn) (fun k => listed.getD k false) opl.length)).1, (s.out.getD (bxD st (S.bx, S.gn) (fun k => listed.getD k false) opl.length)).2⟩ : St).put o.dst s.v) a' →
            wpAny P .any ops (lift Q G0 w0) fuel (listed.setIfInBounds i true) a' w' := by
          intro G' w' a' k1 k2 k3
          rw [← also_state hg h2 hil hsi] at k3
          refine ih (listed.setIfInBounds i true) G' w' a' (by simp [hsz]) ?_ ?_ ?_ (hst'.trans k1) (fun j hj => (k2 j hj).trans (how j hj))
          · rw [hset]; have := left_also (L := fun k => listed.getD k false) h1 hil; omega
          · intro k ok hk hL e he hb
            by_cases hki : k = i
            · subst hki; rw [h2] at hk; simp only [Option.some.injEq] at hk; subst hk; exact getD_set_true (h3 e he hb)
            · rw [getD_set_ne false (Ne.symm hki)] at hL; exact getD_set_true (hcl k ok hk hL e he hb)
          · rw [hset]; exact k3
        obtain ⟨c, hdo, hca⟩ := dAll_get hd hc i hil
        simp only [dOp, h2, hsi] at hdo
        have runs : ∀ {cr : List Prop}, dRuns P o s (frD opl st S.fr (fun _ => true) i) st (S.bx, S.gn) (cands st (masks opl []) opl.length i) = some cr → All cr → o.wp P a w (wpAny P .any ops (lift Q G0 w0) fuel (listed.setIfInBounds i true)) (lift Q G0 w0) := by
          intro cr hdr hcr
          obtain ⟨cd, hcd, hbx⟩ := cand_mem (b0 := (S.bx, S.gn)) hg hil
          obtain ⟨cs', q1, q2⟩ := dRuns_get hdr hcr cd hcd
          rw [← hbx] at q1
          have q3 := runV_local (fr' := frD opl st S.fr (fun k => listed.getD k false) opl.length) (fun x hx => by
            cases x with
            | tmp t =>
              have : t ∈ looks opl o := by
                simp only [looks, List.mem_append, List.mem_filterMap]
                exact .inl (.inl ⟨.tmp t, by simpa using hx, rfl⟩)
              simp only [St.ev, List.getD_eq_getElem?_getD]
              rw [slot_same hg hil this]
            | _ => rfl) q1
          exact runV_sound q3 q2 hr (fun G' a' w' k1 k2 k3 => next G' w' a' k1 k3 k2)
        unfold wpOp
        rw [hget i, h2]
        simp only
        cases hgd : o.guard with
        | none =>
          rw [if_pos (by simp [Region.wanted, hgd])]
          simp only [hgd] at hdo
          exact .inl (runs hdo hca)
        | some gw =>
          obtain ⟨j, want⟩ := gw
          simp only [hgd] at hdo
          have slot : ∀ sv, ((dstOf opl j).bind fun t => (frD opl st S.fr (fun _ => true) i)[t]?) = some sv → ∃ t u, (ops[j]?).bind (·.dst) = some t ∧ a.tmps[t]? = some u ∧ RepS G w sv u := by
            intro sv hsv
            cases hdj : dstOf opl j with
            | none => simp [hdj] at hsv
            | some t =>
              simp only [hdj, Option.bind_some] at hsv
              rw [← slot_same hg hil (by simp [looks, hgd, hdj])] at hsv
              have hrf := hr.fr t sv hsv
              have hlt : t < a.tmps.size := by
                rw [← hr.size]
                rcases Nat.lt_or_ge t (frD opl st S.fr (fun k => listed.getD k false) opl.length).length with h' | h'
                · exact h'
                · simp only [List.getElem?_eq_none h'] at hsv; simp at hsv
              refine ⟨t, a.tmps[t], ?_, by simp [hlt], ?_⟩
              · rw [hget j]; exact hdj
              · simpa [Array.getD_eq_getD_getElem?, hlt] using hrf
          have undefR : RepS G w undefS undef := by
            simp only [undefS, RepS, Rep]; exact ⟨#[], rfl, by simp [RepL]⟩
          have skip : Region.wanted o (yielded ops a.tmps) = false → s.v = undefS → s.out = none → (if Region.wanted o (yielded ops a.tmps) = true then o.wp P a w (wpAny P .any ops (lift Q G0 w0) fuel (listed.setIfInBounds i true)) (lift Q G0 w0) ∨ o.asks P a w ∧ LetsOut (lift Q G0 w0) else wpAny P .any ops (lift Q G0 w0) fuel (listed.setIfInBounds i true) (a.put o.dst undef) w) := by
            intro hw hv ho
            rw [hw]; simp only [Bool.false_eq_true, if_false]
            refine next G w _ (Step.refl G w) (fun _ _ => rfl) ?_
            rw [hv, ho]
            exact hr.put o.dst undefR
          cases hgo : guardOk ((dstOf opl j).bind fun t => (frD opl st S.fr (fun _ => true) i)[t]?) want s.gd with
          | none => simp [hgo] at hdo
          | some pr =>
            obtain ⟨gcs, wn⟩ := pr
            rw [hgo] at hdo
            generalize hsv : ((dstOf opl j).bind fun t => (frD opl st S.fr (fun _ => true) i)[t]?) = osv at hgo slot
            unfold guardOk at hgo
            split at hgo
            · rename_i hgd2
              simp only [Option.some.injEq, Prod.mk.injEq] at hgo; obtain ⟨rfl, rfl⟩ := hgo
              obtain ⟨t, u, e1, e2, e3⟩ := slot _ rfl
              simp only [RepS, Rep] at e3
              obtain ⟨us, rfl, _⟩ := e3
              simp only at hdo
              split at hdo
              · rename_i hno
                simp only [Option.some.injEq] at hdo; subst hdo
                exact skip (by simp only [Region.wanted, hgd, yielded, e1, Option.bind_some, e2]; rfl) hca.1 (by simpa using hno)
              · simp at hdo
            · rename_i b d hgd2
              simp only [Option.some.injEq, Prod.mk.injEq] at hgo; obtain ⟨rfl, rfl⟩ := hgo
              obtain ⟨t, u, e1, e2, e3⟩ := slot _ rfl
              simp only [RepS, Rep] at e3
              obtain ⟨rfl, _⟩ := e3
              cases hdw : (d == want) with
              | true =>
                simp only [hdw] at hdo
                cases hdr : dRuns P o s (frD opl st S.fr (fun _ => true) i) st (S.bx, S.gn) (cands st (masks opl []) opl.length i) with
                | none => simp [hdr] at hdo
                | some cr =>
                  simp only [hdr, Option.map_some, Option.some.injEq] at hdo; subst hdo
                  obtain ⟨hb, hcr⟩ := hca
                  subst hb
                  rw [if_pos (by simp only [Region.wanted, hgd, yielded, e1, Option.bind_some, e2]; simpa using hdw)]
                  exact .inl (runs hdr hcr)
              | false =>
                simp only [hdw] at hdo
                split at hdo
                · rename_i hno
                  simp only [Option.some.injEq] at hdo; subst hdo
                  obtain ⟨hb, hv, _⟩ := hca
                  subst hb
                  exact skip (by simp only [Region.wanted, hgd, yielded, e1, Option.bind_some, e2]; simpa using hdw) hv (by simpa using hno)
                · simp at hdo
            · simp at hgo
  refine main ops.size (Array.replicate ops.size false) G0 _ a0 (by simp) ?_ ?_ ?_ hstep0 (fun _ _ => rfl)
  · have : ∀ (L : Nat → Bool) m, left L m ≤ m := by
      intro L m
      induction m with
      | zero => simp [left]
      | succ m ih => simp only [left]; split <;> omega
    rw [hn]; exact this _ _
  · intro k ok hk hL
    simp only [Array.getD_eq_getD_getElem?, Array.getElem?_replicate] at hL
    split at hL <;> simp at hL
  · have hf : (fun k => (Array.replicate ops.size false).getD k false) = fun _ => false := by
      funext k; simp only [Array.getD_eq_getD_getElem?, Array.getElem?_replicate]; split <;> rfl
    rw [hf]
    have e1 : ∀ m, frD opl st S.fr (fun _ => false) m = S.fr := by
      intro m; induction m with
      | zero => rfl
      | succ m ih => simp [frD, ih]
    have e2 : ∀ m, bxD st (S.bx, S.gn) (fun _ => false) m = (S.bx, S.gn) := by
      intro m; induction m with
      | zero => rfl
      | succ m ih => simp [bxD, ih]
    rw [e1, e2]
    exact hr0'

/-- With the state that it ends in told. -/
theorem W_drew {P : Program} {id : Nat} {ops : Array Oper} {Q : Exit → St → Prop} {S : St} (st : List DS) {cs : List Prop} (S' : St) (hm : P.follows .mixedOrders = true) (hst : st.length = ops.toList.length)
    (hs : dStatic ops.toList st (masks ops.toList []) = true) (hd : dAll P ops.toList st (masks ops.toList []) S.fr (S.bx, S.gn) ops.toList.length = some cs)
    (hS : (⟨frD ops.toList st S.fr (fun _ => true) ops.toList.length, (bxD st (S.bx, S.gn) (fun _ => true) ops.toList.length).1, (bxD st (S.bx, S.gn) (fun _ => true) ops.toList.length).2⟩ : St) = S') (hc : All cs)
    (hq : Q .normal S') : W P (.region id ops true) Q S :=
  W_draw st hm hst hs hd hc (by rw [hS]; exact hq)

theorem W_condT {P : Program} {x : Operand} {c d : Code} {Q : Exit → St → Prop} {S : St} {b : Bool} (h : S.ev x = .av (.val (.bool b))) (hb : b = true) (hw : W P c Q S) : W P (.cond x c d) Q S := by
  refine W_cond h ?_
  subst hb; exact hw
theorem W_condF {P : Program} {x : Operand} {c d : Code} {Q : Exit → St → Prop} {S : St} {b : Bool} (h : S.ev x = .av (.val (.bool b))) (hb : b = false) (hw : W P d Q S) : W P (.cond x c d) Q S := by
  refine W_cond h ?_
  subst hb; exact hw

end Go.Eng
