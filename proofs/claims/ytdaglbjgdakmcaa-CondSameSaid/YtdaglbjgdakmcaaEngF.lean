/- Indexes, slices, literals, append. -/
import Derived.Test.YtdaglbjgdakmcaaEngE
set_option linter.unusedSimpArgs false
set_option linter.unusedVariables false
namespace Go.Eng

theorem vcells_length {sz : Nat} : ∀ (es : List Value), (∀ e ∈ es, e.cells.size = sz) → (vcells es).length = es.length * sz
  | [], _ => by simp [vcells]
  | e :: es, h => by
    have h1 := h e (by simp)
    have h2 := vcells_length es (fun x hx => h x (by simp [hx]))
    simp only [vcells, List.flatMap_cons, List.length_append] at h2 ⊢
    simp only [Array.length_toList, h1, h2, List.length_cons, Nat.succ_mul]
    omega

theorem vcells_append (a b : List Value) : vcells (a ++ b) = vcells a ++ vcells b := by simp [vcells]

theorem vcells_get {sz : Nat} : ∀ (es : List Value) (i : Nat) (e : Value), (∀ e ∈ es, e.cells.size = sz) → es[i]? = some e → ∀ (j : Nat) (x : Value), e.cells.toList[j]? = some x → (vcells es)[i * sz + j]? = some x
  | [], i, e, _, h, _, _, _ => by simp at h
  | e' :: es, 0, e, hs, h, j, x, hx => by
    simp at h; subst h
    have hj : j < e'.cells.toList.length := by
      rcases Nat.lt_or_ge j e'.cells.toList.length with h | h
      · exact h
      · simp [List.getElem?_eq_none h] at hx
    simp only [vcells, List.flatMap_cons, Nat.zero_mul, Nat.zero_add]
    rw [List.getElem?_append_left hj]; exact hx
  | e' :: es, i + 1, e, hs, h, j, x, hx => by
    have h1 := hs e' (by simp)
    have h2 := vcells_get es i e (fun x hx => hs x (by simp [hx])) (by simpa using h) j x hx
    simp only [vcells, List.flatMap_cons] at h2 ⊢
    rw [List.getElem?_append_right (by simp only [Array.length_toList, h1, Nat.succ_mul]; omega)]
    simp only [Array.length_toList, h1]
    rw [show (i + 1) * sz + j - sz = i * sz + j by rw [Nat.succ_mul]; omega]
    exact h2

theorem vcells_take {sz : Nat} : ∀ (es : List Value) (n : Nat), (∀ e ∈ es, e.cells.size = sz) → vcells (es.take n) = (vcells es).take (n * sz)
  | [], n, _ => by simp [vcells]
  | e :: es, 0, _ => by simp [vcells]
  | e :: es, n + 1, h => by
    have h1 := h e (by simp)
    have ih := vcells_take es n (fun x hx => h x (by simp [hx]))
    simp only [vcells, List.take_succ_cons, List.flatMap_cons] at ih ⊢
    rw [ih, List.take_append]
    simp only [Array.length_toList, h1]
    rw [show (n + 1) * sz - sz = n * sz by rw [Nat.succ_mul]; omega, List.take_of_length_le (l := e.cells.toList) (by simp only [Array.length_toList, h1, Nat.succ_mul]; omega)]

theorem vcells_drop {sz : Nat} : ∀ (es : List Value) (n : Nat), (∀ e ∈ es, e.cells.size = sz) → vcells (es.drop n) = (vcells es).drop (n * sz)
  | [], n, _ => by simp [vcells]
  | e :: es, 0, _ => by simp [vcells]
  | e :: es, n + 1, h => by
    have h1 := h e (by simp)
    have ih := vcells_drop es n (fun x hx => h x (by simp [hx]))
    simp only [vcells, List.drop_succ_cons, List.flatMap_cons] at ih ⊢
    rw [ih, List.drop_append]
    simp only [Array.length_toList, h1]
    rw [show (n + 1) * sz - sz = n * sz by rw [Nat.succ_mul]; omega, List.drop_of_length_le (l := e.cells.toList) (by simp only [Array.length_toList, h1, Nat.succ_mul]; omega)]
    simp

/-- Every element has sz cells. -/
def Uni (sz : Nat) (l : List AV) : Prop := ∀ x ∈ l, x.cells.length = sz ∧ x.isTup = false

theorem RepL.mem {U : Nat → Nat} {w : World} : ∀ {l : List AV} {us : List Value}, RepL U w l us → ∀ u ∈ us, ∃ x ∈ l, Rep U w x u
  | [], us, h, u, hu => by simp only [RepL] at h; subst h; simp at hu
  | y :: l, us, h, u, hu => by
    simp only [RepL] at h
    obtain ⟨v, us', rfl, h2, h3⟩ := h
    simp only [List.mem_cons] at hu
    rcases hu with rfl | hu
    · exact ⟨y, by simp, h2⟩
    · obtain ⟨x, hx, hr⟩ := h3.mem u hu; exact ⟨x, by simp [hx], hr⟩

theorem Uni.sizes {U : Nat → Nat} {w : World} {sz : Nat} {l : List AV} {es : List Value} (h : Uni sz l) (hr : RepL U w l es) : ∀ e ∈ es, e.cells.size = sz := by
  intro e he
  obtain ⟨x, hx, hr⟩ := hr.mem e he
  obtain ⟨h1, h2⟩ := h x hx
  have := (hr.cells' h2).1.length
  simpa [h1] using this

theorem Lies.sub {U : Nat → Nat} {w : World} {b off : Nat} {cs : List Value} (h : Lies U w (some ⟨b, off, none⟩) cs) (n m : Nat) : Lies U w (some ⟨b, off + n, none⟩) ((cs.drop n).take m) := by
  rcases h with h | ⟨b', off', h1, h2, h3⟩
  · subst h; exact .inl (by simp)
  · simp at h1; obtain ⟨rfl, rfl⟩ := h1
    by_cases hz : (cs.drop n).take m = []
    · exact .inl hz
    · refine .inr ⟨b, off + n, rfl, ?_, fun j x hx => ?_⟩
      · have : 0 < ((cs.drop n).take m).length := List.length_pos_iff.2 hz
        simp at this ⊢; omega
      · rw [List.getElem?_take] at hx
        split at hx
        · simp only [List.getElem?_drop] at hx; have := h3 _ x hx; rwa [Nat.add_assoc]
        · simp at hx

theorem sound_indexAddr {P : Program} {o : Oper} {S : St} {t e : TypeId} {sz bt : Nat} {z : Option Value} {x ix : Operand} {l : List AV} {k : IntKind} {i : Int} (ho : o.op = .indexAddr t x ix) (hx : (S.ev x).toAV = some (.sl l)) (hix : S.ev ix = .av (.val (.int k i)))
    (ht : tElem P t = some e) (hi : tInfo P e = some (sz, bt, z)) (hsz : 0 < sz) :
    Sound P o S ⟨0 ≤ i ∧ i < l.length ∧ (l.getD i.toNat (.val undef)).cells.length = sz ∧ (l.getD i.toNat (.val undef)).isTup = false, .av (.ro (l.getD i.toNat (.val undef)).cells 0), S⟩ :=
  Sound.still fun ⟨hi0, hi1, hc, htp⟩ G w a hr => by
    have h1 := (hr.ev x).toAV hx
    have h2 := hr.ev ix; rw [hix] at h2; simp only [RepS, Rep] at h2
    simp only [Rep] at h1
    obtain ⟨ad, cap, es, sz', g1, g2, g3, g4, g5, g6, g7⟩ := h1
    have hlt : i.toNat < l.length := by omega
    have hget : l[i.toNat]? = some (l.getD i.toNat (.val undef)) := by simp [List.getD, List.getElem?_eq_getElem hlt]
    obtain ⟨e1, he1, he2⟩ := g2.get _ _ hget
    obtain ⟨hc1, hc2⟩ := he2.cells' htp
    have hlen := hc1.length
    rw [hc] at hlen
    have hmem : e1 ∈ es := List.mem_of_getElem? he1
    have hsz' : sz' = sz := by rw [← g3 e1 hmem]; simpa using hlen
    subst hsz'
    have hne : vcells es ≠ [] := by
      intro h0
      have := vcells_length es g3
      rw [h0] at this
      have hp : 0 < es.length := List.length_pos_of_mem hmem
      have : 0 < es.length * sz' := Nat.mul_pos hp hsz
      simp_all
    rcases g7 with h0 | ⟨b, off, ha, hU, hcell⟩
    · exact (hne h0).elim
    · subst ha
      have ht' : P.underlying t = some (.slice e) := by
        unfold tElem at ht; split at ht
        · rename_i hh; simp at ht; subst ht; exact hh
        · simp at ht
      refine ⟨.pointer (some ⟨b, off + i.toNat * sz', none⟩), ?_, ?_⟩
      · simp [execOp, ho, h2.1, g1, Instr.indexAt, asIntOf, run_underlying' ht', run_sizeOf' hi, hi0, hi1, addr_add]
      · simp only [RepS, Rep]
        refine ⟨b, off + i.toNat * sz', e1.cells.toList, rfl, hc1, ?_, fun j y hj => ?_⟩
        · have := vcells_length es g3
          have hle : (i.toNat + 1) * sz' ≤ es.length * sz' := Nat.mul_le_mul_right _ (by rw [g2.length]; omega)
          rw [Nat.succ_mul] at hle
          rw [this] at hU
          omega
        · have := vcells_get es _ e1 g3 he1 j y hj
          have := hcell _ y this
          rwa [Nat.add_assoc]

theorem sound_index {P : Program} {o : Oper} {S : St} {t : TypeId} {x ix : Operand} {s : ByteArray} {k : IntKind} {i : Int} (ho : o.op = .index t x ix) (hx : S.ev x = .av (.val (.string s))) (hix : S.ev ix = .av (.val (.int k i))) (ht : tStr P t = true) :
    Sound P o S ⟨0 ≤ i ∧ i < s.size, .av (.val (.int .u8 ((s.data.getD i.toNat 0).toNat : Nat))), S⟩ :=
  Sound.still fun ⟨hi0, hi1⟩ G w a hr => by
    have h1 := hr.ev x; rw [hx] at h1; simp only [RepS, Rep] at h1
    have h2 := hr.ev ix; rw [hix] at h2; simp only [RepS, Rep] at h2
    have ht' : P.underlying t = some .string := by
      unfold tStr at ht; split at ht
      · assumption
      · simp at ht
    have hlt : i.toNat < s.size := by omega
    have hg : s[i.toNat]? = some (s.data.getD i.toNat 0) := by
      have : i.toNat < s.data.size := hlt
      rw [getElem?_pos s i.toNat hlt]
      simp only [Array.getD, this, dif_pos]
      rfl
    refine ⟨_, ?_, ⟨rfl, rfl⟩⟩
    simp [execOp, ho, h1.1, h2.1, Instr.index, asIntOf, run_underlying' ht', hi0, hg]

def IsBound (S : St) (d : Int) (k : IntKind) (i : Int) : Option Operand → Prop
  | none => i = d
  | some y => S.ev y = .av (.val (.int k i))

theorem sound_slice_str {P : Program} {o : Oper} {S : St} {t : TypeId} {x : Operand} {lo hi : Option Operand} {s : ByteArray} {k k' : IntKind} {i j : Int} (ho : o.op = .slice t x lo hi none) (hx : S.ev x = .av (.val (.string s)))
    (hlo : IsBound S 0 k i lo) (hhi : IsBound S s.size k' j hi) (ht : tStr P t = true) :
    Sound P o S ⟨0 ≤ i ∧ i ≤ j ∧ j ≤ s.size, .av (.val (.string (s.extract i.toNat j.toNat))), S⟩ :=
  Sound.still fun ⟨hi0, hi1, hi2⟩ G w a hr => by
    have h1 := hr.ev x; rw [hx] at h1; simp only [RepS, Rep] at h1
    have ht' : P.underlying t = some .string := by
      unfold tStr at ht; split at ht
      · assumption
      · simp at ht
    have hj0 : 0 ≤ j := by omega
    have hij : i ≤ (j.toNat : Int) := by omega
    have hij' : i.toNat ≤ j.toNat := by omega
    refine ⟨_, ?_, ⟨rfl, rfl⟩⟩
    cases lo with
    | none =>
      simp only [IsBound] at hlo; subst hlo
      cases hi with
      | none => simp only [IsBound] at hhi; subst hhi; simp [execOp, ho, h1.1, Instr.sliceAt, Instr.slice, run_underlying' ht', Instr.sliceBounds]
      | some y =>
        simp only [IsBound] at hhi
        have h2 := hr.ev y; rw [hhi] at h2; simp only [RepS, Rep] at h2
        simp [execOp, ho, h1.1, h2.1, Instr.sliceAt, Instr.slice, run_underlying' ht', Instr.sliceBounds, Instr.sliceBound, asIntOf, hj0, hi2]
    | some y' =>
      simp only [IsBound] at hlo
      have h3 := hr.ev y'; rw [hlo] at h3; simp only [RepS, Rep] at h3
      cases hi with
      | none =>
        simp only [IsBound] at hhi; subst hhi
        simp [execOp, ho, h1.1, h3.1, Instr.sliceAt, Instr.slice, run_underlying' ht', Instr.sliceBounds, Instr.sliceBound, asIntOf, hi0, hi1]
      | some y =>
        simp only [IsBound] at hhi
        have h2 := hr.ev y; rw [hhi] at h2; simp only [RepS, Rep] at h2
        simp [execOp, ho, h1.1, h2.1, h3.1, Instr.sliceAt, Instr.slice, run_underlying' ht', Instr.sliceBounds, Instr.sliceBound, asIntOf, hi0, hj0, hi2]; intro h; omega

theorem sound_slice_sl {P : Program} {o : Oper} {S : St} {t e : TypeId} {sz bt : Nat} {z : Option Value} {x : Operand} {lo hi : Option Operand} {l : List AV} {k k' : IntKind} {i j : Int} (ho : o.op = .slice t x lo hi none) (hx : (S.ev x).toAV = some (.sl l))
    (hlo : IsBound S 0 k i lo) (hhi : IsBound S l.length k' j hi) (ht : tElem P t = some e) (hti : tInfo P e = some (sz, bt, z)) :
    Sound P o S ⟨0 ≤ i ∧ i ≤ j ∧ j ≤ l.length ∧ Uni sz l, .av (.sl ((l.drop i.toNat).take (j.toNat - i.toNat))), S⟩ :=
  Sound.still fun ⟨hi0, hi1, hi2, hu⟩ G w a hr => by
    have h1 := (hr.ev x).toAV hx
    simp only [Rep] at h1
    obtain ⟨ad, cap, es, sz', g1, g2, g3, g4, g5, g6, g7⟩ := h1
    have g3' := hu.sizes g2
    have ht' : P.underlying t = some (.slice e) := by
      unfold tElem at ht; split at ht
      · rename_i hh; simp at ht; subst ht; exact hh
      · simp at ht
    have hj0 : 0 ≤ j := by omega
    have hjc : j ≤ (cap : Int) := by omega
    have hij : i ≤ (j.toNat : Int) := by omega
    refine ⟨.slice (if cap = i.toNat then ad else ad.map (·.add (i.toNat * sz))) (j.toNat - i.toNat) (cap - i.toNat), ?_, ?_⟩
    · cases lo with
      | none =>
        simp only [IsBound] at hlo; subst hlo
        cases hi with
        | none => simp only [IsBound] at hhi; subst hhi; simp [execOp, ho, g1, Instr.sliceAt, Instr.slice, run_underlying' ht', Instr.sliceBounds, run_sizeOf' hti]
        | some y =>
          simp only [IsBound] at hhi
          have h2 := hr.ev y; rw [hhi] at h2; simp only [RepS, Rep] at h2
          simp [execOp, ho, g1, h2.1, Instr.sliceAt, Instr.slice, run_underlying' ht', Instr.sliceBounds, Instr.sliceBound, asIntOf, hj0, hjc, run_sizeOf' hti]
      | some y' =>
        simp only [IsBound] at hlo
        have h3 := hr.ev y'; rw [hlo] at h3; simp only [RepS, Rep] at h3
        cases hi with
        | none =>
          simp only [IsBound] at hhi; subst hhi
          simp [execOp, ho, g1, h3.1, Instr.sliceAt, Instr.slice, run_underlying' ht', Instr.sliceBounds, Instr.sliceBound, asIntOf, hi0, hi1, run_sizeOf' hti]
        | some y =>
          simp only [IsBound] at hhi
          have h2 := hr.ev y; rw [hhi] at h2; simp only [RepS, Rep] at h2
          simp [execOp, ho, g1, h2.1, h3.1, Instr.sliceAt, Instr.slice, run_underlying' ht', Instr.sliceBounds, Instr.sliceBound, asIntOf, hi0, hj0, hjc, run_sizeOf' hti]; intro h; omega
    · simp only [RepS, Rep]
      have hlen : ((l.drop i.toNat).take (j.toNat - i.toNat)).length = j.toNat - i.toNat := by simp; omega
      have g2' := (g2.drop i.toNat).take (j.toNat - i.toNat)
      refine ⟨_, _, (es.drop i.toNat).take (j.toNat - i.toNat), sz, by rw [hlen], g2', fun e he => g3' e (List.mem_of_mem_drop (List.mem_of_mem_take he)), fun hn => ?_, by rw [hlen]; omega, fun ad' hd => ?_, ?_⟩
      · cases ad with
        | none => rw [g4 rfl]; simp
        | some ad' => split at hn <;> simp at hn
      · cases ad with
        | none => split at hd <;> simp at hd
        | some ad2 =>
          have := g6 ad2 rfl
          obtain ⟨bb, oo, ss⟩ := ad2
          simp only at this; subst this
          split at hd
          · simp at hd; subst hd; rfl
          · simp [addr_add] at hd; subst hd; rfl
      · by_cases hci : cap = i.toNat
        · have h0 : j.toNat - i.toNat = 0 := by omega
          rw [h0]; exact .inl (by simp [vcells])
        · rw [if_neg hci]
          cases ad with
          | none => rw [g4 rfl]; exact .inl (by simp [vcells])
          | some ad2 =>
            have := g6 ad2 rfl
            obtain ⟨bb, oo, ss⟩ := ad2
            simp only at this; subst this
            simp only [Option.map_some, addr_add]
            rw [vcells_take (sz := sz) _ _ (fun e he => g3' e (List.mem_of_mem_drop he)), vcells_drop _ _ g3']
            exact g7.sub _ _

end Go.Eng
