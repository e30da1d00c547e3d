/- append. -/
import Derived.Test.YtdaglbjgdakmcaaEngH
set_option linter.unusedSimpArgs false
set_option linter.unusedVariables false
namespace Go.Eng

def notInt (P : Program) (t : TypeId) : Bool :=
  match P.underlying t with
  | some (.slice _) => true
  | some .string => true
  | _ => false

theorem notInt_run {P : Program} {t : TypeId} (h : notInt P t = true) : (∃ e, P.underlying t = some (.slice e)) ∨ P.underlying t = some .string := by
  unfold notInt at h
  split at h
  · rename_i hh; exact .inl ⟨_, hh⟩
  · rename_i hh; exact .inr hh
  · simp at h

section
variable {P : Program} {t t2 ty e : TypeId} {sz bt : Nat} {z : Value}

theorem run_append_place (ht : tElem P t = some e) (h2 : notInt P t2 = true) (hi : tInfo P e = some (sz, bt, some z)) {w : World} {b off n cap m : Nat} {x : Value} {news : List Value} (hl : (Builtin.lenOf x).run P w = .ok m w)
    (hf : (Builtin.firstCells sz m x).run P w = .ok news.toArray w) (hle : n + m ≤ cap) {w' : World} (hs : (storeCells ⟨b, off + n * sz, none⟩ news).run P w = .ok () w') :
    (Builtin.append_ #[t, t2] ty #[.slice (some ⟨b, off, none⟩) n cap, x]).run P w = .ok (.slice (some ⟨b, off, none⟩) (n + m) cap) w' := by
  have ht' : P.underlying t = some (.slice e) := by
    unfold tElem at ht; split at ht
    · rename_i hh; simp at ht; subst ht; exact hh
    · simp at ht
  rcases notInt_run h2 with ⟨_, hd1⟩ | hd1 <;> simp [Builtin.append_, run_underlying' ht', run_sizeOf' hi, run_underlying' hd1, hl, hle, hf, addr_add, hs]

theorem run_append_none (ht : tElem P t = some e) (h2 : notInt P t2 = true) (hi : tInfo P e = some (sz, bt, some z)) {w : World} {x : Value} (hl : (Builtin.lenOf x).run P w = .ok 0 w) {news : List Value}
    (hf : (Builtin.firstCells sz 0 x).run P w = .ok news.toArray w) :
    (Builtin.append_ #[t, t2] ty #[.slice none 0 0, x]).run P w = .ok (.slice none 0 0) w := by
  have ht' : P.underlying t = some (.slice e) := by
    unfold tElem at ht; split at ht
    · rename_i hh; simp at ht; subst ht; exact hh
    · simp at ht
  rcases notInt_run h2 with ⟨_, hd1⟩ | hd1 <;> simp [Builtin.append_, run_underlying' ht', run_sizeOf' hi, run_underlying' hd1, hl, hf]

theorem run_append_grow (ht : tElem P t = some e) (h2 : notInt P t2 = true) (hi : tInfo P e = some (sz, bt, some z)) (hz : z.cells.size = sz) (hbt : 0 < bt) {w : World} {a : Option Addr} {n cap m : Nat} {x : Value} {olds news : List Value}
    (hl : (Builtin.lenOf x).run P w = .ok m w) (ho : ∀ w', w'.heap = w.heap → (Builtin.firstCells sz n (.slice a n cap)).run P w' = .ok olds.toArray w')
    (hf : ∀ w', w'.heap = w.heap → (Builtin.firstCells sz m x).run P w' = .ok news.toArray w') (hlt : cap < n + m) (hb : (n + m) * bt ≤ 140737488355328) :
    ∃ newCap rest, n + m ≤ newCap ∧ rest.length = (newCap - (n + m)) * sz ∧
      (Builtin.append_ #[t, t2] ty #[.slice a n cap, x]).run P w = .ok (.slice (some ⟨w.heap.size, 0, none⟩) (n + m) newCap) (w.drew.alloc (.cells (olds ++ news ++ rest).toArray e)) := by
  have ht' : P.underlying t = some (.slice e) := by
    unfold tElem at ht; split at ht
    · rename_i hh; simp at ht; subst ht; exact hh
    · simp at ht
  have hfit := growslice_fits hlt hb
  have hii := hi
  simp only [tInfo, Option.map_eq_some_iff, Prod.mk.injEq] at hii
  obtain ⟨i, i1, i2, i3, i4⟩ := hii
  have hnle : ¬ n + m ≤ cap := by omega
  have hforced : (Question.appendCap (n + m) cap e).forced = false := rfl
  have e1 := ho w.drew rfl
  have e2 := hf w.drew rfl
  refine ⟨(Question.appendCap (n + m) cap e).cut (w.tape w.drawn (.appendCap (n + m) cap e)), (Builtin.zeroCells z.cells ((Question.appendCap (n + m) cap e).cut (w.tape w.drawn (.appendCap (n + m) cap e)) - (n + m))).toList, ?_, ?_, ?_⟩
  · simp only [Question.cut]; omega
  · simp [Builtin.zeroCells, hz]
  · have hbz : ¬ (i.bytes = 0) := by omega
    have hfit' : ¬ Builtin.nextslicecap (n + m) cap * i.bytes > 2 ^ 48 := by rw [i3]; omega
    rcases notInt_run h2 with ⟨_, hd1⟩ | hd1 <;> simp [Builtin.append_, run_underlying' ht', run_sizeOf' hi, run_underlying' hd1, hl, hnle, run_typeInfo' i1, hbz, hfit', hforced, e1, e2, run_zeroValue' hi, newRow] <;> (generalize Builtin.zeroCells _ _ = zc; congr 2; apply Array.ext'; simp)
end


/-- What is appended: its length and its cells. -/
structure Src (P : Program) (w : World) (U : Nat → Nat) (sz : Nat) (x : Value) (l : List AV) (es : List Value) : Prop where
  rep : RepL U w l es
  len : ∀ w', w'.heap = w.heap → (Builtin.lenOf x).run P w' = .ok l.length w'
  cells : ∀ w', w'.heap = w.heap → (Builtin.firstCells sz l.length x).run P w' = .ok (vcells es).toArray w'

theorem cell_heap {w w' : World} (h : w'.heap = w.heap) (a : Addr) : w'.cell? a = w.cell? a := by simp only [World.cell?, h]

theorem first_of_lies {P : Program} {w : World} {U : Nat → Nat} {a : Option Addr} {es : List Value} {sz n cap len : Nat} (h : Lies U w a (vcells es)) (hs : ∀ e ∈ es, e.cells.size = sz) (hn : es.length = n) (h0 : a = none → es = []) (hsp : ∀ ad, a = some ad → ad.spot = none) (w' : World) (hw : w'.heap = w.heap) :
    (Builtin.firstCells sz n (.slice a len cap)).run P w' = .ok (vcells es).toArray w' := by
  have hl := vcells_length es hs
  cases a with
  | none => rw [h0 rfl]; simp [Builtin.firstCells, vcells]
  | some ad =>
    obtain ⟨b, off, sp⟩ := ad
    have := hsp _ rfl
    simp only at this; subst this
    refine run_firstCells_some w' sz n ⟨b, off, none⟩ len cap (vcells es) (by rw [hl, hn]) (fun j v hj => ?_)
    rcases h with h | ⟨b', off', h1, h2, h3⟩
    · rw [h] at hj; simp at hj
    · simp at h1; obtain ⟨rfl, rfl⟩ := h1
      rw [addr_add, cell_heap hw]; exact (h3 j v hj).1

theorem src_sl {P : Program} {G : Gh} {w : World} {sz : Nat} {x : Value} {l : List AV} (h : Rep G.U w (.sl l) x) (hu : Uni sz l) : ∃ es, Src P w G.U sz x l es := by
  simp only [Rep] at h
  obtain ⟨a, cap, es, sz', rfl, h2, h3, h4, h5, h6, h7⟩ := h
  refine ⟨es, h2, fun w' _ => by simp [Builtin.lenOf], fun w' hw => first_of_lies h7 (hu.sizes h2) h2.length h4 h6 w' hw⟩

def bytesAV (s : ByteArray) : List AV := s.data.toList.map (fun b => .val (.int .u8 b.toNat))

theorem RepL_bytes {U : Nat → Nat} {w : World} : ∀ (l : List UInt8), RepL U w (l.map (fun b => AV.val (.int .u8 b.toNat))) (l.map (fun b => Value.int .u8 b.toNat))
  | [] => by simp [RepL]
  | b :: l => by
    simp only [List.map_cons, RepL]
    exact ⟨_, _, rfl, by simp [Rep, Value.oneCell'], RepL_bytes l⟩

theorem vcells_one : ∀ (l : List Value), (∀ v ∈ l, v.cells = #[v]) → vcells l = l
  | [], _ => rfl
  | v :: l, h => by
    have := vcells_one l (fun x hx => h x (by simp [hx]))
    simp only [vcells, List.flatMap_cons, h v (by simp)] at this ⊢
    simpa using this

theorem src_str {P : Program} {G : Gh} {w : World} (s : ByteArray) : ∃ es, Src P w G.U 1 (.string s) (bytesAV s) es := by
  refine ⟨s.data.toList.map (fun b => Value.int .u8 b.toNat), RepL_bytes _, fun w' _ => ?_, fun w' _ => ?_⟩
  · simp [Builtin.lenOf, bytesAV]
  · rw [vcells_one _ (fun v hv => by simp at hv; obtain ⟨b, _, rfl⟩ := hv; rfl)]
    have : (bytesAV s).length = s.size := by simp [bytesAV]
    rw [this]
    simp only [Builtin.firstCells, ByteArray.extract_zero_size]
    simp
    apply Array.ext'
    simp

def Gh.next (G : Gh) (k : Key) (b : Nat) : Gh := { G with ow := fun κ => if κ = k then some b else G.ow κ, gen := fun κ => if κ = k then G.gen κ + 1 else G.gen κ }

def dropKey (k : Key) (l : List (Key × Nat)) : List (Key × Nat) := l.filter (fun p => !(k == p.1))

theorem lookup_dropKey {k κ : Key} (h : κ ≠ k) (l : List (Key × Nat)) : (dropKey k l).lookup κ = l.lookup κ := by
  induction l with
  | nil => rfl
  | cons p l ih =>
    obtain ⟨k', g⟩ := p
    simp only [dropKey, List.filter_cons] at ih ⊢
    by_cases hk : k = k'
    · subst hk
      simp only [beq_self_eq_true, Bool.not_true, Bool.false_eq_true, if_false]
      have : (κ == k) = false := by simpa using h
      rw [ih, List.lookup_cons, this]
    · have : (k == k') = false := by simpa using hk
      simp only [this, Bool.not_false, if_true, List.lookup_cons, ih]

def St.next (S : St) (k : Key) : St := { S with gn := (k, S.gen k + 1) :: dropKey k S.gn }

theorem next_gen {G : Gh} {S : St} (h : ∀ k : Key, G.gen k = S.gen k) (k : Key) (b : Nat) : ∀ κ : Key, (G.next k b).gen κ = (S.next k).gen κ := by
  intro κ
  simp only [Gh.next, St.next, St.gen, List.lookup_cons]
  by_cases hk : κ = k
  · subst hk; simp; exact h κ
  · have : (κ == k) = false := by simpa using hk
    simp only [this, if_neg hk, lookup_dropKey hk]; exact h κ

/-- A step that turns only what the key k owns. -/
theorem Rel.nextTok {G G' : Gh} {w w' : World} {S : St} {a : Act} {k : Key} (h : Rel G w S a) (he : Ext G w G' w') (hw : Wf G' w') (hk : ∀ κ : Key, κ.2 = 0 → Keep G w G' w' κ) (hg : ∀ κ : Key, G'.gen κ = (S.next k).gen κ) : Rel G' w' (S.next k) a :=
  ⟨hw, h.size, fun t s ht => (h.fr t s ht).persist he (fun κ hκ => (hk κ (s.keys_zero κ hκ)).1),
    fun p hp => (h.bx p hp).persist he (hk _ rfl) (fun κ hκ => by
      simp only [List.mem_flatMap] at hκ
      obtain ⟨s, _, hs⟩ := hκ
      exact (hk κ (s.keys_zero κ hs)).1), hg, h.defers⟩

theorem step_tok {G : Gh} {w : World} (hw : Wf G w) (o : Obj) {k : Key} (hk0 : 0 < k.2) (n : Nat) :
    Step G w ((G.setU w.heap.size n).next k w.heap.size) (w.drew.alloc o) ∧ Wf ((G.setU w.heap.size n).next k w.heap.size) (w.drew.alloc o) ∧
      ∀ κ, κ ≠ k → Keep G w ((G.setU w.heap.size n).next k w.heap.size) (w.drew.alloc o) κ := by
  have hwd : Wf G w.drew := ⟨hw.inj, hw.lt, hw.zero⟩
  obtain ⟨s1, s2, s3⟩ := step_alloc hwd o n
  have how : ∀ κ b, (if κ = k then some w.heap.size else G.ow κ) = some b → (κ = k ∧ b = w.heap.size) ∨ (κ ≠ k ∧ G.ow κ = some b) := by
    intro κ b h
    split at h
    · rename_i hk; simp at h; exact .inl ⟨hk, h.symm⟩
    · rename_i hk; exact .inr ⟨hk, h⟩
  have hkp : ∀ κ, κ ≠ k → Keep G w ((G.setU w.heap.size n).next k w.heap.size) (w.drew.alloc o) κ := fun κ hκ => ⟨by simp only [Gh.next]; rw [if_neg hκ]; rfl, fun b hb => (s3 κ).2 b hb⟩
  refine ⟨⟨⟨s1.U, ⟨s1.imm.cell, s1.imm.map⟩, s1.size, s1.os, s1.tape, s1.output, fun κ => ?_, fun κ _ hg => ?_⟩, s1.stay, fun κ b h => ?_⟩, ⟨fun κ κ' b h h' => ?_, fun κ b h => ?_, s2.zero⟩, hkp⟩
  · simp only [Gh.next, Gh.setU]; split <;> omega
  · refine hkp κ (fun e => ?_)
    simp only [Gh.next, Gh.setU, if_pos e] at hg; omega
  · rcases how κ b h with ⟨_, rfl⟩ | ⟨_, h1⟩
    · exact .inr (Nat.le_refl _)
    · exact .inl ⟨κ, h1⟩
  · rcases how κ b h with ⟨h1, h2⟩ | ⟨h1, h2⟩ <;> rcases how κ' b h' with ⟨h3, h4⟩ | ⟨h3, h4⟩
    · rw [h1, h3]
    · have := hw.lt κ' b h4; omega
    · have := hw.lt κ b h2; omega
    · exact hw.inj κ κ' b h2 h4
  · rcases how κ b h with ⟨_, rfl⟩ | ⟨_, h1⟩
    · simp
    · have := hw.lt κ b h1; simp; omega

theorem step_room {G : Gh} {w : World} (hw : Wf G w) {k : Key} (hk0 : 0 < k.2) {b : Nat} {arr : Array Value} {e : TypeId} (ho : G.ow k = some b) (hh : w.heap[b]? = some (.cells arr e (0, 0))) (n : Nat) (hn : G.U b ≤ n) (arr' : Array Value) (hsame : ∀ j, j < G.U b → arr'[j]? = arr[j]?) :
    Step G w ((G.setU b n).next k b) (w.setRow b arr') ∧ Wf ((G.setU b n).next k b) (w.setRow b arr') ∧ ∀ κ, κ ≠ k → Keep G w ((G.setU b n).next k b) (w.setRow b arr') κ := by
  have hoth : ∀ i, i ≠ b → (w.setRow b arr').heap[i]? = w.heap[i]? := fun i hi => setRow_other w b i arr' hi
  have hblt := hw.lt k b ho
  have hkp : ∀ κ, κ ≠ k → Keep G w ((G.setU b n).next k b) (w.setRow b arr') κ := fun κ hκ => ⟨by simp only [Gh.next]; rw [if_neg hκ]; rfl, fun i hi => by
    have hne : i ≠ b := fun he => hκ (hw.inj κ k b (he ▸ hi) ho)
    exact ⟨hoth i hne, by simp only [Gh.next, Gh.setU]; rw [if_neg hne]⟩⟩
  have how : ∀ κ c, ((G.setU b n).next k b).ow κ = some c → G.ow κ = some c := by
    intro κ c h
    simp only [Gh.next, Gh.setU] at h
    split at h
    · rename_i hk; simp at h; subst h hk; exact ho
    · exact h
  refine ⟨⟨⟨fun i => ?_, ⟨fun i o hi => ?_, fun i es cl hi hi2 => ?_⟩, by simp, rfl, rfl, rfl, fun κ => ?_, fun κ _ hg => ?_⟩, fun i hi hn' => ⟨hoth i (fun he => hn' k (he ▸ ho)), ?_⟩, fun κ b h => .inl ⟨κ, how κ b h⟩⟩, ⟨fun κ κ' c h h' => hw.inj κ κ' c (how κ c h) (how κ' c h'), fun κ c h => by simpa using hw.lt κ c (how κ c h), fun i hi => ?_⟩, hkp⟩
  · simp only [Gh.next, Gh.setU]; split
    · rename_i h; rw [h]; exact hn
    · omega
  · by_cases hib : i = b
    · subst hib
      simp only [World.cell?, setRow_heap w i arr arr' e _ hh, hh]
      simpa using hsame o hi
    · exact cell_of_heap (hoth i hib) o
  · have : i ≠ b := by intro he; subst he; rw [hh] at hi2; simp at hi2
    rw [hoth i this]; exact hi2
  · simp only [Gh.next, Gh.setU]; split <;> omega
  · refine hkp κ (fun e => ?_)
    simp only [Gh.next, Gh.setU, if_pos e] at hg; omega
  · simp only [Gh.next, Gh.setU]; rw [if_neg (fun (he : i = b) => hn' k (he ▸ ho))]
  · simp at hi; simp only [Gh.next, Gh.setU]; rw [if_neg (by omega)]; exact hw.zero i hi

theorem step_gen {G : Gh} {w : World} (hw : Wf G w) {k : Key} : Step G w { G with gen := fun κ => if κ = k then G.gen κ + 1 else G.gen κ } w ∧ Wf { G with gen := fun κ => if κ = k then G.gen κ + 1 else G.gen κ } w ∧ ∀ κ, Keep G w { G with gen := fun κ => if κ = k then G.gen κ + 1 else G.gen κ } w κ := by
  have hkp : ∀ κ, Keep G w { G with gen := fun κ => if κ = k then G.gen κ + 1 else G.gen κ } w κ := fun κ => ⟨rfl, fun _ _ => ⟨rfl, rfl⟩⟩
  refine ⟨⟨⟨fun _ => Nat.le_refl _, Imm.refl _ _, Nat.le_refl _, rfl, rfl, rfl, fun κ => ?_, fun κ _ _ => hkp κ⟩, fun _ _ _ => ⟨rfl, rfl⟩, fun κ b h => .inl ⟨κ, h⟩⟩, ⟨hw.inj, hw.lt, hw.zero⟩, hkp⟩
  simp only; split <;> omega

/-- append onto a slice of the call's own. -/
theorem append_own {P : Program} {t t2 ty e : TypeId} {sz bt : Nat} {z : Value} (ht : tElem P t = some e) (h2 : notInt P t2 = true) (hi : tInfo P e = some (sz, bt, some z)) (hz : z.cells.size = sz) (hbt : 0 < bt)
    {G : Gh} {w : World} {S : St} {a : Act} {k : Key} {g : Nat} {l l' : List AV} {u x : Value} {es' : List Value} (hr : Rel G w S a) (hown : RepS G w (.own k g sz l) u) (hke : e + 1 = k.2) (hgen : S.gen k = g) (hx : Src P w G.U sz x l' es') (hu : Uni sz l')
    (hb : (l.length + l'.length) * bt ≤ 140737488355328) :
    ∃ v w' G', (Builtin.append_ #[t, t2] ty #[u, x]).run P w = .ok v w' ∧ Step G w G' w' ∧ Rel G' w' (S.next k) a ∧ RepS G' w' (.own k (g + 1) sz (l ++ l')) v ∧ ∀ i, G'.ow (i, 0) = G.ow (i, 0) := by
  obtain ⟨hk0, hgle, ad, cap, es, rfl, g2, g3, g4, gn, gsp, g5, g6⟩ := hown
  have hgg : G.gen k = g := by rw [hr.gn k]; exact hgen
  have g6 := g6 hgg
  have hes' := hu.sizes hx.rep
  have h1' := hx.rep.cells hu
  have hkne : ∀ i : Nat, ((i, 0) : Key) ≠ k := by intro i he; rw [← he] at hk0; simp at hk0
  have hk2 : ∀ κ : Key, κ.2 = 0 → κ ≠ k := by intro κ h0 he; rw [he] at h0; omega
  have hl1 := vcells_length es g3
  have hl2 := vcells_length es' hes'
  have hll := g2.length
  have hll' := hx.rep.length
  have hcellsOld : ∀ c ∈ vcells es, c.oneCell' = true := by
    rcases g5 with h | ⟨_, _, _, _, h3⟩
    · rw [h]; simp
    · intro c hc
      obtain ⟨j, hj⟩ := List.mem_iff_getElem?.1 hc
      exact (h3 j c hj).2
  have hsz : ∀ e ∈ es ++ es', e.cells.size = sz := by
    intro e he; rcases List.mem_append.1 he with h | h
    · exact g3 e h
    · exact hes' e h
  have grow : cap < l.length + l'.length → (ad = none → es = []) → (∀ d, ad = some d → d.spot = none) →
      ∃ v w' G', (Builtin.append_ #[t, t2] ty #[.slice ad l.length cap, x]).run P w = .ok v w' ∧ Step G w G' w' ∧ Rel G' w' (S.next k) a ∧ RepS G' w' (.own k (g + 1) sz (l ++ l')) v ∧ ∀ i, G'.ow (i, 0) = G.ow (i, 0) := by
    intro hlt hn hsp
    obtain ⟨nc, rest, q1, q2, q3⟩ := run_append_grow (ty := ty) ht h2 hi hz hbt (w := w) (a := ad) (n := l.length) (cap := cap) (m := l'.length) (x := x) (olds := vcells es) (news := vcells es') (hx.len w rfl)
      (fun w' hw => first_of_lies g5 g3 hll hn hsp w' hw) (fun w' hw => hx.cells w' hw) hlt hb
    obtain ⟨s1, s2, s3⟩ := step_tok hr.wf (.cells (vcells es ++ vcells es' ++ rest).toArray e) hk0 (vcells (es ++ es')).length
    refine ⟨_, _, _, q3, s1, hr.nextTok s1.toExt s2 (fun κ h0 => s3 κ (hk2 κ h0)) (next_gen (G := G.setU _ _) hr.gn k _), ?_, fun i => by simp only [Gh.next, Gh.setU]; rw [if_neg (hkne i)]⟩
    refine ⟨hk0, by simp only [Gh.next, Gh.setU, if_true]; omega, some ⟨w.heap.size, 0, none⟩, nc, es ++ es', by simp, ?_, hsz, by simpa using q1, by simp, by simp, ?_, fun _ => .inr ⟨w.heap.size, 0, _, e, rfl, by simp [Gh.next], heap_alloc_new w.drew _, ?_, ?_, rfl, hke⟩⟩
    · exact RepL.mono s1.U s1.imm _ _ (g2.append hx.rep)
    · have := Lies_new (w := w.drew) (cs := vcells (es ++ es')) (rest := rest) (e := e) (n := (vcells (es ++ es')).length) G.U (by rw [vcells_append]; intro c hc; rcases List.mem_append.1 hc with h | h; exact hcellsOld c h; exact h1' c h) rfl
      rw [vcells_append] at this ⊢
      exact this
    · simp only [Nat.zero_add, List.size_toArray, List.length_append, hl1, hl2, hll, hll', q2]
      rw [← Nat.add_mul, ← Nat.add_mul]
      exact Nat.mul_le_mul_right _ (by omega)
    · simp only [Gh.next, Gh.setU, if_true, Nat.zero_add]
      rw [vcells_length _ hsz]; simp [hll, hll']
  rcases g6 with ⟨rfl, rfl⟩ | ⟨b, off, arr, e', rfl, o1, o2, o3, o4, o5⟩
  · have hl0 : l.length = 0 := by omega
    have hl : l = [] := List.length_eq_zero_iff.1 hl0
    have hes0 : es = [] := List.length_eq_zero_iff.1 (by omega)
    by_cases hm : l'.length = 0
    · have hl'0 : l' = [] := List.length_eq_zero_iff.1 hm
      have e1 := hx.len w rfl
      have e2 := hx.cells w rfl
      rw [hm] at e1 e2
      obtain ⟨s1, s2, s3⟩ := step_gen hr.wf (k := k)
      refine ⟨.slice none 0 0, w, _, ?_, s1, hr.nextTok s1.toExt s2 (fun κ _ => s3 κ) (next_gen hr.gn k 0), ?_, fun _ => rfl⟩
      · have := run_append_none (ty := ty) ht h2 hi (w := w) (x := x) e1 e2
        rw [hl0]; exact this
      · subst hl hl'0
        exact ⟨hk0, by simp only [if_true]; omega, none, 0, [], rfl, by simp [RepL], by simp, by simp, by simp, by simp, .inl (by simp [vcells]), fun _ => .inl ⟨rfl, rfl⟩⟩
    · exact grow (by omega) (fun _ => hes0) (by simp)
  · by_cases hle : l.length + l'.length ≤ cap
    · have hmul : (l.length + l'.length) * sz ≤ cap * sz := Nat.mul_le_mul_right _ hle
      rw [Nat.add_mul] at hmul
      have hst := run_storeCells_at (P := P) b (off + l.length * sz) e' (vcells es') 0 arr w o2 (by rw [hl2, hll']; omega) h1'
      simp only [Nat.add_zero] at hst
      obtain ⟨s1, s2, s3⟩ := step_room hr.wf hk0 o1 o2 (off + (l.length + l'.length) * sz) (by rw [o4, Nat.add_mul]; omega) (arr.toList.take (off + l.length * sz) ++ vcells es' ++ arr.toList.drop (off + l.length * sz + (vcells es').length)).toArray
        (fun j hj => by
          rw [o4] at hj
          have : j < (arr.toList.take (off + l.length * sz)).length := by simp; omega
          simp only [List.getElem?_toArray]
          rw [List.append_assoc, List.getElem?_append_left this, List.getElem?_take, if_pos hj]
          simp)
      refine ⟨_, _, _, run_append_place (ty := ty) ht h2 hi (hx.len w rfl) (hx.cells w rfl) hle hst, s1, hr.nextTok s1.toExt s2 (fun κ h0 => s3 κ (hk2 κ h0)) (next_gen (G := G.setU _ _) hr.gn k _), ?_, fun i => by simp only [Gh.next, Gh.setU]; rw [if_neg (hkne i)]⟩
      refine ⟨hk0, by simp only [Gh.next, Gh.setU, if_true]; omega, some ⟨b, off, none⟩, cap, es ++ es', by simp, RepL.mono s1.U s1.imm _ _ (g2.append hx.rep), hsz, by simpa using hle, by simp, by simp, ?_, fun _ => .inr ⟨b, off, _, e', rfl, by simp [Gh.next], setRow_heap w b arr _ e' _ o2, ?_, ?_, o5⟩⟩
      · rw [vcells_append]
        by_cases hzz : vcells es ++ vcells es' = []
        · exact .inl hzz
        · refine .inr ⟨b, off, rfl, ?_, fun j v hj => ⟨?_, ?_⟩⟩
          · simp only [Gh.next, Gh.setU, if_true, List.length_append, hl1, hl2, hll, hll', Nat.add_mul]; omega
          · simp only [World.cell?, setRow_heap w b arr _ e' _ o2]
            rcases Nat.lt_or_ge j (vcells es).length with hjl | hjl
            · rw [List.getElem?_append_left hjl] at hj
              have hold : w.cell? ⟨b, off + j, none⟩ = some v := by
                rcases g5 with h | ⟨b', off', q1, q2, q3⟩
                · rw [h] at hjl; simp at hjl
                · simp at q1; obtain ⟨rfl, rfl⟩ := q1; exact (q3 j v hj).1
              simp only [World.cell?, o2] at hold
              simp at hold
              have hlt : off + j < off + l.length * sz := by rw [hl1, hll] at hjl; omega
              have : off + j < (arr.toList.take (off + l.length * sz)).length := by simp; omega
              simp only [List.getElem?_toArray]
              rw [List.append_assoc, List.getElem?_append_left this, List.getElem?_take, if_pos hlt]
              simpa using hold
            · rw [List.getElem?_append_right hjl] at hj
              have htl : (arr.toList.take (off + l.length * sz)).length = off + l.length * sz := by simp; omega
              have hjj : j - (vcells es).length < (vcells es').length := by
                rcases Nat.lt_or_ge (j - (vcells es).length) (vcells es').length with h | h
                · exact h
                · simp [List.getElem?_eq_none h] at hj
              have hq : (vcells es).length = l.length * sz := by rw [hl1, hll]
              have hjj2 : off + j - (off + l.length * sz) < (vcells es').length := by omega
              simp only [List.getElem?_toArray]
              rw [List.append_assoc, List.getElem?_append_right (by rw [htl]; omega), htl, List.getElem?_append_left hjj2]
              rw [show off + j - (off + l.length * sz) = j - (vcells es).length by omega]
              simpa using hj
          · have := List.mem_of_getElem? hj
            rcases List.mem_append.1 this with h | h
            · exact hcellsOld v h
            · exact h1' v h
      · simp only [List.size_toArray, List.length_append, List.length_take, List.length_drop, Array.length_toList, hl2, hll']; omega
      · simp only [Gh.next, Gh.setU, if_true, List.length_append]
    · exact grow (by omega) (by simp) (by simp)

end Go.Eng
