/- Steps of the world: a new block, a box, a store. -/
import Derived.Test.YtdaglbjgdakmcaaEngC
set_option linter.unusedSimpArgs false
set_option linter.unusedVariables false
namespace Go.Eng

def Gh.setU (G : Gh) (b n : Nat) : Gh := { G with U := fun i => if i = b then n else G.U i }
def Gh.bind (G : Gh) (id blk : Nat) : Gh := { G with ow := fun κ => if κ = (id, 0) then some blk else G.ow κ }

theorem heap_alloc_lt (w : World) (o : Obj) {b : Nat} (h : b < w.heap.size) : (w.alloc o).heap[b]? = w.heap[b]? := by
  show (w.heap.push o)[b]? = _
  rw [Array.getElem?_push, if_neg (by omega)]

theorem heap_alloc_new (w : World) (o : Obj) : (w.alloc o).heap[w.heap.size]? = some o := by
  show (w.heap.push o)[w.heap.size]? = _
  simp

theorem cell_of_heap {w w' : World} {b : Nat} (h : w'.heap[b]? = w.heap[b]?) (o : Nat) : w'.cell? ⟨b, o, none⟩ = w.cell? ⟨b, o, none⟩ := by
  simp only [World.cell?, h]

theorem cell_lt {w : World} {b o : Nat} {v : Value} (h : w.cell? ⟨b, o, none⟩ = some v) : b < w.heap.size := by
  rcases Nat.lt_or_ge b w.heap.size with h1 | h1
  · exact h1
  · simp [World.cell?, Array.getElem?_eq_none h1] at h

theorem imm_of {U : Nat → Nat} {w w' : World} (h : ∀ b, 1 ≤ U b → w'.heap[b]? = w.heap[b]?) : Imm U w w' :=
  ⟨fun b o ho => cell_of_heap (h b (by omega)) o, fun b es cl hb hh => by rw [h b hb]; exact hh⟩

theorem imm_alloc {G : Gh} {w : World} (hw : Wf G w) (o : Obj) : Imm G.U w (w.alloc o) := by
  refine imm_of fun b hb => ?_
  rcases Nat.lt_or_ge b w.heap.size with h | h
  · exact heap_alloc_lt w o h
  · rw [hw.zero b h] at hb; omega

theorem step_alloc {G : Gh} {w : World} (hw : Wf G w) (o : Obj) (n : Nat) :
    Step G w (G.setU w.heap.size n) (w.alloc o) ∧ Wf (G.setU w.heap.size n) (w.alloc o) ∧ ∀ κ, Keep G w (G.setU w.heap.size n) (w.alloc o) κ := by
  have hk : ∀ κ, Keep G w (G.setU w.heap.size n) (w.alloc o) κ := fun κ => ⟨rfl, fun b hb => by
    have := hw.lt κ b hb
    exact ⟨heap_alloc_lt w o this, by simp only [Gh.setU]; rw [if_neg (by omega)]⟩⟩
  refine ⟨⟨⟨fun b => ?_, imm_alloc hw o, by simp, rfl, rfl, rfl, fun _ => Nat.le_refl _, fun κ _ _ => hk κ⟩, fun b hb _ => ⟨heap_alloc_lt w o hb, ?_⟩, fun κ b h => .inl ⟨κ, h⟩⟩, ⟨hw.inj, fun κ b h => ?_, fun b hb => ?_⟩, hk⟩
  · simp only [Gh.setU]; split
    · rename_i h; rw [hw.zero b (by omega)]; omega
    · omega
  · simp only [Gh.setU]; rw [if_neg (by omega)]
  · have := hw.lt κ b h; simp; omega
  · simp at hb; simp only [Gh.setU]; rw [if_neg (by omega)]; exact hw.zero b (by omega)

def PV.names (id : Nat) : PV → Bool
  | .av _ => false
  | .ptr b _ => b == id
  | .mp b => b == id

/-- Does a slot name the box? -/
def SV.names (id : Nat) : SV → Bool
  | .ptr b _ => b == id
  | .mp b => b == id
  | .fn _ fs cs => fs.any (PV.names id) || cs.any (PV.names id)
  | .son b => b == id
  | _ => false

def St.names (S : St) (id : Nat) : Bool := S.fr.any (SV.names id) || S.bx.any (fun p => p.1 == id || p.2.svs.any (SV.names id))

theorem names_keys {id : Nat} {l : List PV} (h : l.any (PV.names id) = false) : ∀ κ ∈ l.flatMap PV.keys, κ.1 ≠ id := by
  intro κ hκ
  simp only [List.mem_flatMap] at hκ
  obtain ⟨p, hp, hk⟩ := hκ
  have h1 : PV.names id p = false := by
    rw [List.any_eq_false] at h
    simpa using h p hp
  cases p <;> simp_all [PV.keys, PV.names]

theorem names_keysS {id : Nat} {s : SV} (h : s.names id = false) : ∀ κ ∈ s.keys, κ.1 ≠ id := by
  intro κ hκ
  cases s with
  | ptr b o => simp_all [SV.keys, SV.names]
  | mp b => simp_all [SV.keys, SV.names]
  | son b => simp_all [SV.keys, SV.names]
  | fn f fs cs =>
    simp only [SV.names, Bool.or_eq_false_iff] at h
    simp only [SV.keys, List.mem_append] at hκ
    rcases hκ with hκ | hκ
    · exact names_keys h.1 κ hκ
    · exact names_keys h.2 κ hκ
  | _ => simp [SV.keys] at hκ

/-- A new block that the id names from now on. -/
theorem step_bind {G : Gh} {w : World} (hw : Wf G w) (o : Obj) (id : Nat) :
    Step G w (G.bind id w.heap.size) (w.alloc o) ∧ Wf (G.bind id w.heap.size) (w.alloc o) ∧ ∀ κ, κ ≠ (id, 0) → Keep G w (G.bind id w.heap.size) (w.alloc o) κ := by
  have how : ∀ κ b, (G.bind id w.heap.size).ow κ = some b → (κ = (id, 0) ∧ b = w.heap.size) ∨ (κ ≠ (id, 0) ∧ G.ow κ = some b) := by
    intro κ b h
    simp only [Gh.bind] at h
    split at h
    · rename_i hk; simp at h; exact .inl ⟨hk, h.symm⟩
    · rename_i h1; exact .inr ⟨h1, h⟩
  have hkp : ∀ κ, κ ≠ (id, 0) → Keep G w (G.bind id w.heap.size) (w.alloc o) κ := fun κ hκ => ⟨by simp only [Gh.bind]; rw [if_neg hκ], fun b hb => ⟨heap_alloc_lt w o (hw.lt κ b hb), rfl⟩⟩
  refine ⟨⟨⟨fun b => Nat.le_refl _, imm_alloc hw o, by simp, rfl, rfl, rfl, fun _ => Nat.le_refl _, fun κ h0 _ => hkp κ (by intro e; rw [e] at h0; simp at h0)⟩, fun b hb _ => ⟨heap_alloc_lt w o hb, rfl⟩, fun κ b h => ?_⟩, ⟨fun κ κ' b h h' => ?_, fun κ b h => ?_, fun b hb => ?_⟩, hkp⟩
  · rcases how κ b h with ⟨_, rfl⟩ | ⟨_, h1⟩
    · exact .inr (Nat.le_refl _)
    · exact .inl ⟨κ, h1⟩
  · rcases how κ b h with ⟨h1, h2⟩ | ⟨h1, h2⟩ <;> rcases how κ' b h' with ⟨h3, h4⟩ | ⟨h3, h4⟩
    · rw [h1, h3]
    · have := hw.lt κ' b h4; omega
    · have := hw.lt κ b h2; omega
    · exact hw.inj κ κ' b h2 h4
  · rcases how κ b h with ⟨_, rfl⟩ | ⟨_, h1⟩
    · simp
    · have := hw.lt κ b h1; simp; omega
  · simp at hb; exact hw.zero b (by omega)

theorem Rel.bind {G : Gh} {w : World} {S : St} {a : Act} (h : Rel G w S a) {id : Nat} (hn : S.names id = false) (o : Obj) : Rel (G.bind id w.heap.size) (w.alloc o) S a := by
  obtain ⟨s1, s2, s3⟩ := step_bind h.wf o id
  simp only [St.names, Bool.or_eq_false_iff] at hn
  obtain ⟨n1, n2⟩ := hn
  have hne : ∀ κ : Key, κ.1 ≠ id → κ ≠ (id, 0) := fun κ hκ e => hκ (by rw [e])
  refine ⟨s2, h.size, fun t s ht => ?_, fun p hp => ?_, h.gn, h.defers⟩
  · have : s.names id = false := by rw [List.any_eq_false] at n1; simpa using n1 s (List.mem_of_getElem? ht)
    exact (h.fr t s ht).persist s1.toExt (fun κ hκ => (s3 κ (hne κ (names_keysS this κ hκ))).1)
  · have hp' : p.1 ≠ id ∧ p.2.svs.any (SV.names id) = false := by rw [List.any_eq_false] at n2; simpa using n2 p hp
    refine (h.bx p hp).persist s1.toExt (s3 _ (hne _ hp'.1)) (fun κ hκ => ?_)
    simp only [List.mem_flatMap] at hκ
    obtain ⟨s, hs, hs2⟩ := hκ
    have : s.names id = false := by have := hp'.2; rw [List.any_eq_false] at this; simpa using this s hs
    exact (s3 κ (hne κ (names_keysS this κ hs2))).1

def St.addBox (S : St) (id : Nat) (x : ABox) : St := { S with bx := (id, x) :: S.bx }

theorem RepSs_av {G : Gh} {w : World} : ∀ {l : List AV} {us : List Value}, RepL G.U w l us → RepSs G w (l.map .av) us
  | [], _, h => by simp only [RepL] at h; exact h
  | x :: l, us, h => by
    simp only [RepL] at h
    obtain ⟨u, us', h1, h2, h3⟩ := h
    exact ⟨u, us', h1, h2, RepSs_av h3⟩

/-- A new box with known cells. -/
theorem Rel.newBox {G : Gh} {w : World} {S : St} {a : Act} (h : Rel G w S a) {id : Nat} (hn : S.names id = false) (e : TypeId) {l : List SV} {us : List Value} (hs : RepSs G w l us) (hl : ∀ s ∈ l, s.names id = false) (h1 : ∀ x ∈ us, x.oneCell' = true) :
    Step G w (G.bind id w.heap.size) (w.alloc (.cells us.toArray e)) ∧ Rel (G.bind id w.heap.size) (w.alloc (.cells us.toArray e)) (S.addBox id (.cells e l)) a ∧
      RepS (G.bind id w.heap.size) (w.alloc (.cells us.toArray e)) (.ptr id 0) (.pointer (some ⟨w.heap.size, 0, none⟩)) := by
  obtain ⟨s1, s2, s3⟩ := step_bind h.wf (.cells us.toArray e) id
  have hr := h.bind hn (.cells us.toArray e)
  have hne : ∀ κ : Key, κ.1 ≠ id → κ ≠ (id, 0) := fun κ hκ e => hκ (by rw [e])
  refine ⟨s1, ⟨hr.wf, hr.size, hr.fr, fun p hp => ?_, hr.gn, hr.defers⟩, ⟨w.heap.size, by simp [Gh.bind], rfl⟩⟩
  simp only [St.addBox, List.mem_cons] at hp
  rcases hp with rfl | hp
  · refine ⟨w.heap.size, us.toArray, by simp [Gh.bind], heap_alloc_new w _, h.wf.zero _ (Nat.le_refl _), ?_, by simpa using h1⟩
    suffices hh : ∀ (l : List SV) (vs : List Value), (∀ s ∈ l, s.names id = false) → RepSs G w l vs → RepSs (G.bind id w.heap.size) (w.alloc (.cells us.toArray e)) l vs by exact hh l us hl hs
    intro l
    induction l with
    | nil => intro vs _ h; exact h
    | cons s l ih =>
      intro vs hl h
      obtain ⟨u, vs', e1, e2, e3⟩ := h
      exact ⟨u, vs', e1, e2.persist s1.toExt (fun κ hκ => (s3 κ (hne κ (names_keysS (hl s (by simp)) κ hκ))).1), ih vs' (fun x hx => hl x (by simp [hx])) e3⟩
  · exact hr.bx p hp

def St.setBox (S : St) (id : Nat) (x : ABox) : St := { S with bx := S.bx.map (fun p => if p.1 = id then (p.1, x) else p) }

theorem lookup_mem {l : List (Nat × ABox)} {b : Nat} {x : ABox} (h : l.lookup b = some x) : (b, x) ∈ l := by
  induction l with
  | nil => simp at h
  | cons p l ih =>
    obtain ⟨k, y⟩ := p
    simp only [List.lookup_cons] at h
    split at h
    · rename_i hk; simp at hk h; subst hk h; simp
    · simp [ih h]

theorem step_setRow {G : Gh} {w : World} (hw : Wf G w) {id : Nat} {blk : Nat} {arr : Array Value} {e : TypeId} {fr : Nat × Nat} (ho : G.ow (id, 0) = some blk) (hh : w.heap[blk]? = some (.cells arr e fr)) (hU : G.U blk = 0) (arr' : Array Value) :
    Step G w G (w.setRow blk arr') ∧ Wf G (w.setRow blk arr') ∧ ∀ κ', κ' ≠ (id, 0) → Keep G w G (w.setRow blk arr') κ' := by
  have hoth : ∀ k, k ≠ blk → (w.setRow blk arr').heap[k]? = w.heap[k]? := fun k hk => setRow_other w blk k arr' hk
  have hkp : ∀ κ', κ' ≠ (id, 0) → Keep G w G (w.setRow blk arr') κ' := fun κ' hk' => ⟨rfl, fun b hb => ⟨hoth b (fun he => by subst he; exact hk' (hw.inj κ' (id, 0) b hb ho)), rfl⟩⟩
  refine ⟨⟨⟨fun b => Nat.le_refl _, imm_of (fun b hb => hoth b (fun he => by subst he; omega)), by simp, rfl, rfl, rfl, fun _ => Nat.le_refl _, fun κ h0 _ => hkp κ (by intro e; rw [e] at h0; simp at h0)⟩, fun b hb hn => ⟨hoth b (fun he => hn _ (he ▸ ho)), rfl⟩, fun κ b h => .inl ⟨κ, h⟩⟩, ⟨hw.inj, fun κ b h => ?_, fun b hb => ?_⟩, hkp⟩
  · simpa using hw.lt κ b h
  · exact hw.zero b (by simpa using hb)

/-- A store into a box. -/
theorem Rel.storeBox {G : Gh} {w : World} {S : St} {a : Act} (h : Rel G w S a) {b : Nat} {ty : TypeId} {l : List SV} (hb : S.bx.lookup b = some (.cells ty l)) {blk : Nat} (ho : G.ow (b, 0) = some blk) (o : Nat) {xs : List SV} {vs : List Value}
    (hs : RepSs G w xs vs) (h1 : ∀ x ∈ vs, x.oneCell' = true) (hle : o + xs.length ≤ l.length) :
    ∃ w', (∀ P : Program, (storeCells ⟨blk, o, none⟩ vs).run P w = .ok () w') ∧ Step G w G w' ∧ Rel G w' (S.setBox b (.cells ty (l.take o ++ xs ++ l.drop (o + xs.length)))) a := by
  obtain ⟨blk', arr, g1, g2, g3, g4, g5⟩ := h.bx _ (lookup_mem hb)
  simp only at g1
  rw [ho] at g1; simp at g1; subst g1
  have hvl := hs.length
  have hal : arr.size = l.length := by simpa using g4.length
  refine ⟨w.setRow blk (arr.toList.take o ++ vs ++ arr.toList.drop (o + vs.length)).toArray, fun P => ?_, ?_⟩
  · have := run_storeCells_at (P := P) blk o ty vs 0 arr w g2 (by omega) h1
    simpa using this
  · obtain ⟨s1, s2, s3⟩ := step_setRow h.wf ho g2 g3 (arr.toList.take o ++ vs ++ arr.toList.drop (o + vs.length)).toArray
    have hper : ∀ s u, RepS G w s u → RepS G (w.setRow blk (arr.toList.take o ++ vs ++ arr.toList.drop (o + vs.length)).toArray) s u :=
      fun s u hs => hs.persist s1.toExt (fun _ _ => rfl)
    refine ⟨s1, s2, h.size, fun t s ht => hper _ _ (h.fr t s ht), fun p hp => ?_, h.gn, h.defers⟩
    simp only [St.setBox, List.mem_map] at hp
    obtain ⟨q, hq, rfl⟩ := hp
    split
    · rename_i hqb
      refine ⟨blk, _, by rw [hqb]; exact ho, setRow_heap w blk arr _ ty _ g2, g3, ?_, ?_⟩
      · have q1 : RepSs G w (l.take o ++ xs ++ l.drop (o + xs.length)) (arr.toList.take o ++ vs ++ arr.toList.drop (o + vs.length)) := by
          rw [hvl]; exact ((g4.take o).append hs).append (g4.drop _)
        have := q1.map (φ := id) (G' := G) (w' := w.setRow blk (arr.toList.take o ++ vs ++ arr.toList.drop (o + vs.length)).toArray) hper
        simpa using this
      · intro x hx
        simp only [List.mem_append] at hx
        rcases hx with (hx | hx) | hx
        · exact g5 x (List.mem_of_mem_take hx)
        · exact h1 x hx
        · exact g5 x (List.mem_of_mem_drop hx)
    · rename_i hqb
      exact (h.bx q hq).persist s1.toExt (s3 (q.1, 0) (by simpa using hqb)) (fun _ _ => rfl)

end Go.Eng
