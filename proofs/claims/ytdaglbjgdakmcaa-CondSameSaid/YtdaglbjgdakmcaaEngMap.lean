/- Maps whose keys are strings. -/
import Derived.Test.YtdaglbjgdakmcaaEngI
import Derived.MapKept
set_option linter.unusedSimpArgs false
set_option linter.unusedVariables false
namespace Go.Eng

/-- Where a key stands. -/
def kpos : List ByteArray → ByteArray → Option Nat
  | [], _ => none
  | k :: ks, s => if s == k then some 0 else (kpos ks s).map (· + 1)
def mget (z : AV) (ks : List ByteArray) (vs : List AV) (s : ByteArray) : AV :=
  match kpos ks s with
  | some j => vs.getD j z
  | none => z
def mgetT (ok : Bool) (z : AV) (ks : List ByteArray) (vs : List AV) (s : ByteArray) : AV :=
  if ok then .tup [mget z ks vs s, .val (.bool (kpos ks s).isSome)] else mget z ks vs s
def mputK (ks : List ByteArray) (s : ByteArray) : List ByteArray :=
  match kpos ks s with
  | some _ => ks
  | none => ks ++ [s]
def mputV (ks : List ByteArray) (vs : List AV) (s : ByteArray) (v : AV) : List AV :=
  match kpos ks s with
  | some j => vs.set j v
  | none => vs ++ [v]

theorem bytes_eq {a b : ByteArray} : (a == b) = true ↔ a = b := MapKept.bytes_beq a b

theorem kpos_get {s : ByteArray} : ∀ {ks : List ByteArray} {j : Nat}, kpos ks s = some j → ks[j]? = some s
  | [], j, h => by simp [kpos] at h
  | k :: ks, j, h => by
    simp only [kpos] at h
    split at h
    · rename_i hk; simp at h; subst h; simp [bytes_eq.1 hk]
    · simp only [Option.map_eq_some_iff] at h
      obtain ⟨i, h1, rfl⟩ := h
      simpa using kpos_get h1

theorem findNow_str (s : ByteArray) : ∀ (es : List MapEntry) (ks : List ByteArray) (i : Nat), es.map (·.key) = ks.map .string →
    Instr.findNow .string (.string s) es i = some ((kpos ks s).bind (fun j => (es[j]?).map (fun e => (i + j, e.val))))
  | [], ks, i, h => by
    cases ks with
    | nil => rfl
    | cons k ks => simp at h
  | e :: es, ks, i, h => by
    cases ks with
    | nil => simp at h
    | cons k ks =>
      simp only [List.map_cons, List.cons.injEq] at h
      obtain ⟨h1, h2⟩ := h
      simp only [Instr.findNow, h1, Instr.sameNow, kpos]
      cases hk : s == k with
      | true => simp
      | false =>
        simp only [Bool.false_eq_true, if_false]
        rw [findNow_str s es ks (i + 1) h2]
        cases kpos ks s with
        | none => rfl
        | some j => simp [Nat.add_assoc, Nat.add_comm 1 j]

section
variable {P : Program}

theorem isKey_str (s : ByteArray) : MapKept.IsKey .string (.string s) := by simp [MapKept.IsKey]

theorem map_und {t k e : TypeId} (h : tMap P t = some (k, e)) : P.underlying t = some (.map k e) := by
  unfold tMap at h; split at h
  · rename_i hh; simp at h; obtain ⟨rfl, rfl⟩ := h; exact hh
  · simp at h
theorem str_und {t : TypeId} (h : tStr P t = true) : P.underlying t = some .string := by
  unfold tStr at h; split at h
  · assumption
  · simp at h

theorem run_lookup_str {t k e : TypeId} {sz bt : Nat} {z : Value} (ht : tMap P t = some (k, e)) (hk : tStr P k = true) (hz : tInfo P e = some (sz, bt, some z)) {w : World} {b : Nat} {ents : Array MapEntry} {clock : Nat}
    (hb : w.heap[b]? = some (.map ents clock)) {ks : List ByteArray} (hks : ents.toList.map (·.key) = ks.map .string) (s : ByteArray) (ok : Bool) {U : Nat → Nat} {vs : List AV} (hvs : RepL U w vs (ents.toList.map (·.val))) (h1 : z.oneCell' = true) :
    ∃ v, (Instr.lookup t (.map (some b)) (.string s) ok).run P w = .ok v w ∧ Rep U w (mgetT ok (constAV z) ks vs s) v := by
  have hf := findNow_str s ents.toList ks 0 hks
  have hlen : ents.toList.length = ks.length := by simpa using congrArg List.length hks
  have mk : ∀ (v : Value), Rep U w (mget (constAV z) ks vs s) v → ∀ fnd : Bool, fnd = (kpos ks s).isSome → Rep U w (mgetT ok (constAV z) ks vs s) (if ok then .tuple #[v, .bool fnd] else v) := by
    intro v hv fnd hfnd
    unfold mgetT
    cases ok with
    | false => exact hv
    | true =>
      simp only [if_true, Rep]
      refine ⟨_, rfl, ?_⟩
      simp only [RepL]
      exact ⟨v, [.bool fnd], rfl, hv, .bool fnd, [], rfl, by simp only [Rep]; rw [hfnd]; exact ⟨rfl, rfl⟩, rfl⟩
  cases hp : kpos ks s with
  | none =>
    rw [hp] at hf
    simp only [Option.bind_none] at hf
    refine ⟨if ok then .tuple #[z, .bool false] else z, ?_, mk z ?_ false (by rw [hp]; rfl)⟩
    · cases ok <;> simp [Instr.lookup, run_underlying' (map_und ht), MapKept.run_getObj_map hb, MapKept.run_checkKey (str_und hk) (isKey_str s), MapKept.run_findKey (str_und hk) hf, run_zeroValue' hz]
    · unfold mget; rw [hp]; exact Rep_const z h1
  | some j =>
    have hj := kpos_get hp
    have hjl : j < ks.length := by
      rcases Nat.lt_or_ge j ks.length with h | h
      · exact h
      · simp [List.getElem?_eq_none h] at hj
    have hje : j < ents.toList.length := by omega
    rw [hp] at hf
    simp only [Option.bind_some, List.getElem?_eq_getElem hje, Option.map_some] at hf
    refine ⟨if ok then .tuple #[(ents.toList[j]'hje).val, .bool true] else (ents.toList[j]'hje).val, ?_, mk _ ?_ true (by rw [hp]; rfl)⟩
    · cases ok <;> simp [Instr.lookup, run_underlying' (map_und ht), MapKept.run_getObj_map hb, MapKept.run_checkKey (str_und hk) (isKey_str s), MapKept.run_findKey (str_und hk) hf]
    · have hvl : vs.length = ents.toList.length := by rw [← hvs.length]; simp
      have hjv : j < vs.length := by omega
      unfold mget; rw [hp]
      simp only [List.getD_eq_getElem?_getD, List.getElem?_eq_getElem hjv, Option.getD_some]
      obtain ⟨u, e1, e2⟩ := hvs.get j vs[j] (List.getElem?_eq_getElem hjv)
      simp only [List.getElem?_map, List.getElem?_eq_getElem hje, Option.map_some, Option.some.injEq] at e1
      rw [e1]; exact e2

theorem sound_lookup_mp {o : Oper} {S : St} {t k e : TypeId} {sz bt : Nat} {z : Value} {x i : Operand} {ok : Bool} {b : Nat} {ks : List ByteArray} {vs : List AV} {s : ByteArray} (ho : o.op = .lookup t x i ok) (hx : S.ev x = .mp b) (hi : S.ev i = .av (.val (.string s)))
    (ht : tMap P t = some (k, e)) (hk : tStr P k = true) (hz : tInfo P e = some (sz, bt, some z)) (h1 : z.oneCell' = true) (hb : S.bx.lookup b = some (.map ks vs)) : Sound P o S ⟨True, .av (mgetT ok (constAV z) ks vs s), S⟩ :=
  Sound.still fun _ G w a hr => by
    have h2 := hr.ev x; rw [hx] at h2
    obtain ⟨blk, h3, h4⟩ := h2
    have h5 := hr.ev i; rw [hi] at h5; simp only [RepS, Rep] at h5
    obtain ⟨blk', ents, clock, g1, g2, g3, g4, g5, g6⟩ := hr.bx _ (lookup_mem hb)
    simp only at g1
    rw [h3] at g1; simp at g1; subst g1
    obtain ⟨v, e1, e2⟩ := run_lookup_str (P := P) ht hk hz g2 g4 s ok g5 h1
    exact ⟨v, by simp only [execOp, ho, h4, h5.1, Sem.run_bind, e1]; rfl, e2⟩

theorem sound_lookup_rm {o : Oper} {S : St} {t k e : TypeId} {sz bt : Nat} {z : Value} {x i : Operand} {ok : Bool} {ks : List ByteArray} {vs : List AV} {s : ByteArray} (ho : o.op = .lookup t x i ok) (hx : S.ev x = .av (.rm ks vs)) (hi : S.ev i = .av (.val (.string s)))
    (ht : tMap P t = some (k, e)) (hk : tStr P k = true) (hz : tInfo P e = some (sz, bt, some z)) (h1 : z.oneCell' = true) : Sound P o S ⟨True, .av (mgetT ok (constAV z) ks vs s), S⟩ :=
  Sound.still fun _ G w a hr => by
    have h2 := hr.ev x; rw [hx] at h2; simp only [RepS, Rep] at h2
    obtain ⟨b, ents, clock, h3, h4, h6, h7, h8⟩ := h2
    have h5 := hr.ev i; rw [hi] at h5; simp only [RepS, Rep] at h5
    obtain ⟨v, e1, e2⟩ := run_lookup_str (P := P) ht hk hz h6 h7 s ok h8 h1
    exact ⟨v, by simp only [execOp, ho, h3, h5.1, Sem.run_bind, e1]; rfl, e2⟩

def St.newMap (S : St) (id : Nat) : St := S.addBox id (.map [] [])

theorem sound_makeMap {o : Oper} {S : St} {t k e : TypeId} {r : Option Operand} {id : Nat} (ho : o.op = .makeMap t r) (ht : tMap P t = some (k, e)) (hr : ∀ x, r = some x → ∃ kd n, S.ev x = .av (.val (.int kd n))) (hid : id < 1000) (hn : S.names id = false) :
    Sound P o S ⟨True, .mp id, S.addBox id (.map [] [])⟩ := by
  intro _ G w a hrel
  obtain ⟨s1, s2, s3⟩ := step_bind hrel.wf (.map #[] 0) id
  have hrb := hrel.bind hn (.map #[] 0)
  refine ⟨.value (.map (some w.heap.size)), .map (some w.heap.size), _, _, ?_, .inl rfl, s1, ⟨hrb.wf, hrb.size, hrb.fr, fun p hp => ?_, hrb.gn, hrb.defers⟩, ⟨w.heap.size, by simp [Gh.bind], rfl⟩, fun i hi => ?_⟩
  · cases r with
    | none => simp [execOp, ho, Instr.makeMap]
    | some x =>
      obtain ⟨kd, n, hx⟩ := hr x rfl
      have h2 := hrel.ev x; rw [hx] at h2; simp only [RepS, Rep] at h2
      simp [execOp, ho, Instr.makeMap, run_underlying' (map_und ht), h2.1, asInt, asIntOf]
  · simp only [St.addBox, List.mem_cons] at hp
    rcases hp with rfl | hp
    · exact ⟨w.heap.size, #[], 0, by simp [Gh.bind], heap_alloc_new w _, hrel.wf.zero _ (Nat.le_refl _), by simp, by simp [RepL], by simp⟩
    · exact hrb.bx p hp
  · simp only [Gh.bind]; rw [if_neg (by intro h; simp only [Prod.mk.injEq] at h; omega)]

theorem step_setObj {G : Gh} {w : World} (hw : Wf G w) {id : Nat} {blk : Nat} {ents : Array MapEntry} {clock : Nat} (ho : G.ow (id, 0) = some blk) (hh : w.heap[blk]? = some (.map ents clock)) (hU : G.U blk = 0) (ob : Obj) :
    Step G w G { w with heap := w.heap.setIfInBounds blk ob } ∧ Wf G { w with heap := w.heap.setIfInBounds blk ob } ∧ ∀ κ', κ' ≠ (id, 0) → Keep G w G { w with heap := w.heap.setIfInBounds blk ob } κ' := by
  have hoth : ∀ k, k ≠ blk → (w.heap.setIfInBounds blk ob)[k]? = w.heap[k]? := fun k hk => (MapKept.heap_set hh).2 k hk
  have hkp : ∀ κ', κ' ≠ (id, 0) → Keep G w G { w with heap := w.heap.setIfInBounds blk ob } κ' := fun κ' hk' => ⟨rfl, fun b hb => ⟨hoth b (fun he => by subst he; exact hk' (hw.inj κ' (id, 0) b hb ho)), rfl⟩⟩
  refine ⟨⟨⟨fun b => Nat.le_refl _, imm_of (fun b hb => hoth b (fun he => by subst he; omega)), by simp, rfl, rfl, rfl, fun _ => Nat.le_refl _, fun κ h0 _ => hkp κ (by intro e; rw [e] at h0; simp at h0)⟩, fun b hb hn => ⟨hoth b (fun he => hn _ (he ▸ ho)), rfl⟩, fun κ b h => .inl ⟨κ, h⟩⟩, ⟨hw.inj, fun κ b h => ?_, fun b hb => ?_⟩, hkp⟩
  · simpa using hw.lt κ b h
  · exact hw.zero b (by simpa using hb)

theorem run_mapUpdate_str {t k e : TypeId} (ht : tMap P t = some (k, e)) (hk : tStr P k = true) {w : World} {b : Nat} {ents : Array MapEntry} {clock : Nat}
    (hb : w.heap[b]? = some (.map ents clock)) {ks : List ByteArray} (hks : ents.toList.map (·.key) = ks.map .string) (s : ByteArray) (v : Value) (hborn : ∀ e ∈ ents.toList, e.born < clock) :
    ∃ (ents' : Array MapEntry) (clock' : Nat), (Instr.mapUpdate t (.map (some b)) (.string s) v).run P w = .ok () { w with heap := w.heap.setIfInBounds b (.map ents' clock') } ∧ ents'.toList.map (·.key) = (mputK ks s).map .string ∧
      (∀ e ∈ ents'.toList, e.born < clock') ∧ ents'.toList.map (·.val) = (match kpos ks s with | some j => (ents.toList.map (·.val)).set j v | none => ents.toList.map (·.val) ++ [v]) := by
  have hf := findNow_str s ents.toList ks 0 hks
  have hlen : ents.toList.length = ks.length := by simpa using congrArg List.length hks
  cases hp : kpos ks s with
  | none =>
    rw [hp] at hf
    simp only [Option.bind_none] at hf
    refine ⟨ents.push { key := .string s, val := v, born := clock }, clock + 1, ?_, ?_, ?_, ?_⟩
    · simp [Instr.mapUpdate, run_underlying' (map_und ht), MapKept.run_getObj_map hb, MapKept.run_checkKey (str_und hk) (isKey_str s), MapKept.run_findKey (str_und hk) hf, MapKept.run_setObj_map _ hb]
    · simp only [mputK, hp, Array.toList_push, List.map_append, hks]; simp
    · intro e he
      simp only [Array.toList_push, List.mem_append, List.mem_singleton] at he
      rcases he with he | rfl
      · have := hborn e he; omega
      · simp
    · simp
  | some j =>
    have hj := kpos_get hp
    have hjl : j < ks.length := by
      rcases Nat.lt_or_ge j ks.length with h | h
      · exact h
      · simp [List.getElem?_eq_none h] at hj
    have hje : j < ents.toList.length := by omega
    have hje' : j < ents.size := by simpa using hje
    rw [hp] at hf
    simp only [Option.bind_some, List.getElem?_eq_getElem hje, Option.map_some] at hf
    have hkey : (ents.toList[j]'hje).key = .string s := by
      have := congrArg (fun l => l[j]?) hks
      simp only [List.getElem?_map, List.getElem?_eq_getElem hje, hj, Option.map_some, Option.some.injEq] at this
      exact this
    have hkey' : ents[j].key = .string s := by simpa using hkey
    have hmod : ∀ f : MapEntry → MapEntry, (ents.modify j f).toList = ents.toList.modify j f := fun f => by simp
    refine ⟨ents.modify j (fun e => { e with key := .string s, val := v }), clock, ?_, ?_, ?_, ?_⟩
    · simp [Instr.mapUpdate, run_underlying' (map_und ht), MapKept.run_getObj_map hb, MapKept.run_checkKey (str_und hk) (isKey_str s), MapKept.run_findKey (str_und hk) hf, hje', hkey', MapKept.run_keyThatStays (isKey_str s), MapKept.run_setObj_map _ hb]
    · simp only [mputK, hp, hmod, ← hks]
      apply List.ext_getElem?
      intro i
      simp only [List.getElem?_map, List.getElem?_modify]
      cases he : ents.toList[i]? with
      | none => simp
      | some e =>
        simp only [Option.map_some, Option.map_eq_map]
        split
        · rename_i hij
          subst hij
          rw [List.getElem?_eq_getElem hje] at he
          simp only [Option.some.injEq] at he
          subst he; simp only [Option.map_some]; rw [hkey]
        · simp
    · intro e he
      simp only [hmod] at he
      obtain ⟨i, hi⟩ := List.mem_iff_getElem?.1 he
      simp only [List.getElem?_modify] at hi
      cases hx : ents.toList[i]? with
      | none => rw [hx] at hi; simp at hi
      | some e0 =>
        rw [hx] at hi
        have h0 := hborn e0 (List.mem_of_getElem? hx)
        simp only [Option.map_eq_map, Option.map_some] at hi
        split at hi
        · simp only [Option.some.injEq] at hi; rw [← hi]; exact h0
        · simp only [id_eq, Option.some.injEq] at hi; rw [← hi]; exact h0
    · simp only [hmod]
      apply List.ext_getElem?
      intro i
      simp only [List.getElem?_map, List.getElem?_modify, List.getElem?_set, List.length_map]
      by_cases hij : j = i
      · subst hij
        simp [hje']
      · rw [if_neg hij]
        cases he : ents.toList[i]? with
        | none => simp
        | some e => simp [hij]

theorem sound_mapUpdate {o : Oper} {S : St} {t k e : TypeId} {x i y : Operand} {b : Nat} {ks : List ByteArray} {vs : List AV} {s : ByteArray} {v : AV} (ho : o.op = .mapUpdate t x i y) (hx : S.ev x = .mp b) (hi : S.ev i = .av (.val (.string s))) (hy : (S.ev y).toAV = some v)
    (ht : tMap P t = some (k, e)) (hk : tStr P k = true) (hb : S.bx.lookup b = some (.map ks vs)) : Sound P o S ⟨True, undefS, S.setBox b (.map (mputK ks s) (mputV ks vs s v))⟩ := by
  intro _ G w a hr
  have h2 := hr.ev x; rw [hx] at h2
  obtain ⟨blk, h3, h4⟩ := h2
  have h5 := hr.ev i; rw [hi] at h5; simp only [RepS, Rep] at h5
  have h6 := (hr.ev y).toAV hy
  obtain ⟨blk', ents, clock, g1, g2, g3, g4, g5, g6⟩ := hr.bx _ (lookup_mem hb)
  simp only at g1
  rw [h3] at g1; simp at g1; subst g1
  obtain ⟨ents', clock', e1, e2, e3, e4⟩ := run_mapUpdate_str (P := P) ht hk g2 g4 s (a.eval y) g6
  obtain ⟨s1, s2, s3⟩ := step_setObj hr.wf h3 g2 g3 (.map ents' clock')
  have hper : ∀ s u, RepS G w s u → RepS G { w with heap := w.heap.setIfInBounds blk (.map ents' clock') } s u := fun s u hs => hs.persist s1.toExt (fun _ _ => rfl)
  refine ⟨.skip, undef, _, G, ?_, .inr ⟨rfl, rfl⟩, s1, ⟨s2, hr.size, fun t s ht => hper _ _ (hr.fr t s ht), fun p hp => ?_, hr.gn, hr.defers⟩, ?_, fun _ _ => rfl⟩
  · simp only [execOp, ho, h4, h5.1, Sem.run_bind, e1]; rfl
  · simp only [St.setBox, List.mem_map] at hp
    obtain ⟨q, hq, rfl⟩ := hp
    split
    · rename_i hqb
      refine ⟨blk, ents', clock', by rw [hqb]; exact h3, (MapKept.heap_set g2).1, g3, e2, ?_, e3⟩
      rw [e4]
      unfold mputV
      have g5' := RepL.mono s1.U s1.imm _ _ g5
      have h6' := Rep.mono s1.U s1.imm _ _ h6
      cases kpos ks s with
      | none => exact g5'.append (by simp only [RepL]; exact ⟨_, [], rfl, h6', rfl⟩)
      | some j => exact g5'.set j h6'
    · rename_i hqb
      exact (hr.bx q hq).persist s1.toExt (s3 (q.1, 0) (by simpa using hqb)) (fun _ _ => rfl)
  · simp only [undefS, RepS, Rep]; exact ⟨#[], rfl, by simp [RepL]⟩

end
end Go.Eng
