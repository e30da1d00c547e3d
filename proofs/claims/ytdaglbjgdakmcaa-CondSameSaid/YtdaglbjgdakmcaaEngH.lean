/- A literal slice; append. -/
import Derived.Test.YtdaglbjgdakmcaaEngG
set_option linter.unusedSimpArgs false
set_option linter.unusedVariables false
namespace Go.Eng

theorem foldset_mid {α : Type} : ∀ (xs : List α) (k : Nat) (pre rest : List α), xs.length ≤ rest.length → k = 0 →
    (xs.zipIdx k).foldl (fun c (p : α × Nat) => c.set (pre.length + p.2) p.1) (pre ++ rest) = pre ++ xs ++ rest.drop xs.length := by
  have key : ∀ (xs : List α) (k off : Nat) (pre rest : List α), xs.length ≤ rest.length → off + k = pre.length →
      (xs.zipIdx k).foldl (fun c (p : α × Nat) => c.set (off + p.2) p.1) (pre ++ rest) = pre ++ xs ++ rest.drop xs.length := by
    intro xs
    induction xs with
    | nil => intro k off pre rest _ _; simp
    | cons x xs ih =>
      intro k off pre rest h1 h2
      cases rest with
      | nil => simp at h1
      | cons r rest =>
        simp only [List.zipIdx_cons, List.foldl_cons]
        have e1 : (pre ++ r :: rest).set (off + k) x = (pre ++ [x]) ++ rest := by
          rw [h2, List.set_append_right _ _ (Nat.le_refl _)]; simp
        rw [e1, ih (k + 1) off (pre ++ [x]) rest (by simp at h1; omega) (by simp; omega)]
        simp
  intro xs k pre rest h1 hk
  subst hk
  exact key xs 0 pre.length pre rest h1 (by omega)

theorem fill_row (sz : Nat) : ∀ (vs : List Value) (k : Nat) (us : Array Value) (pre rest : List Value), us.toList = pre ++ rest → pre.length = k * sz → (∀ v ∈ vs, v.cells.size = sz) → rest.length = vs.length * sz →
    ∃ us', Instr.fill (fun i => some (i * sz, sz)) us ((vs.zipIdx k).map (fun p => (p.2, p.1))) = some us' ∧ us'.toList = pre ++ vcells vs
  | [], k, us, pre, rest, h, _, _, hr => by
    simp at hr; subst hr
    exact ⟨us, rfl, by simpa [vcells] using h⟩
  | v :: vs, k, us, pre, rest, h, hp, hs, hr => by
    have hv := hs v (by simp)
    have hus : us.size = k * sz + (vs.length + 1) * sz := by
      have := congrArg List.length h
      simp only [Array.length_toList, List.length_append, hp, hr, List.length_cons] at this
      exact this
    have hmul : (vs.length + 1) * sz = vs.length * sz + sz := Nat.succ_mul _ _
    have e1 := fill_array (k * sz) v.cells.toList 0 us
    rw [h, ← hp, foldset_mid v.cells.toList 0 pre rest (by simp only [Array.length_toList, hv, hr, List.length_cons]; omega) rfl, hp] at e1
    have hfold : (v.cells.zipIdx.foldl (fun cs (x : Value × Nat) => cs.setIfInBounds (k * sz + x.2) x.1) us) = ((v.cells.toList.zipIdx 0).foldl (fun c (p : Value × Nat) => c.setIfInBounds (k * sz + p.2) p.1) us) := by
      rw [← Array.foldl_toList]; simp
    obtain ⟨us', f1, f2⟩ := fill_row sz vs (k + 1) (v.cells.zipIdx.foldl (fun cs (x : Value × Nat) => cs.setIfInBounds (k * sz + x.2) x.1) us) (pre ++ v.cells.toList) (rest.drop v.cells.toList.length)
      (by rw [hfold, e1]) (by simp only [List.length_append, hp, Array.length_toList, hv, Nat.succ_mul]) (fun x hx => hs x (by simp [hx])) (by simp only [List.length_drop, hr, Array.length_toList, hv, List.length_cons]; omega)
    refine ⟨us', ?_, by rw [f2]; simp [vcells]⟩
    simp only [List.zipIdx_cons, List.map_cons, Instr.fill]
    rw [if_neg (by simp only [hv, ne_eq, not_true_eq_false, decide_false, Bool.false_or, decide_eq_true_eq]; omega)]
    exact f1

def allAVop (S : St) : List Operand → Option (List AV)
  | [] => some []
  | x :: l => match (S.ev x).toAV, allAVop S l with
    | some y, some r => some (y :: r)
    | _, _ => none

theorem allAVop_sound {G : Gh} {w : World} {S : St} {a : Act} (hr : Rel G w S a) : ∀ {l : List Operand} {r : List AV}, allAVop S l = some r → RepL G.U w r (l.map a.eval)
  | [], r, h => by simp [allAVop] at h; subst h; simp [RepL]
  | x :: l, r, h => by
    simp only [allAVop] at h
    split at h
    · rename_i y r' h1 h2
      simp at h; subst h
      simp only [List.map_cons, RepL]
      exact ⟨_, _, rfl, (hr.ev x).toAV h1, allAVop_sound hr h2⟩
    · simp at h

theorem Lies_new {w : World} {cs rest : List Value} {e : TypeId} {n : Nat} (U : Nat → Nat) (h1 : ∀ x ∈ cs, x.oneCell' = true) (hn : n = cs.length) :
    Lies (fun i => if i = w.heap.size then n else U i) (w.alloc (.cells (cs ++ rest).toArray e)) (some ⟨w.heap.size, 0, none⟩) cs := by
  by_cases hz : cs = []
  · exact .inl hz
  · refine .inr ⟨w.heap.size, 0, rfl, by simp [hn], fun j x hx => ⟨?_, h1 x (List.mem_of_getElem? hx)⟩⟩
    have hj : j < cs.length := by
      rcases Nat.lt_or_ge j cs.length with h | h
      · exact h
      · simp [List.getElem?_eq_none h] at hx
    simp only [World.cell?, heap_alloc_new]
    simp [List.getElem?_append_left hj, hx]

theorem RepL.cells {U : Nat → Nat} {w : World} {sz : Nat} : ∀ {l : List AV} {es : List Value}, RepL U w l es → Uni sz l → ∀ c ∈ vcells es, c.oneCell' = true
  | [], es, h, _, c, hc => by simp only [RepL] at h; subst h; simp [vcells] at hc
  | x :: l, es, h, hu, c, hc => by
    simp only [RepL] at h
    obtain ⟨u, es', rfl, h2, h3⟩ := h
    simp only [vcells, List.flatMap_cons, List.mem_append] at hc
    rcases hc with hc | hc
    · exact (h2.cells' (hu x (by simp)).2).2 c hc
    · exact RepL.cells h3 (fun y hy => hu y (by simp [hy])) c hc

theorem sound_buildSlice {P : Program} {o : Oper} {S : St} {t e : TypeId} {n : Nat} {parts : Array (Nat × Operand)} {sz bt : Nat} {z : Value} {ps : List AV} (ho : o.op = .buildSlice t n parts) (ht : tElem P t = some e) (hi : tInfo P e = some (sz, bt, some z))
    (hidx : parts.toList.map (·.1) = List.range n) (hp : allAVop S (parts.toList.map (·.2)) = some ps) (hu : Uni sz ps) (hsz : n * sz ≤ 16777216) : Sound P o S ⟨True, .av (.sl ps), S⟩ := by
  intro _ G w a hr
  have h1 := allAVop_sound hr hp
  generalize hes : (parts.toList.map (·.2)).map a.eval = es at h1
  have h2 := hu.sizes h1
  have h3 := h1.cells hu
  have hlen : es.length = n := by
    have := congrArg List.length hidx
    simp at this
    rw [← hes]; simp [this]
  have hpart : (parts.map fun (x : Nat × Operand) => (x.1, a.eval x.2)).toList = (es.zipIdx 0).map (fun p => (p.2, p.1)) := by
    rw [← hes]
    apply List.ext_getElem?
    intro i
    have hi' : (parts.toList.map (·.1))[i]? = (List.range n)[i]? := by rw [hidx]
    simp only [Array.toList_map, List.getElem?_map, List.getElem?_zipIdx, List.map_map] at hi' ⊢
    cases hp : parts.toList[i]? with
    | none => simp
    | some q =>
      simp only [hp, Option.map_some] at hi'
      have hlt : i < (List.range n).length := by
        rcases Nat.lt_or_ge i (List.range n).length with h | h
        · exact h
        · simp [List.getElem?_eq_none h] at hi'
      rw [List.getElem?_eq_getElem hlt] at hi'
      simp at hi'
      simp [hi']
  have ht' : P.underlying t = some (.slice e) := by
    unfold tElem at ht; split at ht
    · rename_i hh; simp at ht; subst ht; exact hh
    · simp at ht
  have key : ∀ us : Array Value, us.size = n * sz → Instr.fill (fun i => some (i * sz, sz)) us ((es.zipIdx 0).map (fun p => (p.2, p.1))) = some (vcells es).toArray := by
    intro us hus
    obtain ⟨us', f1, f2⟩ := fill_row sz es 0 us [] us.toList (by simp) (by simp) h2 (by rw [hlen]; simpa using hus)
    rw [f1]; simp only [List.nil_append] at f2; rw [← f2]
  obtain ⟨s1, s2, s3⟩ := step_alloc hr.wf (.cells (vcells es ++ []).toArray e) (vcells es).length
  refine ⟨_, .slice (some ⟨w.heap.size, 0, none⟩) n n, w.alloc (.cells (vcells es ++ []).toArray e), G.setU w.heap.size (vcells es).length, ?_, .inl rfl, s1, hr.keep s1.toExt s2 (fun κ _ => s3 κ) rfl, ?_, fun _ _ => rfl⟩
  · have hle : ¬ n * sz > 2 ^ 24 := by omega
    by_cases h0 : n * sz = 0
    · simp only [execOp, ho, Instr.buildSlice, Sem.run_bind, run_underlying' ht', Result.andThen_ok, run_sizeOf' hi, if_neg hle, if_pos h0, Sem.run_pure, hpart, key _ (show ((Array.range (n * sz)).map (fun i => (#[] : Array Value)[i % (#[] : Array Value).size]!)).size = n * sz by simp)]
      simp [newRow]
    · simp only [execOp, ho, Instr.buildSlice, Sem.run_bind, run_underlying' ht', Result.andThen_ok, run_sizeOf' hi, if_neg hle, if_neg h0, Sem.run_pure, run_zeroValue' hi, hpart, key _ (show ((Array.range (n * sz)).map (fun i => z.cells[i % z.cells.size]!)).size = n * sz by simp)]
      simp [newRow]
  · simp only [RepS, Rep]
    have hlp : ps.length = n := by rw [← h1.length]; exact hlen
    refine ⟨_, n, es, sz, by rw [hlp], RepL.mono s1.U s1.imm _ _ h1, h2, by simp, by omega, by simp, ?_⟩
    exact Lies_new G.U h3 rfl

end Go.Eng
