/- Literals, lengths, function values. -/
import Derived.Test.YtdaglbjgdakmcaaEngF
set_option linter.unusedSimpArgs false
set_option linter.unusedVariables false
namespace Go.Eng

def placesL (P : Program) : List Field → Option (List (Nat × Nat))
  | [] => some []
  | f :: l => match P.info? f.type, placesL P l with
    | some i, some r => some ((f.offset, i.size) :: r)
    | _, _ => none

def tPlaces (P : Program) (t : TypeId) : Option (List (Nat × Nat)) :=
  match P.underlying t with
  | some (.struct fs) => placesL P fs.toList
  | _ => none

theorem run_places {P : Program} (w : World) : ∀ (fs : List Field) (r : List (Nat × Nat)), placesL P fs = some r →
    (fs.mapM (fun f => do pure (f.offset, ← sizeOf f.type)) : Sem (List (Nat × Nat))).run P w = .ok r w
  | [], r, h => by simp [placesL] at h; subst h; simp
  | f :: fs, r, h => by
    simp only [placesL] at h
    split at h
    · rename_i i r' h1 h2
      simp at h; subst h
      have ih := run_places w fs r' h2
      have hs : (sizeOf f.type).run P w = .ok i.size w := by simp [sizeOf, run_typeInfo' h1]
      simp only [bind_pure_comp] at ih
      simp [List.mapM_cons, hs, ih]
    · simp at h

/-- What a literal's parts make of the cells. -/
def aFill (pl : List (Nat × Nat)) : List AV → List (Nat × AV) → Option (List AV)
  | cs, [] => some cs
  | cs, (i, x) :: rest => match pl[i]? with
    | some (off, size) => if x.cells.length = size ∧ off + size ≤ cs.length ∧ x.isTup = false then aFill pl (x.cells.zipIdx.foldl (fun c (p : AV × Nat) => c.set (off + p.2) p.1) cs) rest else none
    | none => none

theorem RepL_foldset {U : Nat → Nat} {w : World} (off : Nat) : ∀ {xs : List AV} {vs : List Value} (k : Nat) {cs : List AV} {us : List Value}, RepL U w xs vs → RepL U w cs us →
    RepL U w ((xs.zipIdx k).foldl (fun c (p : AV × Nat) => c.set (off + p.2) p.1) cs) ((vs.zipIdx k).foldl (fun c (p : Value × Nat) => c.set (off + p.2) p.1) us)
  | [], vs, k, cs, us, h, h' => by simp only [RepL] at h; subst h; simpa using h'
  | x :: xs, vs, k, cs, us, h, h' => by
    simp only [RepL] at h
    obtain ⟨u, vs', rfl, h2, h3⟩ := h
    simp only [List.zipIdx_cons, List.foldl_cons]
    exact RepL_foldset off (k + 1) h3 (h'.set _ h2)

theorem foldset_length {α : Type} (off : Nat) : ∀ (xs : List α) (k : Nat) (cs : List α), ((xs.zipIdx k).foldl (fun c (p : α × Nat) => c.set (off + p.2) p.1) cs).length = cs.length
  | [], _, _ => by simp
  | x :: xs, k, cs => by simp only [List.zipIdx_cons, List.foldl_cons]; rw [foldset_length off xs (k + 1)]; simp

theorem foldset_mem {off : Nat} {p : Value → Prop} : ∀ (xs : List Value) (k : Nat) (cs : List Value), (∀ x ∈ xs, p x) → (∀ x ∈ cs, p x) → ∀ x ∈ (xs.zipIdx k).foldl (fun c (q : Value × Nat) => c.set (off + q.2) q.1) cs, p x
  | [], _, _, _, h, x, hx => by simp at hx; exact h x hx
  | y :: xs, k, cs, h1, h2, x, hx => by
    simp only [List.zipIdx_cons, List.foldl_cons] at hx
    refine foldset_mem xs (k + 1) _ (fun z hz => h1 z (by simp [hz])) (fun z hz => ?_) x hx
    rcases List.mem_or_eq_of_mem_set hz with h | h
    · exact h2 z h
    · rw [h]; exact h1 y (by simp)

theorem fill_array (off : Nat) : ∀ (xs : List Value) (k : Nat) (cs : Array Value), ((xs.zipIdx k).foldl (fun c (p : Value × Nat) => c.setIfInBounds (off + p.2) p.1) cs).toList = (xs.zipIdx k).foldl (fun c (p : Value × Nat) => c.set (off + p.2) p.1) cs.toList
  | [], _, _ => by simp
  | x :: xs, k, cs => by
    simp only [List.zipIdx_cons, List.foldl_cons]
    rw [fill_array off xs (k + 1)]; simp

theorem fill_sound {U : Nat → Nat} {w : World} (pl : List (Nat × Nat)) (place : Nat → Option (Nat × Nat)) (hpl : ∀ i : Nat, pl[i]? = place i) : ∀ (parts : List (Nat × AV)) (vs : List (Nat × Value)) (cs r : List AV) (us : Array Value),
    parts.map (·.1) = vs.map (·.1) → RepL U w (parts.map (·.2)) (vs.map (·.2)) → RepL U w cs us.toList → (∀ x ∈ us.toList, x.oneCell' = true) → aFill pl cs parts = some r →
    ∃ us', Instr.fill place us vs = some us' ∧ RepL U w r us'.toList ∧ ∀ x ∈ us'.toList, x.oneCell' = true
  | [], [], cs, r, us, _, _, h, h1, hr => by simp [aFill] at hr; subst hr; exact ⟨us, rfl, h, h1⟩
  | [], _ :: _, _, _, _, hm, _, _, _, _ => by simp at hm
  | _ :: _, [], _, _, _, hm, _, _, _, _ => by simp at hm
  | (i, x) :: parts, (i', v) :: vs, cs, r, us, hm, hx, h, h1, hr => by
    simp only [List.map_cons, List.cons.injEq] at hm
    obtain ⟨rfl, hm⟩ := hm
    simp only [List.map_cons, RepL, List.cons.injEq] at hx
    obtain ⟨u, us', ⟨rfl, rfl⟩, h2, h3⟩ := hx
    simp only [aFill] at hr
    split at hr
    · rename_i off size hp
      split at hr
      · rename_i hc
        obtain ⟨hc1, hc2, hc3⟩ := hc
        obtain ⟨g1, g2⟩ := h2.cells' hc3
        have hl := g1.length
        have hcl := h.length
        have hvs : v.cells.size = size := by simpa [hc1] using hl
        have e1 := fill_array off v.cells.toList 0 us
        have hfold : (v.cells.zipIdx.foldl (fun cs (x : Value × Nat) => cs.setIfInBounds (off + x.2) x.1) us) = ((v.cells.toList.zipIdx 0).foldl (fun c (p : Value × Nat) => c.setIfInBounds (off + p.2) p.1) us) := by
          rw [← Array.foldl_toList]; simp
        obtain ⟨us2, f1, f2, f3⟩ := fill_sound pl place hpl parts vs _ r (v.cells.zipIdx.foldl (fun cs (x : Value × Nat) => cs.setIfInBounds (off + x.2) x.1) us) hm h3
          (by rw [hfold, e1]; exact RepL_foldset off 0 g1 h) (by rw [hfold, e1]; exact foldset_mem _ _ _ g2 h1) hr
        refine ⟨us2, ?_, f2, f3⟩
        simp only [Instr.fill, ← hpl i, hp]
        rw [if_neg (by simp at hcl; simp; omega)]
        exact f1
      · simp at hr
    · simp at hr

def partsAV (S : St) : List (Nat × Operand) → Option (List (Nat × AV))
  | [] => some []
  | (i, x) :: l => match (S.ev x).toAV, partsAV S l with
    | some y, some r => some ((i, y) :: r)
    | _, _ => none

theorem partsAV_sound {G : Gh} {w : World} {S : St} {a : Act} (hr : Rel G w S a) : ∀ {l : List (Nat × Operand)} {r : List (Nat × AV)}, partsAV S l = some r →
    r.map (·.1) = (l.map (fun p => (p.1, a.eval p.2))).map (·.1) ∧ RepL G.U w (r.map (·.2)) ((l.map (fun p => (p.1, a.eval p.2))).map (·.2))
  | [], r, h => by simp [partsAV] at h; subst h; simp [RepL]
  | (i, x) :: l, r, h => by
    simp only [partsAV] at h
    split at h
    · rename_i y r' h1 h2
      simp at h; subst h
      obtain ⟨g1, g2⟩ := partsAV_sound hr h2
      refine ⟨by simp only [List.map_cons]; rw [g1], ?_⟩
      simp only [List.map_cons, RepL]
      exact ⟨_, _, rfl, (hr.ev x).toAV h1, g2⟩
    · simp at h

theorem RepL_val {U : Nat → Nat} {w : World} : ∀ (l : List Value), (∀ c ∈ l, c.oneCell' = true) → RepL U w (l.map .val) l
  | [], _ => by simp [RepL]
  | c :: l, h => by
    simp only [List.map_cons, RepL]
    exact ⟨c, l, rfl, by simp only [Rep]; exact ⟨trivial, h c (by simp)⟩, RepL_val l (fun x hx => h x (by simp [hx]))⟩

theorem sound_build {P : Program} {o : Oper} {S : St} {t : TypeId} {parts : Array (Nat × Operand)} {sz bt : Nat} {z : Value} {pl : List (Nat × Nat)} {ps : List (Nat × AV)} {r : List AV} (ho : o.op = .build t parts) (hi : tInfo P t = some (sz, bt, some z))
    (h1 : z.cells.toList.all (fun c => c.oneCell') = true) (hpl : tPlaces P t = some pl) (hp : partsAV S parts.toList = some ps) (hf : aFill pl (z.cells.toList.map .val) ps = some r) : Sound P o S ⟨True, .av (.agg r), S⟩ :=
  Sound.still fun _ G w a hr => by
    have h1' : ∀ x ∈ z.cells.toList, x.oneCell' = true := fun c hc => List.all_eq_true.1 h1 c hc
    obtain ⟨g1, g2⟩ := partsAV_sound hr hp
    unfold tPlaces at hpl
    split at hpl
    · rename_i fs hu
      obtain ⟨us', f1, f2, f3⟩ := fill_sound (U := G.U) (w := w) pl (fun i => pl[i]?) (fun i => rfl) ps _ _ r z.cells g1 g2 (RepL_val _ h1') h1' hf
      refine ⟨.agg us', ?_, ?_⟩
      · have hm := run_places w fs.toList pl hpl
        have hm2 : (fs.mapM (fun f => do pure (f.offset, ← sizeOf f.type)) : Sem (Array (Nat × Nat))).run P w = .ok pl.toArray w := by
          rw [Array.mapM_eq_mapM_toList]
          simp only [Sem.run_map, hm, Result.andThen_ok]
        simp only [bind_pure_comp] at hm2
        have hl : (parts.map fun (x : Nat × Operand) => (x.1, a.eval x.2)).toList = parts.toList.map (fun p => (p.1, a.eval p.2)) := by simp
        simp [execOp, ho, Instr.build, run_zeroValue' hi, run_underlying' hu, hm2, f1]
      · simp only [RepS, Rep]; exact ⟨us', rfl, f2, f3⟩
    · simp at hpl

theorem RepPs_of {G : Gh} {w : World} {S : St} {a : Act} (hr : Rel G w S a) : ∀ {l : List Operand} {ps : List PV}, l.mapM (fun x => (S.ev x).toPV) = some ps → RepPs G w ps (l.map a.eval)
  | [], ps, h => by simp at h; subst h; rfl
  | x :: l, ps, h => by
    simp only [List.mapM_cons, Option.bind_eq_bind, Option.bind_eq_some_iff] at h
    obtain ⟨p, h1, ps', h2, h3⟩ := h
    simp at h3; subst h3
    exact ⟨_, _, rfl, (hr.ev x).toPV h1, RepPs_of hr h2⟩

theorem sound_makeFunc {P : Program} {o : Oper} {S : St} {f : FuncId} {first captured : Array Operand} {fs cs : List PV} (ho : o.op = .makeFunc (.func f) first captured) (hf : first.toList.mapM (fun x => (S.ev x).toPV) = some fs) (hc : captured.toList.mapM (fun x => (S.ev x).toPV) = some cs) :
    Sound P o S ⟨True, .fn f fs cs, S⟩ :=
  Sound.still fun _ G w a hr => by
    refine ⟨.func (.func f) (first.map a.eval) (captured.map a.eval), by simp [execOp, ho, Instr.makeFunc], _, _, rfl, ?_, ?_⟩
    · simpa using RepPs_of hr hf
    · simpa using RepPs_of hr hc

theorem exec_builtin {P : Program} {o : Oper} {a : Act} {b : Builtin} {args : Array Operand} {tys : Array TypeId} (ho : o.op = .call { callee := .builtin b, args := args, argTypes := tys }) (w : World) :
    ∃ c, (execOp a.eval o).run P w = (builtin b tys o.type c (args.map a.eval)).run P w :=
  ⟨_, by simp only [execOp, ho, resolve]; rfl⟩

def tSlice (P : Program) (t : TypeId) : Bool :=
  match P.underlying t with
  | some (.slice _) => true
  | _ => false

theorem sound_len_str {P : Program} {o : Oper} {S : St} {x : Operand} {t : TypeId} {s : ByteArray} (ho : o.op = .call { callee := .builtin .len, args := #[x], argTypes := #[t] }) (hx : S.ev x = .av (.val (.string s))) (ht : tStr P t = true) : Sound P o S ⟨True, .av (.val (.int .i64 s.size)), S⟩ :=
  Sound.still fun _ G w a hr => by
    have h1 := hr.ev x; rw [hx] at h1; simp only [RepS, Rep] at h1
    have ht' : P.underlying t = some .string := by
      unfold tStr at ht; split at ht
      · assumption
      · simp at ht
    obtain ⟨c, hc⟩ := exec_builtin (P := P) (a := a) ho w
    exact ⟨_, by rw [hc]; simp [builtin, Builtin.len_, run_underlying' ht', h1.1, goInt], ⟨rfl, rfl⟩⟩

theorem sound_len_sl {P : Program} {o : Oper} {S : St} {x : Operand} {t : TypeId} {l : List AV} (ho : o.op = .call { callee := .builtin .len, args := #[x], argTypes := #[t] }) (hx : (S.ev x).toAV = some (.sl l)) (ht : tSlice P t = true) : Sound P o S ⟨True, .av (.val (.int .i64 l.length)), S⟩ :=
  Sound.still fun _ G w a hr => by
    have h1 := (hr.ev x).toAV hx
    simp only [Rep] at h1
    obtain ⟨ad, cap, es, sz', g1, _⟩ := h1
    have ⟨e, ht'⟩ : ∃ e, P.underlying t = some (.slice e) := by
      unfold tSlice at ht; split at ht
      · rename_i e h; exact ⟨e, h⟩
      · simp at ht
    obtain ⟨c, hc⟩ := exec_builtin (P := P) (a := a) ho w
    exact ⟨_, by rw [hc]; simp [builtin, Builtin.len_, run_underlying' ht', g1, goInt], ⟨rfl, rfl⟩⟩

theorem sound_max {P : Program} {o : Oper} {S : St} {x y : Operand} {tys : Array TypeId} {k : IntKind} {i j : Int} (ho : o.op = .call { callee := .builtin .max, args := #[x, y], argTypes := tys }) (hx : S.ev x = .av (.val (.int k i))) (hy : S.ev y = .av (.val (.int k j))) :
    Sound P o S ⟨True, .av (.val (.int k (max i j))), S⟩ :=
  Sound.still fun _ G w a hr => by
    have h1 := hr.ev x; rw [hx] at h1; simp only [RepS, Rep] at h1
    have h2 := hr.ev y; rw [hy] at h2; simp only [RepS, Rep] at h2
    obtain ⟨c, hc⟩ := exec_builtin (P := P) (a := a) ho w
    refine ⟨.int k (max i j), ?_, ⟨rfl, rfl⟩⟩
    rw [hc]
    have : (if j > i then j else i) = max i j := by split <;> omega
    simp [builtin, Builtin.max_, h1.1, h2.1, Builtin.max2, this]

theorem sound_min {P : Program} {o : Oper} {S : St} {x y : Operand} {tys : Array TypeId} {k : IntKind} {i j : Int} (ho : o.op = .call { callee := .builtin .min, args := #[x, y], argTypes := tys }) (hx : S.ev x = .av (.val (.int k i))) (hy : S.ev y = .av (.val (.int k j))) :
    Sound P o S ⟨True, .av (.val (.int k (min i j))), S⟩ :=
  Sound.still fun _ G w a hr => by
    have h1 := hr.ev x; rw [hx] at h1; simp only [RepS, Rep] at h1
    have h2 := hr.ev y; rw [hy] at h2; simp only [RepS, Rep] at h2
    obtain ⟨c, hc⟩ := exec_builtin (P := P) (a := a) ho w
    refine ⟨.int k (min i j), ?_, ⟨rfl, rfl⟩⟩
    rw [hc]
    have : (if j < i then j else i) = min i j := by split <;> omega
    simp [builtin, Builtin.min_, h1.1, h2.1, Builtin.min2, this]

end Go.Eng
