/- A region that draws its order. -/
import Derived.Test.YtdaglbjgdakmcaaEngN
set_option linter.unusedSimpArgs false
set_option linter.unusedVariables false
namespace Go.Eng

/-- What is told of one operation of such a region. -/
structure DS where
  ors : List Or
  gd : Option Bool
  v : SV
  out : Option (List (Nat × ABox) × List (Key × Nat))

abbrev BG := List (Nat × ABox) × List (Key × Nat)

def putF (f : List SV) (d : Option Tmp) (v : SV) : List SV :=
  match d with
  | some d => f.set d v
  | none => f

def dstOf (ops : List Oper) (k : Nat) : Option Tmp := (ops[k]?).bind (·.dst)
def valOf (st : List DS) (k : Nat) : SV := ((st[k]?).map (·.v)).getD .junk
def outOf (st : List DS) (k : Nat) : Option BG := (st[k]?).bind (·.out)

def frD (ops : List Oper) (st : List DS) (f0 : List SV) (L : Nat → Bool) : Nat → List SV
  | 0 => f0
  | m + 1 => if L m then putF (frD ops st f0 L m) (dstOf ops m) (valOf st m) else frD ops st f0 L m

def bxD (st : List DS) (b0 : BG) (L : Nat → Bool) : Nat → BG
  | 0 => b0
  | m + 1 => if L m then (outOf st m).getD (bxD st b0 L m) else bxD st b0 L m

def maskOf (o : Oper) (acc : List Nat) : Nat := o.after.toList.foldl (fun s e => if Region.binds .any e then s ||| (1 <<< e.on) ||| acc.getD e.on 0 else s) 0
def masks : List Oper → List Nat → List Nat
  | [], acc => acc
  | o :: l, acc => masks l (acc ++ [maskOf o acc])

def looks (ops : List Oper) (o : Oper) : List Nat :=
  (o.op.operands.toList.filterMap fun | .tmp t => some t | _ => none) ++ (match o.guard with | some (j, _) => (dstOf ops j).toList | none => []) ++ o.dst.toList

def ordered (M : List Nat) (i k : Nat) : Bool := (decide (k < i) && (M.getD i 0).testBit k) || (decide (i < k) && (M.getD k 0).testBit i)

def dStatic (ops : List Oper) (st : List DS) (M : List Nat) : Bool :=
  (List.range ops.length).all fun i =>
    (match ops[i]? with | some o => o.after.toList.all (fun e => !Region.binds .any e || decide (e.on < i)) | none => true) &&
    (List.range ops.length).all fun k => i == k || ordered M i k ||
      (!(match ops[i]?, dstOf ops k with | some o, some t => (looks ops o).contains t | _, _ => false) && !((outOf st i).isSome && (outOf st k).isSome))

def boxOf (st : List DS) (b0 : BG) : Option Nat → BG
  | none => b0
  | some e => (outOf st e).getD b0

def lastEff (st : List DS) : Nat → Option Nat
  | 0 => none
  | m + 1 => if (outOf st m).isSome then some m else lastEff st m

def cands (st : List DS) (M : List Nat) (n i : Nat) : List (Option Nat) :=
  if (outOf st i).isSome then [lastEff st i] else
  (if (List.range n).any (fun k => (outOf st k).isSome && (M.getD i 0).testBit k) then [] else [none]) ++
    ((List.range n).filter (fun e => (outOf st e).isSome && !(M.getD e 0).testBit i && !(List.range n).any (fun k => decide (e < k) && (outOf st k).isSome && (M.getD i 0).testBit k))).map some

def guardOk (sv : Option SV) (want : Bool) (gd : Option Bool) : Option (List Prop × Bool) :=
  match sv, gd with
  | some (.av (.tup [])), none => some ([], false)
  | some (.av (.val (.bool b))), some d => some ([b = d], d == want)
  | _, _ => none

def dRuns (P : Program) (o : Oper) (s : DS) (f : List SV) (st : List DS) (b0 : BG) : List (Option Nat) → Option (List Prop)
  | [] => some []
  | c :: l => match runV P o s.ors ⟨f, (boxOf st b0 c).1, (boxOf st b0 c).2⟩, dRuns P o s f st b0 l with
    | some (cs, v, bx, gn), some r => some (cs ++ (v = s.v ∧ (bx, gn) = s.out.getD (boxOf st b0 c)) :: r)
    | _, _ => none

def dOp (P : Program) (ops : List Oper) (st : List DS) (M : List Nat) (f0 : List SV) (b0 : BG) (i : Nat) : Option (List Prop) :=
  match ops[i]?, st[i]? with
  | some o, some s =>
    let f := frD ops st f0 (fun _ => true) i
    match o.guard with
    | none => dRuns P o s f st b0 (cands st M ops.length i)
    | some (j, want) => match guardOk ((dstOf ops j).bind (f[·]?)) want s.gd with
      | some (cs, true) => (dRuns P o s f st b0 (cands st M ops.length i)).map (cs ++ ·)
      | some (cs, false) => if s.out.isNone then some (cs ++ [s.v = undefS]) else none
      | none => none
  | _, _ => none

def dAll (P : Program) (ops : List Oper) (st : List DS) (M : List Nat) (f0 : List SV) (b0 : BG) : Nat → Option (List Prop)
  | 0 => some []
  | m + 1 => match dAll P ops st M f0 b0 m, dOp P ops st M f0 b0 m with
    | some a, some b => some (a ++ b)
    | _, _ => none

section
variable {P : Program} {ops : List Oper} {st : List DS} {M : List Nat} {f0 : List SV} {b0 : BG}

theorem dAll_get : ∀ {n : Nat} {cs : List Prop}, dAll P ops st M f0 b0 n = some cs → All cs → ∀ i, i < n → ∃ c, dOp P ops st M f0 b0 i = some c ∧ All c
  | 0, _, _, _, i, hi => by omega
  | n + 1, cs, h, hc, i, hi => by
    simp only [dAll] at h
    split at h
    · rename_i a b h1 h2
      simp only [Option.some.injEq] at h; subst h
      obtain ⟨ha, hb⟩ := All_append hc
      rcases Nat.lt_or_ge i n with hlt | hge
      · exact dAll_get h1 ha i hlt
      · have : i = n := by omega
        subst this; exact ⟨b, h2, hb⟩
    · simp at h

theorem getElem?_putF {f : List SV} {d : Option Tmp} {v : SV} {t : Nat} (h : d ≠ some t) : (putF f d v)[t]? = f[t]? := by
  cases d with
  | none => rfl
  | some d => simp only [putF]; rw [List.getElem?_set_ne (by intro e; exact h (by rw [e]))]

theorem length_putF {f : List SV} {d : Option Tmp} {v : SV} : (putF f d v).length = f.length := by cases d <;> simp [putF]

/-- A slot whose writers are all ordered with i holds, where i is next, what it holds in the order of the text. -/
theorem slot_agrees {L : Nat → Bool} {i t : Nat} (hi : L i = false) (h : ∀ k, dstOf ops k = some t → (k < i → L k = true) ∧ (i < k → L k = false)) : ∀ m, (frD ops st f0 L m)[t]? = (frD ops st f0 (fun _ => true) (min m i))[t]? := by
  intro m
  induction m with
  | zero => simp [frD]
  | succ m ih =>
    simp only [frD]
    by_cases hd : dstOf ops m = some t
    · rcases Nat.lt_trichotomy m i with hlt | heq | hgt
      · have := (h m hd).1 hlt
        rw [if_pos this, show min (m + 1) i = m + 1 by omega]
        simp only [frD, if_true, hd, putF]
        rw [List.getElem?_set, List.getElem?_set, show min m i = m by omega] at *
        simp only [if_true]
        have hl : (frD ops st f0 L m).length = (frD ops st f0 (fun _ => true) m).length := by
          have : ∀ (L : Nat → Bool) m, (frD ops st f0 L m).length = f0.length := by
            intro L m
            induction m with
            | zero => rfl
            | succ m ih => simp only [frD]; split <;> simp [length_putF, ih]
          rw [this, this]
        rw [hl]
      · subst heq; rw [hi]; simp only [Bool.false_eq_true, if_false]; rw [ih]; congr 2; omega
      · rw [(h m hd).2 hgt]; simp only [Bool.false_eq_true, if_false]; rw [ih]; congr 2; omega
    · have e1 : (if L m then putF (frD ops st f0 L m) (dstOf ops m) (valOf st m) else frD ops st f0 L m)[t]? = (frD ops st f0 L m)[t]? := by
        split
        · exact getElem?_putF hd
        · rfl
      rw [e1, ih]
      rcases Nat.lt_or_ge m i with hlt | hge
      · rw [show min (m + 1) i = m + 1 by omega, show min m i = m by omega]
        simp only [frD, if_true]; rw [getElem?_putF hd]
      · congr 2; omega

theorem frD_length {L : Nat → Bool} : ∀ m, (frD ops st f0 L m).length = f0.length
  | 0 => rfl
  | m + 1 => by simp only [frD]; split <;> simp [length_putF, frD_length m]

theorem putF_comm {f : List SV} {d e : Option Tmp} {u v : SV} (h : ∀ t, d = some t → e ≠ some t) : putF (putF f d u) e v = putF (putF f e v) d u := by
  cases d with
  | none => rfl
  | some d => cases e with
    | none => rfl
    | some e => simp only [putF]; exact List.set_comm _ _ (by intro he; exact h d rfl (by rw [he]))

def also (L : Nat → Bool) (i : Nat) : Nat → Bool := fun k => if k = i then true else L k

theorem fr_also {L : Nat → Bool} {i : Nat} (hi : L i = false) (h : ∀ k, i < k → L k = true → ∀ t, dstOf ops i = some t → dstOf ops k ≠ some t) : ∀ m, i < m → frD ops st f0 (also L i) m = putF (frD ops st f0 L m) (dstOf ops i) (valOf st i) := by
  have below : ∀ m, m ≤ i → frD ops st f0 (also L i) m = frD ops st f0 L m := by
    intro m
    induction m with
    | zero => intro _; rfl
    | succ m ih =>
      intro hm
      simp only [frD, also, if_neg (show ¬ m = i by omega)]
      rw [← ih (by omega)]
  intro m
  induction m with
  | zero => intro hm; omega
  | succ m ih =>
    intro hm
    rcases Nat.lt_or_ge i m with hlt | hge
    · have ih' := ih hlt
      simp only [frD]
      rw [show also L i m = L m by simp only [also, if_neg (show ¬ m = i by omega)]]
      cases hL : L m
      · simp only [Bool.false_eq_true, if_false]; exact ih'
      · simp only [if_true]; rw [ih']
        exact putF_comm (fun t ht => h m hlt hL t ht)
    · have : m = i := by omega
      subst this
      simp only [frD, hi, Bool.false_eq_true, if_false]
      rw [show also L m m = true by simp [also], if_pos rfl, below m (Nat.le_refl _)]

theorem bx_also_pure {L : Nat → Bool} {i : Nat} (hp : outOf st i = none) : ∀ m, bxD st b0 (also L i) m = bxD st b0 L m := by
  intro m
  induction m with
  | zero => rfl
  | succ m ih =>
    simp only [bxD, ih]
    by_cases hm : m = i
    · subst hm; simp [hp]
    · rw [show also L i m = L m by simp only [also, if_neg hm]]

theorem bx_also_eff {L : Nat → Bool} {i : Nat} {b : BG} (hp : outOf st i = some b) (h : ∀ k, i < k → (outOf st k).isSome = true → L k = false) : ∀ m, i < m → bxD st b0 (also L i) m = b := by
  intro m
  induction m with
  | zero => intro hm; omega
  | succ m ih =>
    intro hm
    simp only [bxD]
    rcases Nat.lt_or_ge i m with hlt | hge
    · rw [ih hlt, show also L i m = L m by simp only [also, if_neg (show ¬ m = i by omega)]]
      cases ho : outOf st m with
      | none => simp
      | some c => rw [h m hlt (by rw [ho]; rfl)]; simp
    · have : m = i := by omega
      subst this
      rw [show also L m m = true by simp [also], if_pos rfl, hp]; rfl

/-- The boxes are those of the last effect. -/
theorem bx_last {L : Nat → Bool} : ∀ m, (bxD st b0 L m = b0 ∧ ∀ k, k < m → (outOf st k).isSome = true → L k = false) ∨ ∃ e, e < m ∧ L e = true ∧ (outOf st e).isSome = true ∧ bxD st b0 L m = boxOf st b0 (some e) ∧ ∀ k, e < k → k < m → (outOf st k).isSome = true → L k = false := by
  intro m
  induction m with
  | zero => exact .inl ⟨rfl, fun k hk => by omega⟩
  | succ m ih =>
    simp only [bxD]
    cases ho : outOf st m with
    | none =>
      have e1 : (if L m = true then (none : Option BG).getD (bxD st b0 L m) else bxD st b0 L m) = bxD st b0 L m := by split <;> rfl
      rw [e1]
      rcases ih with ⟨h1, h2⟩ | ⟨e, h1, h2, h3, h4, h5⟩
      · refine .inl ⟨h1, fun k hk hs => ?_⟩
        rcases Nat.lt_or_ge k m with h | h
        · exact h2 k h hs
        · have : k = m := by omega
          subst this; rw [ho] at hs; simp at hs
      · refine .inr ⟨e, by omega, h2, h3, h4, fun k hk1 hk2 hs => ?_⟩
        rcases Nat.lt_or_ge k m with h | h
        · exact h5 k hk1 h hs
        · have : k = m := by omega
          subst this; rw [ho] at hs; simp at hs
    | some b =>
      cases hL : L m
      · simp only [Bool.false_eq_true, if_false]
        rcases ih with ⟨h1, h2⟩ | ⟨e, h1, h2, h3, h4, h5⟩
        · refine .inl ⟨h1, fun k hk hs => ?_⟩
          rcases Nat.lt_or_ge k m with h | h
          · exact h2 k h hs
          · have : k = m := by omega
            subst this; exact hL
        · refine .inr ⟨e, by omega, h2, h3, h4, fun k hk1 hk2 hs => ?_⟩
          rcases Nat.lt_or_ge k m with h | h
          · exact h5 k hk1 h hs
          · have : k = m := by omega
            subst this; exact hL
      · exact .inr ⟨m, by omega, hL, by rw [ho]; rfl, by simp [boxOf, ho], fun k hk1 hk2 _ => by omega⟩

theorem lastEff_spec {L : Nat → Bool} : ∀ i, (∀ k, k < i → (outOf st k).isSome = true → L k = true) → bxD st b0 L i = boxOf st b0 (lastEff st i) := by
  intro i
  induction i with
  | zero => intro _; rfl
  | succ i ih =>
    intro h
    simp only [bxD, lastEff]
    cases ho : outOf st i with
    | none => simp only [Option.isSome_none, Bool.false_eq_true, if_false]; rw [← ih (fun k hk => h k (by omega))]; split <;> rfl
    | some b =>
      rw [h i (by omega) (by rw [ho]; rfl)]
      simp [boxOf, ho]

theorem bx_upto {L : Nat → Bool} {i : Nat} (hi : L i = false) (h : ∀ k, i < k → (outOf st k).isSome = true → L k = false) : ∀ m, i ≤ m → bxD st b0 L m = bxD st b0 L i := by
  intro m
  induction m with
  | zero => intro hm; have : i = 0 := by omega
            subst this; rfl
  | succ m ih =>
    intro hm
    rcases Nat.lt_or_ge m i with hlt | hge
    · have : i = m + 1 := by omega
      subst this; rfl
    · simp only [bxD]
      rw [← ih hge]
      rcases Nat.lt_or_ge i m with h1 | h1
      · cases ho : outOf st m with
        | none => split <;> rfl
        | some b => rw [h m h1 (by rw [ho]; rfl)]; simp
      · have : m = i := by omega
        subst this; rw [hi]; simp

/-- What is listed is closed under the edges, so under the masks. -/
theorem masks_closed (L : Nat → Bool) : ∀ (l : List Oper) (acc : List Nat), (∀ j o, l[j]? = some o → L (acc.length + j) = true → ∀ e ∈ o.after, Region.binds .any e = true → L e.on = true) →
    (∀ k, k < acc.length → L k = true → ∀ i, (acc.getD k 0).testBit i = true → L i = true) → ∀ k, L k = true → ∀ i, ((masks l acc).getD k 0).testBit i = true → L i = true
  | [], acc, _, ha, k, hk, i, hi => by
    simp only [masks] at hi
    rcases Nat.lt_or_ge k acc.length with h | h
    · exact ha k h hk i hi
    · simp [List.getD, List.getElem?_eq_none h] at hi
  | o :: l, acc, he, ha, k, hk, i, hi => by
    simp only [masks] at hi
    refine masks_closed L l (acc ++ [maskOf o acc]) (fun j o' hj hL => ?_) (fun k hk' hL i hi => ?_) k hk i hi
    · exact he (j + 1) o' (by simpa using hj) (by rw [← hL]; congr 1; simp; omega)
    · simp at hk'
      rcases Nat.lt_or_ge k acc.length with h | h
      · refine ha k h hL i ?_
        simpa [List.getD, List.getElem?_append_left h] using hi
      · have hk2 : k = acc.length := by omega
        subst hk2
        simp only [List.getD, List.getElem?_append_right (Nat.le_refl _), Nat.sub_self, List.getElem?_cons_zero, Option.getD_some] at hi
        have hedge : ∀ e ∈ o.after, Region.binds .any e = true → L e.on = true := he 0 o (by simp) (by simpa using hL)
        unfold maskOf at hi
        have key : ∀ (es : List Edge) (s : Nat), (∀ e ∈ es, Region.binds .any e = true → L e.on = true) → (∀ i, s.testBit i = true → L i = true) → ∀ i, (es.foldl (fun s e => if Region.binds .any e then s ||| (1 <<< e.on) ||| acc.getD e.on 0 else s) s).testBit i = true → L i = true := by
          intro es
          induction es with
          | nil => intro s _ hs i hi; exact hs i hi
          | cons e es ih =>
            intro s hes hs i hi
            simp only [List.foldl_cons] at hi
            refine ih _ (fun e' he' => hes e' (by simp [he'])) (fun i hi => ?_) i hi
            split at hi
            · rename_i hb
              have hLe := hes e (by simp) hb
              simp only [Nat.testBit_or, Bool.or_eq_true] at hi
              rcases hi with (hi | hi) | hi
              · exact hs i hi
              · rw [Nat.testBit_shiftLeft] at hi
                simp only [ge_iff_le, Bool.and_eq_true, decide_eq_true_eq] at hi
                have : i = e.on := by
                  have h1 := hi.2
                  have : i - e.on = 0 := by
                    rcases Nat.eq_zero_or_pos (i - e.on) with h | h
                    · exact h
                    · rw [Nat.testBit_one_eq_true_iff_self_eq_zero] at h1; exact h1
                  omega
                rw [this]; exact hLe
              · rcases Nat.lt_or_ge e.on acc.length with h | h
                · exact ha e.on h hLe i hi
                · simp [List.getD, List.getElem?_eq_none h] at hi
            · exact hs i hi
        exact key o.after.toList 0 (fun e he' => hedge e (by simpa using he')) (fun i hi => by simp at hi) i hi

end
end Go.Eng
