/- Operations that touch no memory. -/
import Derived.Test.YtdaglbjgdakmcaaEngB
import Derived.Lib.Strings
set_option linter.unusedSimpArgs false
set_option linter.unusedVariables false
namespace Go.Eng

/-- The same text. -/
def eqs (s t : ByteArray) : Bool := s.data.toList == t.data.toList
theorem eqs_toList (s t : ByteArray) : (s.toList == t.toList) = eqs s t := by simp only [eqs, Lib.toList_data]

def undefS : SV := .av (.tup [])

def constAV : Value → AV
  | .slice none 0 0 => .sl []
  | v => .val v

def constSV : Value → SV
  | .slice none 0 0 => .nil
  | .agg cs => if cs.toList.all (fun c => c.oneCell') then .av (.agg (cs.toList.map constAV)) else .junk
  | .tuple _ => .junk
  | v => .av (.val v)

def PV.toSV : PV → SV
  | .av x => .av x
  | .ptr b o => .ptr b o
  | .mp b => .mp b

def SV.toPV : SV → Option PV
  | .nil => some (.av (.sl []))
  | .av x => some (.av x)
  | .own _ _ _ l => some (.av (.sl l))
  | .ptr b o => some (.ptr b o)
  | .mp b => some (.mp b)
  | _ => none

def SV.norm : SV → SV
  | .nil => .av (.sl [])
  | .own _ _ _ l => .av (.sl l)
  | s => s

def St.ev (S : St) : Operand → SV
  | .tmp t => S.fr.getD t .junk
  | .const v => constSV v
  | .global _ => .junk
  | .func f => .fn f [] []

def St.put (S : St) (d : Option Tmp) (v : SV) : St :=
  match d with
  | some d => { S with fr := S.fr.set d v }
  | none => S

theorem Rep_const {U : Nat → Nat} {w : World} (v : Value) (h : v.oneCell' = true) : Rep U w (constAV v) v := by
  unfold constAV
  split
  · exact Rep_nil U w
  · simp only [Rep]; exact ⟨trivial, h⟩

theorem RepL_const {U : Nat → Nat} {w : World} : ∀ (l : List Value), (∀ c ∈ l, c.oneCell' = true) → RepL U w (l.map constAV) l
  | [], _ => by simp [RepL]
  | c :: l, h => by
    simp only [List.map_cons, RepL]
    exact ⟨c, l, rfl, Rep_const c (h c (by simp)), RepL_const l (fun x hx => h x (by simp [hx]))⟩

theorem RepS_const (G : Gh) (w : World) (v : Value) : RepS G w (constSV v) v := by
  unfold constSV
  split
  · rfl
  · split
    · rename_i cs h
      simp only [RepS, Rep]
      have h' : ∀ c ∈ cs.toList, c.oneCell' = true := fun c hc => List.all_eq_true.1 h c hc
      exact ⟨cs, rfl, RepL_const _ h', h'⟩
    · trivial
  · trivial
  · rename_i v' h1 h2 h3
    simp only [RepS, Rep]
    refine ⟨trivial, ?_⟩
    cases v <;> simp_all [Value.oneCell']

theorem Rel.ev {G : Gh} {w : World} {S : St} {a : Act} (h : Rel G w S a) (x : Operand) : RepS G w (S.ev x) (a.eval x) := by
  cases x with
  | tmp t =>
    simp only [St.ev, Act.eval, List.getD_eq_getElem?_getD]
    cases ht : S.fr[t]? with
    | none => trivial
    | some s => exact h.fr t s ht
  | const v => exact RepS_const G w v
  | global g => trivial
  | func f => exact ⟨#[], #[], rfl, rfl, rfl⟩

theorem RepS.norm {G : Gh} {w : World} {s : SV} {u : Value} (h : RepS G w s u) : RepS G w s.norm u := by
  cases s with
  | nil => simp only [RepS] at h; subst h; exact Rep_nil _ _
  | own k g sz l => exact h.own_sl
  | _ => exact h

theorem RepP.toSV {G : Gh} {w : World} {p : PV} {u : Value} (h : RepP G w p u) : RepS G w p.toSV u := by
  cases p <;> exact h

theorem RepS.toPV {G : Gh} {w : World} {s : SV} {u : Value} {p : PV} (h : RepS G w s u) (hp : s.toPV = some p) : RepP G w p u := by
  cases s with
  | nil => simp [SV.toPV] at hp; subst hp; simp only [RepS] at h; subst h; exact Rep_nil _ _
  | av x => simp [SV.toPV] at hp; subst hp; exact h
  | own k g sz l => simp [SV.toPV] at hp; subst hp; exact h.own_sl
  | ptr b o => simp [SV.toPV] at hp; subst hp; exact h
  | mp b => simp [SV.toPV] at hp; subst hp; exact h
  | _ => simp [SV.toPV] at hp

theorem Rel.put {G : Gh} {w : World} {S : St} {a : Act} (h : Rel G w S a) (d : Option Tmp) {s : SV} {v : Value} (hs : RepS G w s v) : Rel G w (S.put d s) (a.put d v) := by
  cases d with
  | none => exact h
  | some d =>
    refine ⟨h.wf, by simp [St.put, Act.put, h.size], fun t s' ht => ?_, h.bx, h.gn, h.defers⟩
    simp only [St.put, Act.put] at ht ⊢
    rw [List.getElem?_set] at ht
    simp only [Array.getD_eq_getD_getElem?, Array.getElem?_setIfInBounds]
    have hsz := h.size
    by_cases hd : d = t
    · subst hd
      simp only [if_true] at ht ⊢
      split at ht
      · simp at ht; subst ht
        rw [if_pos (by omega)]; exact hs
      · simp at ht
    · rw [if_neg hd] at ht ⊢
      have := h.fr t s' ht
      simpa [Array.getD_eq_getD_getElem?] using this

structure Res where
  ok : Prop
  v : SV
  st : St

/-- What the step says of the operation. -/
def Sound (P : Program) (o : Oper) (S : St) (r : Res) : Prop :=
  r.ok → ∀ (G : Gh) (w : World) (a : Act), Rel G w S a →
    ∃ (nx : Next) (v : Value) (w' : World) (G' : Gh), (execOp a.eval o).run P w = .ok nx w' ∧ (nx = .value v ∨ (nx = .skip ∧ v = undef)) ∧
      Step G w G' w' ∧ Rel G' w' r.st a ∧ RepS G' w' r.v v ∧ ∀ i, 1000 ≤ i → G'.ow (i, 0) = G.ow (i, 0)

theorem Sound.still {P : Program} {o : Oper} {S : St} {s : SV} {p : Prop}
    (h : p → ∀ (G : Gh) (w : World) (a : Act), Rel G w S a → ∃ v, (execOp a.eval o).run P w = .ok (.value v) w ∧ RepS G w s v) : Sound P o S ⟨p, s, S⟩ := by
  intro hp G w a hr
  obtain ⟨v, h1, h2⟩ := h hp G w a hr
  exact ⟨_, v, w, G, h1, .inl rfl, Step.refl G w, hr, h2, fun _ _ => rfl⟩

def aBin (op : BinOp) (a b : Value) : Option (Prop × Value) :=
  match op, a, b with
  | .add, .int k x, .int k' y => if k = k' then some (True, .int k (k.wrap (x + y))) else none
  | .sub, .int k x, .int k' y => if k = k' then some (True, .int k (k.wrap (x - y))) else none
  | .mul, .int k x, .int k' y => if k = k' then some (True, .int k (k.wrap (x * y))) else none
  | .eql, .int k x, .int k' y => if k = k' then some (True, .bool (x == y)) else none
  | .neq, .int k x, .int k' y => if k = k' then some (True, .bool (x != y)) else none
  | .lss, .int k x, .int k' y => if k = k' then some (True, .bool (decide (x < y))) else none
  | .leq, .int k x, .int k' y => if k = k' then some (True, .bool (decide (x ≤ y))) else none
  | .gtr, .int k x, .int k' y => if k = k' then some (True, .bool (decide (x > y))) else none
  | .geq, .int k x, .int k' y => if k = k' then some (True, .bool (decide (x ≥ y))) else none
  | .eql, .string x, .string y => some (True, .bool (eqs x y))
  | .neq, .string x, .string y => some (True, .bool (!eqs x y))
  | .add, .string x, .string y => some (((x.size + y.size : Nat) : Int) ≤ IntKind.i64.max, .string (x ++ y))
  | _, _, _ => none

theorem aBin_sound {P : Program} {op : BinOp} {a b : Value} {p : Prop} {v : Value} (h : aBin op a b = some (p, v)) (hp : p) (t : TypeId) (w : World) (x y : Operand) :
    (do eqGuard op t x y a b; binOp op t a b : Sem Value).run P w = .ok v w ∧ v.oneCell' = true := by
  unfold aBin at h
  split at h
  all_goals first
    | (simp only [Option.ite_none_right_eq_some, Option.some.injEq, Prod.mk.injEq] at h; obtain ⟨rfl, -, rfl⟩ := h
       refine ⟨?_, rfl⟩
       simp [eqGuard, binOp, Op.intArith, Op.intCmp, go_sem]; done)
    | (simp only [Option.some.injEq, Prod.mk.injEq] at h; obtain ⟨rfl, rfl⟩ := h
       refine ⟨?_, rfl⟩
       try simp only [← eqs_toList]
       simp [eqGuard, binOp, go_sem]
       first | rfl | (simp [IntKind.max, IntKind.signed, IntKind.bits] at hp; omega))
    | simp at h

end Go.Eng
