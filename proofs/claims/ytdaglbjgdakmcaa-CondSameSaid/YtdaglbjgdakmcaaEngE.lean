/- The operations, one by one. -/
import Derived.Test.YtdaglbjgdakmcaaEngD
set_option linter.unusedSimpArgs false
set_option linter.unusedVariables false
namespace Go.Eng

def tInfo (P : Program) (t : TypeId) : Option (Nat × Nat × Option Value) := (P.info? t).map (fun i => (i.size, i.bytes, i.zero))
def tAgg (P : Program) (t : TypeId) : Option Bool := (P.underlying t).map (fun | .struct _ => true | .array _ _ => true | _ => false)
def tField (P : Program) (s f : Nat) : Option (Nat × TypeId) :=
  match P.underlying s with
  | some (.struct fs) => (fs[f]?).map (fun x => (x.offset, x.type))
  | _ => none
def tElem (P : Program) (t : TypeId) : Option TypeId :=
  match P.underlying t with
  | some (.slice e) => some e
  | _ => none
def tStr (P : Program) (t : TypeId) : Bool :=
  match P.underlying t with
  | some .string => true
  | _ => false
def tMap (P : Program) (t : TypeId) : Option (TypeId × TypeId) :=
  match P.underlying t with
  | some (.map k e) => some (k, e)
  | _ => none

section
variable {P : Program}

theorem run_typeInfo' {t : TypeId} {i : TypeInfo} (h : P.info? t = some i) (w : World) : (typeInfo t).run P w = .ok i w := by simp [typeInfo, h]
theorem run_underlying' {t : TypeId} {d : TypeDesc} (h : P.underlying t = some d) (w : World) : (underlying t).run P w = .ok d w := by simp [underlying, h]
theorem run_sizeOf' {t : TypeId} {n b : Nat} {z : Option Value} (h : tInfo P t = some (n, b, z)) (w : World) : (sizeOf t).run P w = .ok n w := by
  simp only [tInfo, Option.map_eq_some_iff] at h
  obtain ⟨i, h1, h2⟩ := h
  simp only [Prod.mk.injEq] at h2
  simp [sizeOf, run_typeInfo' h1, h2.1]
theorem run_zeroValue' {t : TypeId} {n b : Nat} {z : Value} (h : tInfo P t = some (n, b, some z)) (w : World) : (zeroValue t).run P w = .ok z w := by
  simp only [tInfo, Option.map_eq_some_iff] at h
  obtain ⟨i, h1, h2⟩ := h
  simp only [Prod.mk.injEq] at h2
  simp [zeroValue, run_typeInfo' h1, h2.2.2]
theorem run_isAgg' {t : TypeId} {b : Bool} (h : tAgg P t = some b) (w : World) : (isAgg t).run P w = .ok b w := by
  simp only [tAgg, Option.map_eq_some_iff] at h
  obtain ⟨d, h1, h2⟩ := h
  simp only [isAgg, Sem.run_bind, run_underlying' h1, Result.andThen_ok]
  cases d <;> simp_all

end

def AV.cells : AV → List AV
  | .agg l => l
  | x => [x]

theorem Rep.cells {U : Nat → Nat} {w : World} {x : AV} {u : Value} (h : Rep U w x u) (ht : ∀ l, x ≠ .tup l) : RepL U w x.cells u.cells.toList ∧ ∀ c ∈ u.cells.toList, c.oneCell' = true := by
  cases x with
  | agg l =>
    simp only [Rep] at h
    obtain ⟨us, rfl, h2, h3⟩ := h
    exact ⟨h2, h3⟩
  | val v =>
    have h0 := h
    simp only [Rep] at h
    obtain ⟨rfl, h2⟩ := h
    have : u.cells = #[u] := by cases u <;> simp_all [Value.cells, Value.oneCell']
    rw [this]
    exact ⟨by simp only [AV.cells, RepL]; exact ⟨u, [], rfl, h0, rfl⟩, by simpa using h2⟩
  | sl l =>
    have h0 := h
    simp only [Rep] at h
    obtain ⟨a, cap, es, sz, rfl, _⟩ := h
    exact ⟨by simp only [AV.cells, RepL]; exact ⟨_, [], rfl, h0, rfl⟩, by simp [Value.cells, Value.oneCell']⟩
  | tup l => exact (ht l rfl).elim
  | ro l off =>
    have h0 := h
    simp only [Rep] at h
    obtain ⟨b, o, us, rfl, _⟩ := h
    exact ⟨by simp only [AV.cells, RepL]; exact ⟨_, [], rfl, h0, rfl⟩, by simp [Value.cells, Value.oneCell']⟩
  | rm ks vs =>
    have h0 := h
    simp only [Rep] at h
    obtain ⟨b, ents, clock, rfl, _⟩ := h
    exact ⟨by simp only [AV.cells, RepL]; exact ⟨_, [], rfl, h0, rfl⟩, by simp [Value.cells, Value.oneCell']⟩

def AV.isTup : AV → Bool
  | .tup _ => true
  | _ => false

theorem Rep.cells' {U : Nat → Nat} {w : World} {x : AV} {u : Value} (h : Rep U w x u) (ht : x.isTup = false) : RepL U w x.cells u.cells.toList ∧ ∀ c ∈ u.cells.toList, c.oneCell' = true :=
  h.cells (fun l e => by subst e; simp [AV.isTup] at ht)

/-- The cells of what is put into a box. -/
def AV.toCell : AV → SV
  | .val (.slice none 0 0) => .nil
  | x => .av x

theorem RepSs_cell {G : Gh} {w : World} : ∀ {l : List AV} {us : List Value}, RepL G.U w l us → RepSs G w (l.map AV.toCell) us
  | [], _, h => by simpa [RepL, RepSs] using h
  | x :: l, us, h => by
    simp only [RepL] at h
    obtain ⟨u, us', rfl, h2, h3⟩ := h
    refine ⟨u, us', rfl, ?_, RepSs_cell h3⟩
    unfold AV.toCell
    split
    · simp only [Rep] at h2; exact h2.1
    · exact h2

def SV.cells : SV → Option (List SV)
  | .av (.agg l) => some (l.map AV.toCell)
  | .av (.tup _) => none
  | .junk => none
  | s => some [s]

theorem RepS.cells {G : Gh} {w : World} {s : SV} {u : Value} {l : List SV} (h : RepS G w s u) (hl : s.cells = some l) : RepSs G w l u.cells.toList ∧ ∀ c ∈ u.cells.toList, c.oneCell' = true := by
  cases s with
  | junk => simp [SV.cells] at hl
  | nil => simp [SV.cells] at hl; subst hl; simp only [RepS] at h; subst h; exact ⟨⟨_, [], rfl, rfl, rfl⟩, by simp [Value.cells, Value.oneCell']⟩
  | ptr b o => simp [SV.cells] at hl; subst hl; have h0 := h; obtain ⟨blk, _, rfl⟩ := h; exact ⟨⟨_, [], rfl, h0, rfl⟩, by simp [Value.cells, Value.oneCell']⟩
  | mp b => simp [SV.cells] at hl; subst hl; have h0 := h; obtain ⟨blk, _, rfl⟩ := h; exact ⟨⟨_, [], rfl, h0, rfl⟩, by simp [Value.cells, Value.oneCell']⟩
  | son b => simp [SV.cells] at hl; subst hl; have h0 := h; rcases h with rfl | ⟨blk, _, rfl⟩ <;> exact ⟨⟨_, [], rfl, h0, rfl⟩, by simp [Value.cells, Value.oneCell']⟩
  | fn f fs cs => simp [SV.cells] at hl; subst hl; have h0 := h; obtain ⟨vs, us, rfl, _⟩ := h; exact ⟨⟨_, [], rfl, h0, rfl⟩, by simp [Value.cells, Value.oneCell']⟩
  | own k g sz l' =>
    simp [SV.cells] at hl; subst hl
    have h0 := h
    obtain ⟨_, _, a, cap, es, rfl, _⟩ := h
    exact ⟨⟨_, [], rfl, h0, rfl⟩, by simp [Value.cells, Value.oneCell']⟩
  | av x =>
    have hx : Rep G.U w x u := h
    cases x with
    | agg l' =>
      simp [SV.cells] at hl; subst hl
      obtain ⟨h1, h2⟩ := hx.cells (by simp)
      exact ⟨RepSs_cell h1, h2⟩
    | tup l' => simp [SV.cells] at hl
    | val v =>
      simp [SV.cells] at hl; subst hl
      obtain ⟨h1, h2⟩ := hx.cells (by simp)
      exact ⟨RepSs_av h1, h2⟩
    | sl l' =>
      simp [SV.cells] at hl; subst hl
      obtain ⟨h1, h2⟩ := hx.cells (by simp)
      exact ⟨RepSs_av h1, h2⟩
    | ro l' o =>
      simp [SV.cells] at hl; subst hl
      obtain ⟨h1, h2⟩ := hx.cells (by simp)
      exact ⟨RepSs_av h1, h2⟩
    | rm ks vs =>
      simp [SV.cells] at hl; subst hl
      obtain ⟨h1, h2⟩ := hx.cells (by simp)
      exact ⟨RepSs_av h1, h2⟩

/- move, assign -/
theorem sound_move {P : Program} {o : Oper} {S : St} {x : Operand} (ho : o.op = .move x ∨ o.op = .assign x) : Sound P o S ⟨True, S.ev x, S⟩ :=
  Sound.still fun _ G w a hr => ⟨a.eval x, by rcases ho with ho | ho <;> simp [execOp, ho], hr.ev x⟩

theorem sound_pick {P : Program} {o : Oper} {S : St} {c x y : Operand} {p : Bool} (ho : o.op = .pick c x y) (hc : S.ev c = .av (.val (.bool p))) : Sound P o S ⟨True, if p then S.ev x else S.ev y, S⟩ :=
  Sound.still fun _ G w a hr => by
    have h := hr.ev c
    rw [hc] at h
    simp only [RepS, Rep] at h
    refine ⟨if p then a.eval x else a.eval y, by simp [execOp, ho, h.1, asBool], ?_⟩
    cases p
    · exact hr.ev y
    · exact hr.ev x

theorem sound_bin {P : Program} {o : Oper} {S : St} {op : BinOp} {t t' : TypeId} {x y : Operand} {u v : Value} {p : Prop} {r : Value} (ho : o.op = .binOp op t x y t') (hx : S.ev x = .av (.val u)) (hy : S.ev y = .av (.val v))
    (hb : aBin op u v = some (p, r)) : Sound P o S ⟨p, .av (.val r), S⟩ :=
  Sound.still fun hp G w a hr => by
    have h1 := hr.ev x; rw [hx] at h1; simp only [RepS, Rep] at h1
    have h2 := hr.ev y; rw [hy] at h2; simp only [RepS, Rep] at h2
    obtain ⟨h3, h4⟩ := aBin_sound (P := P) hb hp t w x y
    refine ⟨r, ?_, ⟨rfl, h4⟩⟩
    simp only [execOp, ho, h1.1, h2.1]
    simp only [Sem.run_bind] at h3 ⊢
    rw [h3]; rfl

def aUn (op : UnOp) (v : Value) : Option Value :=
  match op, v with
  | .not, .bool b => some (.bool (!b))
  | .neg, .int k n => some (.int k (k.wrap (0 - n)))
  | _, _ => none

theorem sound_un {P : Program} {o : Oper} {S : St} {op : UnOp} {t : TypeId} {x : Operand} {u r : Value} (ho : o.op = .unOp op t x) (hx : S.ev x = .av (.val u)) (hb : aUn op u = some r) : Sound P o S ⟨True, .av (.val r), S⟩ :=
  Sound.still fun _ G w a hr => by
    have h1 := hr.ev x; rw [hx] at h1; simp only [RepS, Rep] at h1
    unfold aUn at hb
    split at hb
    · simp at hb; subst hb; exact ⟨_, by simp [execOp, ho, h1.1, Op.unary], ⟨rfl, rfl⟩⟩
    · simp at hb; subst hb; exact ⟨_, by simp [execOp, ho, h1.1, Op.unary, Op.intArith], ⟨rfl, rfl⟩⟩
    · simp at hb

theorem sound_extract {P : Program} {o : Oper} {S : St} {x : Operand} {i : Nat} {l : List AV} {y : AV} (ho : o.op = .extract x i) (hx : S.ev x = .av (.tup l)) (hy : l[i]? = some y) : Sound P o S ⟨True, .av y, S⟩ :=
  Sound.still fun _ G w a hr => by
    have h1 := hr.ev x; rw [hx] at h1; simp only [RepS, Rep] at h1
    obtain ⟨us, h2, h3⟩ := h1
    obtain ⟨u, h4, h5⟩ := h3.get i y hy
    have h6 : us[i]? = some u := by simpa using h4
    exact ⟨u, by simp [execOp, ho, h2, Instr.extract, h6], h5⟩

theorem sound_nilCheck_ptr {P : Program} {o : Oper} {S : St} {x : Operand} {b off : Nat} (ho : o.op = .nilCheck x) (hx : S.ev x = .ptr b off) : Sound P o S ⟨True, .ptr b off, S⟩ :=
  Sound.still fun _ G w a hr => by
    have h1 := hr.ev x; rw [hx] at h1
    have h0 := h1
    obtain ⟨blk, h2, h3⟩ := h1
    exact ⟨_, by simp only [execOp, ho, h3]; rfl, by rw [← h3]; exact h0⟩

theorem sound_nilCheck_ro {P : Program} {o : Oper} {S : St} {x : Operand} {l : List AV} {off : Nat} (ho : o.op = .nilCheck x) (hx : S.ev x = .av (.ro l off)) : Sound P o S ⟨True, .av (.ro l off), S⟩ :=
  Sound.still fun _ G w a hr => by
    have h1 := hr.ev x; rw [hx] at h1
    have h0 := h1
    simp only [RepS, Rep] at h1
    obtain ⟨b, o', us, h3, _⟩ := h1
    exact ⟨_, by simp only [execOp, ho, h3]; rfl, by rw [← h3]; exact h0⟩

theorem addr_add (b o n : Nat) : (⟨b, o, none⟩ : Addr).add n = ⟨b, o + n, none⟩ := by
  unfold Addr.add; split <;> simp_all

theorem run_fieldAt {P : Program} {s f off : Nat} {ft : TypeId} {sz bt : Nat} {z : Option Value} (h : tField P s f = some (off, ft)) (hs : tInfo P ft = some (sz, bt, z)) (h0 : sz ≠ 0) (b o : Nat) (w : World) :
    (Instr.fieldAt s (.pointer (some ⟨b, o, none⟩)) f).run P w = .ok (.pointer (some ⟨b, o + off, none⟩)) w := by
  unfold tField at h
  split at h
  · rename_i fs hu
    simp only [Option.map_eq_some_iff, Prod.mk.injEq] at h
    obtain ⟨fd, h1, h2, h3⟩ := h
    subst h3
    simp [Instr.fieldAt, run_underlying' hu, h1, Instr.sureAddr, fieldPlace, run_sizeOf' hs, h0, addr_add, h2]
  · simp at h

theorem sound_fieldAddr_ptr {P : Program} {o : Oper} {S : St} {s f off : Nat} {ft : TypeId} {sz bt : Nat} {z : Option Value} {x : Operand} {b k : Nat} (ho : o.op = .fieldAddr s x f) (hx : S.ev x = .ptr b k)
    (h : tField P s f = some (off, ft)) (hs : tInfo P ft = some (sz, bt, z)) (h0 : sz ≠ 0) : Sound P o S ⟨True, .ptr b (k + off), S⟩ :=
  Sound.still fun _ G w a hr => by
    have h1 := hr.ev x; rw [hx] at h1
    obtain ⟨blk, h2, h3⟩ := h1
    refine ⟨_, by simp only [execOp, ho, h3, Sem.run_bind, run_fieldAt h hs h0]; rfl, ⟨blk, h2, rfl⟩⟩

theorem sound_fieldAddr_ro {P : Program} {o : Oper} {S : St} {s f off : Nat} {ft : TypeId} {sz bt : Nat} {z : Option Value} {x : Operand} {l : List AV} {k : Nat} (ho : o.op = .fieldAddr s x f) (hx : S.ev x = .av (.ro l k))
    (h : tField P s f = some (off, ft)) (hs : tInfo P ft = some (sz, bt, z)) (h0 : sz ≠ 0) : Sound P o S ⟨True, .av (.ro l (k + off)), S⟩ :=
  Sound.still fun _ G w a hr => by
    have h1 := hr.ev x; rw [hx] at h1
    simp only [RepS, Rep] at h1
    obtain ⟨b, o', us, h3, h4⟩ := h1
    refine ⟨_, by simp only [execOp, ho, h3, Sem.run_bind, run_fieldAt h hs h0]; rfl, ?_⟩
    simp only [RepS, Rep]
    exact ⟨b, o', us, by rw [Nat.add_assoc], h4⟩

theorem run_loadVar_one {P : Program} {t : TypeId} (h : tAgg P t = some false) {w : World} {b o : Nat} {v : Value} (hc : w.cell? ⟨b, o, none⟩ = some v) : (loadVar t ⟨b, o, none⟩).run P w = .ok v w := by
  simp [loadVar, run_isAgg' h, hc]

theorem run_loadVar_agg {P : Program} {t : TypeId} (h : tAgg P t = some true) {sz bt : Nat} {z : Option Value} (hs : tInfo P t = some (sz, bt, z)) {w : World} {b o : Nat} {vs : List Value} (hl : vs.length = sz) (hc : ∀ j v, vs[j]? = some v → w.cell? ⟨b, o + j, none⟩ = some v) :
    (loadVar t ⟨b, o, none⟩).run P w = .ok (.agg vs.toArray) w := by
  have := run_loadCells_list (P := P) w ⟨b, o, none⟩ vs (fun j v hj => by rw [addr_add]; exact hc j v hj)
  rw [hl] at this
  simp [loadVar, run_isAgg' h, run_sizeOf' hs, this]

def SV.allAV : List SV → Option (List AV)
  | [] => some []
  | s :: l => match s.toAV, SV.allAV l with
    | some x, some r => some (x :: r)
    | _, _ => none

theorem RepSs.allAV {G : Gh} {w : World} : ∀ {l : List SV} {us : List Value} {r : List AV}, RepSs G w l us → SV.allAV l = some r → RepL G.U w r us
  | [], us, r, h, hr => by simp [SV.allAV] at hr; subst hr; simp only [RepSs] at h; subst h; simp [RepL]
  | s :: l, us, r, h, hr => by
    simp only [SV.allAV] at hr
    split at hr
    · rename_i x r' hx hr'
      simp at hr; subst hr
      obtain ⟨u, us', rfl, h2, h3⟩ := h
      simp only [RepL]
      exact ⟨u, us', rfl, h2.toAV hx, h3.allAV hr'⟩
    · simp at hr

theorem sound_load_ptr {P : Program} {o : Oper} {S : St} {t : TypeId} {x : Operand} {b k : Nat} {ty : TypeId} {l : List SV} {s : SV} (ho : o.op = .load t x) (hx : S.ev x = .ptr b k) (ht : tAgg P t = some false) (hb : S.bx.lookup b = some (.cells ty l)) (hs : l[k]? = some s) : Sound P o S ⟨True, s, S⟩ :=
  Sound.still fun _ G w a hr => by
    have h1 := hr.ev x; rw [hx] at h1
    obtain ⟨blk, h2, h3⟩ := h1
    obtain ⟨blk', arr, g1, g2, g3, g4, g5⟩ := hr.bx _ (lookup_mem hb)
    simp only at g1
    rw [h2] at g1; simp at g1; subst g1
    obtain ⟨u, h4, h5⟩ := g4.get k s hs
    have hc : w.cell? ⟨blk, k, none⟩ = some u := by simpa [World.cell?, g2] using h4
    exact ⟨u, by simp [execOp, ho, h3, Instr.loadAt, Instr.sureAddr, run_loadVar_one ht hc], h5⟩

theorem sound_load_ptr_agg {P : Program} {o : Oper} {S : St} {t : TypeId} {sz bt : Nat} {z : Option Value} {x : Operand} {b k : Nat} {ty : TypeId} {l : List SV} {r : List AV} (ho : o.op = .load t x) (hx : S.ev x = .ptr b k) (ht : tAgg P t = some true) (hi : tInfo P t = some (sz, bt, z))
    (hb : S.bx.lookup b = some (.cells ty l)) (hs : SV.allAV ((l.drop k).take sz) = some r) (hsz : r.length = sz) : Sound P o S ⟨True, .av (.agg r), S⟩ :=
  Sound.still fun _ G w a hr => by
    have h1 := hr.ev x; rw [hx] at h1
    obtain ⟨blk, h2, h3⟩ := h1
    obtain ⟨blk', arr, g1, g2, g3, g4, g5⟩ := hr.bx _ (lookup_mem hb)
    simp only at g1
    rw [h2] at g1; simp at g1; subst g1
    have h4 := ((g4.drop k).take sz).allAV hs
    have hl := h4.length
    have hc : ∀ j v, ((arr.toList.drop k).take sz)[j]? = some v → w.cell? ⟨blk, k + j, none⟩ = some v := by
      intro j v hj
      rw [List.getElem?_take] at hj
      split at hj
      · simp only [List.getElem?_drop] at hj; simpa [World.cell?, g2] using hj
      · simp at hj
    refine ⟨.agg ((arr.toList.drop k).take sz).toArray, by simp [execOp, ho, h3, Instr.loadAt, Instr.sureAddr, run_loadVar_agg ht hi (hl.trans hsz) hc], ?_⟩
    simp only [RepS, Rep]
    exact ⟨_, rfl, h4, fun y hy => g5 y (List.mem_of_mem_drop (List.mem_of_mem_take hy))⟩

theorem sound_load_ro {P : Program} {o : Oper} {S : St} {t : TypeId} {x : Operand} {k : Nat} {l : List AV} {s : AV} (ho : o.op = .load t x) (hx : S.ev x = .av (.ro l k)) (ht : tAgg P t = some false) (hs : l[k]? = some s) : Sound P o S ⟨True, .av s, S⟩ :=
  Sound.still fun _ G w a hr => by
    have h1 := hr.ev x; rw [hx] at h1
    simp only [RepS, Rep] at h1
    obtain ⟨b, o', us, h3, h4, h5, h6⟩ := h1
    obtain ⟨u, h7, h8⟩ := h4.get k s hs
    exact ⟨u, by simp [execOp, ho, h3, Instr.loadAt, Instr.sureAddr, run_loadVar_one ht (h6 k u h7).1], h8⟩

theorem sound_load_ro_agg {P : Program} {o : Oper} {S : St} {t : TypeId} {sz bt : Nat} {z : Option Value} {x : Operand} {k : Nat} {l : List AV} (ho : o.op = .load t x) (hx : S.ev x = .av (.ro l k)) (ht : tAgg P t = some true) (hi : tInfo P t = some (sz, bt, z))
    (hsz : k + sz ≤ l.length) : Sound P o S ⟨True, .av (.agg ((l.drop k).take sz)), S⟩ :=
  Sound.still fun _ G w a hr => by
    have h1 := hr.ev x; rw [hx] at h1
    simp only [RepS, Rep] at h1
    obtain ⟨b, o', us, h3, h4, h5, h6⟩ := h1
    have h7 := (h4.drop k).take sz
    have hl := h4.length
    have hc : ∀ j v, ((us.drop k).take sz)[j]? = some v → w.cell? ⟨b, (o' + k) + j, none⟩ = some v := by
      intro j v hj
      rw [List.getElem?_take] at hj
      split at hj
      · simp only [List.getElem?_drop] at hj; have := (h6 _ v hj).1; rwa [Nat.add_assoc]
      · simp at hj
    refine ⟨.agg ((us.drop k).take sz).toArray, by simp [execOp, ho, h3, Instr.loadAt, Instr.sureAddr, run_loadVar_agg ht hi (vs := (us.drop k).take sz) (by simp; omega) hc], ?_⟩
    simp only [RepS, Rep]
    refine ⟨_, rfl, h7, fun y hy => ?_⟩
    have hy' := List.mem_of_mem_drop (List.mem_of_mem_take hy)
    obtain ⟨j, hj⟩ := List.mem_iff_getElem?.1 hy'
    exact (h6 j y hj).2

theorem sound_store {P : Program} {o : Oper} {S : St} {t : TypeId} {sz bt : Nat} {z : Option Value} {x y : Operand} {b k : Nat} {ty : TypeId} {l xs : List SV} (ho : o.op = .store t x y) (hx : S.ev x = .ptr b k) (hi : tInfo P t = some (sz, bt, z))
    (hb : S.bx.lookup b = some (.cells ty l)) (hs : (S.ev y).cells = some xs) (hsz : xs.length = sz) (hle : k + sz ≤ l.length) :
    Sound P o S ⟨True, undefS, S.setBox b (.cells ty (l.take k ++ xs ++ l.drop (k + xs.length)))⟩ := by
  intro _ G w a hr
  have h1 := hr.ev x; rw [hx] at h1
  obtain ⟨blk, h2, h3⟩ := h1
  obtain ⟨h4, h5⟩ := (hr.ev y).cells hs
  have hl := h4.length
  obtain ⟨w', e1, e2, e3⟩ := hr.storeBox hb h2 k h4 h5 (by omega)
  refine ⟨.skip, undef, w', G, ?_, .inr ⟨rfl, rfl⟩, e2, e3, ?_, fun _ _ => rfl⟩
  · have hcs : (a.eval y).cells.size = sz := by simpa [hsz] using hl
    simp [execOp, ho, h3, Instr.storeAt, Instr.sureAddr, storeVar, run_sizeOf' hi, hcs, e1 P]
  · simp only [undefS, RepS, Rep]; exact ⟨#[], rfl, by simp [RepL]⟩

def zeroCells (z : Value) : List SV := z.cells.toList.map constSV

theorem RepSs_const {G : Gh} {w : World} : ∀ (l : List Value), RepSs G w (l.map constSV) l
  | [] => rfl
  | c :: l => ⟨c, l, rfl, RepS_const G w c, RepSs_const l⟩

theorem const_names (id : Nat) (v : Value) : (constSV v).names id = false := by
  unfold constSV
  split
  · rfl
  · split <;> rfl
  · rfl
  · rfl

theorem sound_alloc {P : Program} {o : Oper} {S : St} {t : TypeId} {sz bt : Nat} {z : Value} {id : Nat} (ho : o.op = .alloc t) (hi : tInfo P t = some (sz, bt, some z)) (h1 : z.cells.toList.all (fun c => c.oneCell') = true) (hid : id < 1000) (hn : S.names id = false) :
    Sound P o S ⟨True, .ptr id 0, S.addBox id (.cells t (zeroCells z))⟩ := by
  intro _ G w a hr
  have h1' : ∀ x ∈ z.cells.toList, x.oneCell' = true := fun c hc => List.all_eq_true.1 h1 c hc
  obtain ⟨e1, e2, e3⟩ := hr.newBox hn t (RepSs_const z.cells.toList) (fun s hs => by simp only [List.mem_map] at hs; obtain ⟨v, _, rfl⟩ := hs; exact const_names id v) h1'
  refine ⟨_, _, _, _, ?_, .inl rfl, e1, e2, e3, fun i hi => ?_⟩
  · simp [execOp, ho, Instr.alloc, run_zeroValue' hi, newVar, newRow]
  · simp only [Gh.bind]; rw [if_neg (by intro h; simp only [Prod.mk.injEq] at h; omega)]

theorem sound_box {P : Program} {o : Oper} {S : St} {t : TypeId} {x : Operand} {id : Nat} {xs : List SV} (ho : o.op = .box t x) (hs : (S.ev x).cells = some xs) (hid : id < 1000) (hn : S.names id = false) (hx : xs.all (fun s => !s.names id) = true) :
    Sound P o S ⟨True, .ptr id 0, S.addBox id (.cells t xs)⟩ := by
  intro _ G w a hr
  obtain ⟨h4, h5⟩ := (hr.ev x).cells hs
  obtain ⟨e1, e2, e3⟩ := hr.newBox hn t h4 (fun s hs => by rw [List.all_eq_true] at hx; simpa using hx s hs) h5
  refine ⟨_, _, _, _, ?_, .inl rfl, e1, e2, e3, fun i hi => ?_⟩
  · simp [execOp, ho, Instr.box, newVar, newRow]
  · simp only [Gh.bind]; rw [if_neg (by intro h; simp only [Prod.mk.injEq] at h; omega)]

end Go.Eng
