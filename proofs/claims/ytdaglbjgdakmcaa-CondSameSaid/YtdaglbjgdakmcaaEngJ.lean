/- One operation as a function on states; a region; a call. -/
import Derived.Test.YtdaglbjgdakmcaaEngMap
set_option linter.unusedSimpArgs false
set_option linter.unusedVariables false
namespace Go.Eng

def aField (P : Program) (s : TypeId) (v : SV) (f : Nat) (S : St) : Option Res :=
  match tField P s f with
  | some (off, ft) => match tInfo P ft with
    | some (sz, _, _) => if sz = 0 then none else match v with
      | .ptr b k => some ⟨True, .ptr b (k + off), S⟩
      | .av (.ro l k) => some ⟨True, .av (.ro l (k + off)), S⟩
      | _ => none
    | none => none
  | none => none

def aLoad (P : Program) (t : TypeId) (v : SV) (S : St) : Option Res :=
  match tAgg P t with
  | some false => match v with
    | .ptr b k => match S.bx.lookup b with
      | some (.cells ty l) => (l[k]?).map (fun s => ⟨True, s, S⟩)
      | _ => none
    | .av (.ro l k) => (l[k]?).map (fun s => ⟨True, .av s, S⟩)
    | _ => none
  | some true => match tInfo P t with
    | some (sz, _, _) => match v with
      | .ptr b k => match S.bx.lookup b with
        | some (.cells ty l) => match SV.allAV ((l.drop k).take sz) with
          | some r => if r.length = sz then some ⟨True, .av (.agg r), S⟩ else none
          | none => none
        | _ => none
      | .av (.ro l k) => if k + sz ≤ l.length then some ⟨True, .av (.agg ((l.drop k).take sz)), S⟩ else none
      | _ => none
    | none => none
  | none => none

def aStore (P : Program) (t : TypeId) (v x : SV) (S : St) : Option Res :=
  match tInfo P t with
  | some (sz, _, _) => match v with
    | .ptr b k => match S.bx.lookup b, x.cells with
      | some (.cells ty l), some xs => if xs.length = sz ∧ k + sz ≤ l.length then some ⟨True, undefS, S.setBox b (.cells ty (l.take k ++ xs ++ l.drop (k + xs.length)))⟩ else none
      | _, _ => none
    | _ => none
  | none => none

def aAlloc (P : Program) (d : Option Tmp) (t : TypeId) (S : St) : Option Res :=
  match d, tInfo P t with
  | some id, some (_, _, some z) => if z.cells.toList.all (fun c => c.oneCell') ∧ id < 1000 ∧ S.names id = false then some ⟨True, .ptr id 0, S.addBox id (.cells t (zeroCells z))⟩ else none
  | _, _ => none

def aBox (d : Option Tmp) (t : TypeId) (x : SV) (S : St) : Option Res :=
  match d, x.cells with
  | some id, some xs => if id < 1000 ∧ S.names id = false ∧ xs.all (fun s => !s.names id) = true then some ⟨True, .ptr id 0, S.addBox id (.cells t xs)⟩ else none
  | _, _ => none

def aBuild (P : Program) (t : TypeId) (parts : List (Nat × Operand)) (S : St) : Option Res :=
  match tInfo P t, tPlaces P t, partsAV S parts with
  | some (_, _, some z), some pl, some ps => if z.cells.toList.all (fun c => c.oneCell') then (aFill pl (z.cells.toList.map .val) ps).map (fun r => ⟨True, .av (.agg r), S⟩) else none
  | _, _, _ => none

def aBuildSlice (P : Program) (t : TypeId) (n : Nat) (parts : List (Nat × Operand)) (S : St) : Option Res :=
  match tElem P t with
  | some e => match tInfo P e, allAVop S (parts.map (·.2)) with
    | some (sz, _, some _), some ps => if parts.map (·.1) = List.range n ∧ n * sz ≤ 16777216 then some ⟨Uni sz ps, .av (.sl ps), S⟩ else none
    | _, _ => none
  | none => none

def aIndexAddr (P : Program) (t : TypeId) (x i : SV) (S : St) : Option Res :=
  match tElem P t with
  | some e => match tInfo P e, x.toAV, i with
    | some (sz, _, _), some (.sl l), .av (.val (.int _ i)) => if 0 < sz then some ⟨0 ≤ i ∧ i < l.length ∧ (l.getD i.toNat (.val undef)).cells.length = sz ∧ (l.getD i.toNat (.val undef)).isTup = false, .av (.ro (l.getD i.toNat (.val undef)).cells 0), S⟩ else none
    | _, _, _ => none
  | none => none

def aIndex (P : Program) (t : TypeId) (x i : SV) (S : St) : Option Res :=
  match x, i with
  | .av (.val (.string s)), .av (.val (.int _ i)) => if tStr P t = true then some ⟨0 ≤ i ∧ i < s.size, .av (.val (.int .u8 ((s.data.getD i.toNat 0).toNat : Nat))), S⟩ else none
  | _, _ => none

def aBound (d : Int) : Option SV → Option Int
  | none => some d
  | some (.av (.val (.int _ i))) => some i
  | _ => none

def aSlice (P : Program) (t : TypeId) (x : SV) (lo hi : Option SV) (S : St) : Option Res :=
  match x.toAV with
  | some (.val (.string s)) => match aBound 0 lo, aBound s.size hi with
    | some i, some j => if tStr P t = true then some ⟨0 ≤ i ∧ i ≤ j ∧ j ≤ s.size, .av (.val (.string (s.extract i.toNat j.toNat))), S⟩ else none
    | _, _ => none
  | some (.sl l) => match tElem P t with
    | some e => match tInfo P e, aBound 0 lo, aBound l.length hi with
      | some (sz, _, _), some i, some j => some ⟨0 ≤ i ∧ i ≤ j ∧ j ≤ l.length ∧ Uni sz l, .av (.sl ((l.drop i.toNat).take (j.toNat - i.toNat))), S⟩
      | _, _, _ => none
    | none => none
  | _ => none

def aSrc (sz : Nat) (x : SV) : Option (List AV) :=
  match x.toAV with
  | some (.sl l) => some l
  | some (.val (.string s)) => if sz = 1 then some (bytesAV s) else none
  | _ => none

def aAppend (P : Program) (d : Option Tmp) (t t2 : TypeId) (x y : SV) (S : St) : Option Res :=
  match tElem P t, d with
  | some e, some d => match tInfo P e with
    | some (sz, bt, some z) => if z.cells.size = sz ∧ 0 < bt ∧ notInt P t2 = true then match aSrc sz y with
        | some l' => match x with
          | .own k g sz' l => if sz' = sz ∧ e + 1 = k.2 then some ⟨S.gen k = g ∧ Uni sz l' ∧ (l.length + l'.length) * bt ≤ 140737488355328, .own k (g + 1) sz (l ++ l'), S.next k⟩ else none
          | .nil => some ⟨Uni sz l' ∧ l'.length * bt ≤ 140737488355328, .own (d, e + 1) (S.gen (d, e + 1) + 1) sz l', S.next (d, e + 1)⟩
          | _ => none
        | none => none
      else none
    | _ => none
  | _, _ => none

def aLen (P : Program) (t : TypeId) (x : SV) (S : St) : Option Res :=
  match x.toAV with
  | some (.val (.string s)) => if tStr P t = true then some ⟨True, .av (.val (.int .i64 s.size)), S⟩ else none
  | some (.sl l) => if tSlice P t = true then some ⟨True, .av (.val (.int .i64 l.length)), S⟩ else none
  | _ => none

def aBuiltin (P : Program) (d : Option Tmp) (b : Builtin) (args : List Operand) (tys : List TypeId) (S : St) : Option Res :=
  match b, args, tys with
  | .len, [x], [t] => aLen P t (S.ev x) S
  | .append, [x, y], [t, t2] => aAppend P d t t2 (S.ev x) (S.ev y) S
  | .max, [x, y], _ => match S.ev x, S.ev y with
    | .av (.val (.int k i)), .av (.val (.int k' j)) => if k = k' then some ⟨True, .av (.val (.int k (max i j))), S⟩ else none
    | _, _ => none
  | .min, [x, y], _ => match S.ev x, S.ev y with
    | .av (.val (.int k i)), .av (.val (.int k' j)) => if k = k' then some ⟨True, .av (.val (.int k (min i j))), S⟩ else none
    | _, _ => none
  | _, _, _ => none

def aBinB (P : Program) (op : BinOp) (t : TypeId) (a b : Bool) (S : St) : Option Res :=
  match P.underlying t with
  | some .bool => match op with
    | .eql => some ⟨True, .av (.val (.bool (a == b))), S⟩
    | .neq => some ⟨True, .av (.val (.bool (a != b))), S⟩
    | _ => none
  | _ => none

def aBinS (P : Program) (op : BinOp) (t : TypeId) (x y : SV) (S : St) : Option Res :=
  match x, y with
  | .av (.val (.bool a)), .av (.val (.bool b)) => aBinB P op t a b S
  | .av (.val u), .av (.val v) => (aBin op u v).map (fun q => ⟨q.1, .av (.val q.2), S⟩)
  | _, _ => none

def aUnS (op : UnOp) (x : SV) (S : St) : Option Res :=
  match x with
  | .av (.val u) => (aUn op u).map (fun q => ⟨True, .av (.val q), S⟩)
  | _ => none

def aPick (c x y : SV) (S : St) : Option Res :=
  match c with
  | .av (.val (.bool p)) => some ⟨True, if p then x else y, S⟩
  | _ => none

def aExtract (x : SV) (i : Nat) (S : St) : Option Res :=
  match x with
  | .av (.tup l) => (l[i]?).map (fun y => ⟨True, .av y, S⟩)
  | _ => none

def aNilCheck (x : SV) (S : St) : Option Res :=
  match x with
  | .ptr b k => some ⟨True, .ptr b k, S⟩
  | .av (.ro l k) => some ⟨True, .av (.ro l k), S⟩
  | _ => none

def allPV (S : St) : List Operand → Option (List PV)
  | [] => some []
  | x :: l => match (S.ev x).toPV, allPV S l with
    | some y, some r => some (y :: r)
    | _, _ => none

theorem allPV_eq (S : St) : ∀ l, allPV S l = l.mapM (fun x => (S.ev x).toPV)
  | [] => rfl
  | x :: l => by
    simp only [allPV, List.mapM_cons, allPV_eq S l]
    cases (S.ev x).toPV <;> cases l.mapM (fun x => (S.ev x).toPV) <;> rfl

def aMakeFunc (fn : Fn) (first captured : List Operand) (S : St) : Option Res :=
  match fn, allPV S first, allPV S captured with
  | .func f, some fs, some cs => some ⟨True, .fn f fs cs, S⟩
  | _, _, _ => none

def isInt : SV → Bool
  | .av (.val (.int _ _)) => true
  | _ => false

def aMakeMap (P : Program) (d : Option Tmp) (t : TypeId) (r : Option SV) (S : St) : Option Res :=
  match d, tMap P t with
  | some id, some _ => if id < 1000 ∧ S.names id = false ∧ r.all isInt = true then some ⟨True, .mp id, S.addBox id (.map [] [])⟩ else none
  | _, _ => none

def aLookup (P : Program) (t : TypeId) (x i : SV) (ok : Bool) (S : St) : Option Res :=
  match tMap P t with
  | some (k, e) => match tInfo P e, i with
    | some (_, _, some z), .av (.val (.string s)) => if tStr P k = true ∧ z.oneCell' = true then match x with
        | .mp b => match S.bx.lookup b with
          | some (.map ks vs) => some ⟨True, .av (mgetT ok (constAV z) ks vs s), S⟩
          | _ => none
        | .av (.rm ks vs) => some ⟨True, .av (mgetT ok (constAV z) ks vs s), S⟩
        | _ => none
      else none
    | _, _ => none
  | none => none

def aMapUpdate (P : Program) (t : TypeId) (x i y : SV) (S : St) : Option Res :=
  match tMap P t with
  | some (k, _) => if tStr P k = true then match x, i, y.toAV with
      | .mp b, .av (.val (.string s)), some v => match S.bx.lookup b with
        | some (.map ks vs) => some ⟨True, undefS, S.setBox b (.map (mputK ks s) (mputV ks vs s v))⟩
        | _ => none
      | _, _, _ => none
    else none
  | none => none

def astep (P : Program) (o : Oper) (S : St) : Option Res :=
  match o.op with
  | .move x => some ⟨True, S.ev x, S⟩
  | .assign x => some ⟨True, S.ev x, S⟩
  | .pick c x y => aPick (S.ev c) (S.ev x) (S.ev y) S
  | .binOp op t x y _ => aBinS P op t (S.ev x) (S.ev y) S
  | .unOp op _ x => aUnS op (S.ev x) S
  | .extract x i => aExtract (S.ev x) i S
  | .nilCheck x => aNilCheck (S.ev x) S
  | .fieldAddr s x f => aField P s (S.ev x) f S
  | .load t x => aLoad P t (S.ev x) S
  | .store t x y => aStore P t (S.ev x) (S.ev y) S
  | .alloc t => aAlloc P o.dst t S
  | .box t x => aBox o.dst t (S.ev x) S
  | .build t parts => aBuild P t parts.toList S
  | .buildSlice t n parts => aBuildSlice P t n parts.toList S
  | .indexAddr t x i => aIndexAddr P t (S.ev x) (S.ev i) S
  | .index t x i => aIndex P t (S.ev x) (S.ev i) S
  | .slice t x lo hi none => aSlice P t (S.ev x) (lo.map S.ev) (hi.map S.ev) S
  | .makeFunc fn first captured => aMakeFunc fn first.toList captured.toList S
  | .call { callee := .builtin b, args, argTypes } => aBuiltin P o.dst b args.toList argTypes.toList S
  | .makeMap t r => aMakeMap P o.dst t (r.map S.ev) S
  | .lookup t x i ok => aLookup P t (S.ev x) (S.ev i) ok S
  | .mapUpdate t x i y => aMapUpdate P t (S.ev x) (S.ev i) (S.ev y) S
  | _ => none

theorem arr1 {α : Type} {a : Array α} {x : α} (h : a.toList = [x]) : a = #[x] := by rw [← Array.toArray_toList (xs := a), h]
theorem arr2 {α : Type} {a : Array α} {x y : α} (h : a.toList = [x, y]) : a = #[x, y] := by rw [← Array.toArray_toList (xs := a), h]

theorem aBound_sound {S : St} {d : Int} {o : Option Operand} {i : Int} (h : aBound d (o.map S.ev) = some i) : ∃ k : IntKind, IsBound S d k i o := by
  cases o with
  | none => simp [aBound] at h; exact ⟨.i64, h.symm⟩
  | some y =>
    simp only [Option.map_some] at h
    unfold aBound at h
    split at h
    · rename_i hh; simp at hh
    · rename_i k i' hh; simp only [Option.some.injEq] at hh h; subst h; exact ⟨k, hh⟩
    · simp at h

theorem toAV_str {s : SV} {b : ByteArray} (h : s.toAV = some (.val (.string b))) : s = .av (.val (.string b)) := by
  cases s <;> simp_all [SV.toAV]

theorem aAppend_sound {P : Program} {o : Oper} {S : St} {t t2 : TypeId} {x y : Operand} {r : Res} (ho : o.op = .call { callee := .builtin .append, args := #[x, y], argTypes := #[t, t2] }) (h : aAppend P o.dst t t2 (S.ev x) (S.ev y) S = some r) : Sound P o S r := by
  unfold aAppend at h
  split at h
  · rename_i e d h1 h2
    split at h
    · rename_i sz bt z h3
      split at h
      · rename_i h4
        obtain ⟨h4, h5, h6⟩ := h4
        split at h
        · rename_i l' h7
          have src : ∀ {G : Gh} {w : World} {a : Act}, Rel G w S a → Uni sz l' → ∃ es', Src P w G.U sz (a.eval y) l' es' := by
            intro G w a hr hu
            unfold aSrc at h7
            split at h7
            · rename_i l hl; simp at h7; subst h7; exact src_sl ((hr.ev y).toAV hl) hu
            · rename_i s hs
              split at h7
              · rename_i h1; subst h1; simp at h7; subst h7
                have := hr.ev y; rw [toAV_str hs] at this; simp only [RepS, Rep] at this
                rw [this.1]; exact src_str s
              · simp at h7
            · simp at h7
          split at h
          · rename_i k g sz' l hx
            split at h
            · rename_i hsz; obtain ⟨rfl, hke⟩ := hsz
              simp only [Option.some.injEq] at h; subst h
              rintro ⟨hgen, hu, hb⟩ G w a hr
              obtain ⟨es', hs⟩ := src hr hu
              have hown := hr.ev x; rw [hx] at hown
              obtain ⟨c, hc⟩ := exec_builtin (P := P) (a := a) ho w
              obtain ⟨v, w', G', e1, e2, e3, e4, e5⟩ := append_own (ty := o.type) h1 h6 h3 h4 h5 hr hown hke hgen hs hu hb
              exact ⟨.value v, v, w', G', by rw [hc]; simp [builtin, e1], .inl rfl, e2, e3, e4, fun i _ => e5 i⟩
            · simp at h
          · rename_i hx
            simp only [Option.some.injEq] at h; subst h
            rintro ⟨hu, hb⟩ G w a hr
            obtain ⟨es', hs⟩ := src hr hu
            have hown := hr.ev x; rw [hx] at hown
            simp only [RepS] at hown
            have hown' : RepS G w (.own (d, e + 1) (S.gen (d, e + 1)) sz []) (a.eval x) := by
              rw [hown]
              exact ⟨Nat.succ_pos _, by rw [hr.gn]; exact Nat.le_refl _, none, 0, [], rfl, by simp [RepL], by simp, by simp, by simp, by simp, .inl (by simp [vcells]), fun _ => .inl ⟨rfl, rfl⟩⟩
            obtain ⟨c, hc⟩ := exec_builtin (P := P) (a := a) ho w
            obtain ⟨v, w', G', e1, e2, e3, e4, e5⟩ := append_own (ty := o.type) h1 h6 h3 h4 h5 hr hown' rfl rfl hs hu (by simpa using hb)
            exact ⟨.value v, v, w', G', by rw [hc]; simp [builtin, e1], .inl rfl, e2, e3, by simpa using e4, fun i _ => e5 i⟩
          · simp at h
        · simp at h
      · simp at h
    · simp at h
  · simp at h

theorem sound_binB {P : Program} {o : Oper} {S : St} {op : BinOp} {t t' : TypeId} {x y : Operand} {a b : Bool} {r : Res} (ho : o.op = .binOp op t x y t') (hx : S.ev x = .av (.val (.bool a))) (hy : S.ev y = .av (.val (.bool b))) (h : aBinB P op t a b S = some r) : Sound P o S r := by
  unfold aBinB at h
  split at h
  · rename_i hu
    have key : ∀ (d : Nat) (w : World), (Op.equalIn (d + 1) t (.bool a) (.bool b)).run P w = .ok (a == b) w := fun d w => by
      simp [Op.equalIn, run_underlying' hu]
    split at h
    · simp only [Option.some.injEq] at h; subst h
      refine Sound.still fun _ G w ac hr => ?_
      have h1 := hr.ev x; rw [hx] at h1; simp only [RepS, Rep] at h1
      have h2 := hr.ev y; rw [hy] at h2; simp only [RepS, Rep] at h2
      refine ⟨.bool (a == b), ?_, by simp only [RepS, Rep]; exact ⟨trivial, rfl⟩⟩
      simp [execOp, ho, h1.1, h2.1, eqGuard, binOp, Op.equal, Op.maxDepth, key 9999]
    · simp only [Option.some.injEq] at h; subst h
      refine Sound.still fun _ G w ac hr => ?_
      have h1 := hr.ev x; rw [hx] at h1; simp only [RepS, Rep] at h1
      have h2 := hr.ev y; rw [hy] at h2; simp only [RepS, Rep] at h2
      refine ⟨.bool (a != b), ?_, by simp only [RepS, Rep]; exact ⟨trivial, rfl⟩⟩
      simp [execOp, ho, h1.1, h2.1, eqGuard, binOp, Op.equal, Op.maxDepth, key 9999, bne]
    · simp at h
  · simp at h

theorem astep_sound {P : Program} {o : Oper} {S : St} {r : Res} (h : astep P o S = some r) : Sound P o S r := by
  unfold astep at h
  split at h
  · rename_i x ho; simp only [Option.some.injEq] at h; subst h; exact sound_move (.inl ho)
  · rename_i x ho; simp only [Option.some.injEq] at h; subst h; exact sound_move (.inr ho)
  · rename_i c x y ho
    unfold aPick at h; split at h
    · rename_i p hp; simp only [Option.some.injEq] at h; subst h; exact sound_pick ho hp
    · simp at h
  · rename_i op t x y t' ho
    unfold aBinS at h; split at h
    · rename_i a b hx hy
      exact sound_binB ho hx hy h
    · rename_i u v _ hx hy
      simp only [Option.map_eq_some_iff] at h
      obtain ⟨⟨p, q⟩, h1, rfl⟩ := h
      exact sound_bin ho hx hy h1
    · simp at h
  · rename_i op t x ho
    unfold aUnS at h; split at h
    · rename_i u hx
      simp only [Option.map_eq_some_iff] at h
      obtain ⟨q, h1, rfl⟩ := h
      exact sound_un ho hx h1
    · simp at h
  · rename_i x i ho
    unfold aExtract at h; split at h
    · rename_i l hx
      simp only [Option.map_eq_some_iff] at h
      obtain ⟨q, h1, rfl⟩ := h
      exact sound_extract ho hx h1
    · simp at h
  · rename_i x ho
    unfold aNilCheck at h; split at h
    · rename_i b k hx; simp only [Option.some.injEq] at h; subst h; exact sound_nilCheck_ptr ho hx
    · rename_i l k hx; simp only [Option.some.injEq] at h; subst h; exact sound_nilCheck_ro ho hx
    · simp at h
  · rename_i s x f ho
    unfold aField at h; split at h
    · rename_i off ft h1
      split at h
      · rename_i sz _ _ h2
        split at h
        · simp at h
        · rename_i h0
          split at h
          · rename_i b k hx; simp only [Option.some.injEq] at h; subst h; exact sound_fieldAddr_ptr ho hx h1 h2 h0
          · rename_i l k hx; simp only [Option.some.injEq] at h; subst h; exact sound_fieldAddr_ro ho hx h1 h2 h0
          · simp at h
      · simp at h
    · simp at h
  · rename_i t x ho
    unfold aLoad at h; split at h
    · rename_i h1
      split at h
      · rename_i b k hx
        split at h
        · rename_i ty l hb
          simp only [Option.map_eq_some_iff] at h
          obtain ⟨q, h2, rfl⟩ := h
          exact sound_load_ptr ho hx h1 hb h2
        · simp at h
      · rename_i l k hx
        simp only [Option.map_eq_some_iff] at h
        obtain ⟨q, h2, rfl⟩ := h
        exact sound_load_ro ho hx h1 h2
      · simp at h
    · rename_i h1
      split at h
      · rename_i sz _ _ h2
        split at h
        · rename_i b k hx
          split at h
          · rename_i ty l hb
            split at h
            · rename_i r' hr'
              split at h
              · rename_i hsz; simp only [Option.some.injEq] at h; subst h; exact sound_load_ptr_agg ho hx h1 h2 hb hr' hsz
              · simp at h
            · simp at h
          · simp at h
        · rename_i l k hx
          split at h
          · rename_i hsz; simp only [Option.some.injEq] at h; subst h; exact sound_load_ro_agg ho hx h1 h2 hsz
          · simp at h
        · simp at h
      · simp at h
    · simp at h
  · rename_i t x y ho
    unfold aStore at h; split at h
    · rename_i sz _ _ h1
      split at h
      · rename_i b k hx
        split at h
        · rename_i ty l xs hb hxs
          split at h
          · rename_i hc; simp only [Option.some.injEq] at h; subst h; exact sound_store ho hx h1 hb hxs hc.1 hc.2
          · simp at h
        · simp at h
      · simp at h
    · simp at h
  · rename_i t ho
    unfold aAlloc at h; split at h
    · rename_i id _ _ z hd h1
      split at h
      · rename_i hc; simp only [Option.some.injEq] at h; subst h; exact sound_alloc ho h1 hc.1 hc.2.1 hc.2.2
      · simp at h
    · simp at h
  · rename_i t x ho
    unfold aBox at h; split at h
    · rename_i id xs hd hxs
      split at h
      · rename_i hc; simp only [Option.some.injEq] at h; subst h; exact sound_box ho hxs hc.1 hc.2.1 hc.2.2
      · simp at h
    · simp at h
  · rename_i t parts ho
    unfold aBuild at h; split at h
    · rename_i _ _ z pl ps h1 h2 h3
      split at h
      · rename_i hc
        simp only [Option.map_eq_some_iff] at h
        obtain ⟨q, h4, rfl⟩ := h
        exact sound_build ho h1 hc h2 h3 h4
      · simp at h
    · simp at h
  · rename_i t n parts ho
    unfold aBuildSlice at h; split at h
    · rename_i e h1
      split at h
      · rename_i sz bt z ps h2 h3
        split at h
        · rename_i hc; simp only [Option.some.injEq] at h; subst h
          exact fun hu => sound_buildSlice ho h1 h2 hc.1 h3 hu hc.2 trivial
        · simp at h
      · simp at h
    · simp at h
  · rename_i t x i ho
    unfold aIndexAddr at h; split at h
    · rename_i e h1
      split at h
      · rename_i sz _ _ l _ i' h2 h3 h4
        split at h
        · rename_i h0; simp only [Option.some.injEq] at h; subst h; exact sound_indexAddr ho h3 h4 h1 h2 h0
        · simp at h
      · simp at h
    · simp at h
  · rename_i t x i ho
    unfold aIndex at h; split at h
    · rename_i s _ i' h1 h2
      split at h
      · rename_i h0; simp only [Option.some.injEq] at h; subst h; exact sound_index ho h1 h2 h0
      · simp at h
    · simp at h
  · rename_i t x lo hi ho
    unfold aSlice at h; split at h
    · rename_i s hx
      split at h
      · rename_i i j h1 h2
        split at h
        · rename_i h0; simp only [Option.some.injEq] at h; subst h
          obtain ⟨k, hk⟩ := aBound_sound h1
          obtain ⟨k', hk'⟩ := aBound_sound h2
          exact sound_slice_str ho (toAV_str hx) hk hk' h0
        · simp at h
      · simp at h
    · rename_i l hx
      split at h
      · rename_i e he
        split at h
        · rename_i sz _ _ i j h0 h1 h2
          simp only [Option.some.injEq] at h; subst h
          obtain ⟨k, hk⟩ := aBound_sound h1
          obtain ⟨k', hk'⟩ := aBound_sound h2
          exact sound_slice_sl ho hx hk hk' he h0
        · simp at h
      · simp at h
    · simp at h
  · rename_i fn first captured ho
    unfold aMakeFunc at h; split at h
    · rename_i f fs cs h1 h2
      simp only [Option.some.injEq] at h; subst h
      rw [allPV_eq] at h1 h2
      exact sound_makeFunc ho h1 h2
    · simp at h
  · rename_i b args tys ho
    unfold aBuiltin at h; split at h
    · rename_i x t hx ht
      have e1 := arr1 hx; have e2 := arr1 ht; subst e1 e2
      unfold aLen at h; split at h
      · rename_i s hs
        split at h
        · rename_i h0; simp only [Option.some.injEq] at h; subst h; exact sound_len_str ho (toAV_str hs) h0
        · simp at h
      · rename_i l hl
        split at h
        · rename_i h0; simp only [Option.some.injEq] at h; subst h; exact sound_len_sl ho hl h0
        · simp at h
      · simp at h
    · rename_i x y t t2 hx ht
      have e1 := arr2 hx; have e2 := arr2 ht; subst e1 e2
      exact aAppend_sound ho h
    · rename_i x y hx
      have e1 := arr2 hx; subst e1
      split at h
      · rename_i k i k' j h1 h2
        split at h
        · rename_i hk; subst hk; simp only [Option.some.injEq] at h; subst h; exact sound_max ho h1 h2
        · simp at h
      · simp at h
    · rename_i x y hx
      have e1 := arr2 hx; subst e1
      split at h
      · rename_i k i k' j h1 h2
        split at h
        · rename_i hk; subst hk; simp only [Option.some.injEq] at h; subst h; exact sound_min ho h1 h2
        · simp at h
      · simp at h
    · simp at h
  · rename_i t r ho
    unfold aMakeMap at h; split at h
    · rename_i id ke hd h1
      split at h
      · rename_i hc; simp only [Option.some.injEq] at h; subst h
        refine sound_makeMap ho (k := ke.1) (e := ke.2) h1 (fun x hx => ?_) hc.1 hc.2.1
        subst hx
        have h3 := hc.2.2
        simp only [Option.map_some, Option.all_some] at h3
        unfold isInt at h3; split at h3
        · rename_i kd n hn; exact ⟨kd, n, hn⟩
        · simp at h3
      · simp at h
    · simp at h
  · rename_i t x i ok ho
    unfold aLookup at h; split at h
    · rename_i k e h1
      split at h
      · rename_i _ _ z s h2 h3
        split at h
        · rename_i hc
          split at h
          · rename_i b hx
            split at h
            · rename_i ks vs hb
              simp only [Option.some.injEq] at h; subst h
              exact sound_lookup_mp ho hx h3 h1 hc.1 h2 hc.2 hb
            · simp at h
          · rename_i ks vs hx
            simp only [Option.some.injEq] at h; subst h
            exact sound_lookup_rm ho hx h3 h1 hc.1 h2 hc.2
          · simp at h
        · simp at h
      · simp at h
    · simp at h
  · rename_i t x i y ho
    unfold aMapUpdate at h; split at h
    · rename_i k e h1
      split at h
      · rename_i hk
        split at h
        · rename_i b s v hx hi hy
          split at h
          · rename_i ks vs hb
            simp only [Option.some.injEq] at h; subst h
            exact sound_mapUpdate ho hx hi hy h1 hk hb
          · simp at h
        · simp at h
      · simp at h
    · simp at h
  · simp at h

end Go.Eng
