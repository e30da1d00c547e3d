/- The logic over code: W; regions; loops; calls; a function's body. -/
import Derived.Test.YtdaglbjgdakmcaaEngJ
set_option linter.unusedSimpArgs false
set_option linter.unusedVariables false
namespace Go.Eng

def lift (Q : Exit → St → Prop) (G : Gh) (w : World) : Exit → Act → World → Prop :=
  fun e a' w' => ∃ S' G', Q e S' ∧ Step G w G' w' ∧ Rel G' w' S' a' ∧ ∀ i, 1000 ≤ i → G'.ow (i, 0) = G.ow (i, 0)

def W (P : Program) (c : Code) (Q : Exit → St → Prop) (S : St) : Prop :=
  ∀ (G : Gh) (w : World) (a : Act), Rel G w S a → c.wp P (lift Q G w) a w

def thenS (K : St → Prop) (Q : Exit → St → Prop) : Exit → St → Prop
  | .normal, S => K S
  | e, S => Q e S

def blockS (id : Nat) (Q : Exit → St → Prop) : Exit → St → Prop
  | .exit id', S => if id' = id then Q .normal S else Q (.exit id') S
  | e, S => Q e S

/-- S' says no more than S. -/
def Weak (S S' : St) : Prop := ∀ G w a, Rel G w S a → Rel G w S' a

section
variable {P : Program}

theorem lift_trans {Q : Exit → St → Prop} {G G' : Gh} {w w' : World} (h : Step G w G' w') (ho : ∀ i, 1000 ≤ i → G'.ow (i, 0) = G.ow (i, 0)) {e : Exit} {a : Act} {w'' : World} (hl : lift Q G' w' e a w'') : lift Q G w e a w'' := by
  obtain ⟨S', G'', h1, h2, h3, h4⟩ := hl
  exact ⟨S', G'', h1, h.trans h2, h3, fun i hi => (h4 i hi).trans (ho i hi)⟩

theorem lift_refl {Q : Exit → St → Prop} {G : Gh} {w : World} {e : Exit} {S : St} {a : Act} (h : Q e S) (hr : Rel G w S a) : lift Q G w e a w :=
  ⟨S, G, h, Step.refl G w, hr, fun _ _ => rfl⟩

theorem W_mono {c : Code} {Q Q' : Exit → St → Prop} {S : St} (h : W P c Q S) (hq : ∀ e S, Q e S → Q' e S) : W P c Q' S :=
  fun G w a hr => Code.wp_mono (fun e a w ⟨S', G', h1, h2⟩ => ⟨S', G', hq _ _ h1, h2⟩) (h G w a hr)

theorem W_weak {c : Code} {Q : Exit → St → Prop} {S S' : St} (hw : Weak S S') (h : W P c Q S') : W P c Q S :=
  fun G w a hr => h G w a (hw G w a hr)

theorem W_skip {Q : Exit → St → Prop} {S : St} (h : Q .normal S) : W P .skip Q S := fun _ _ _ hr => wp_skip (lift_refl h hr)
theorem W_label {l : Nat} {Q : Exit → St → Prop} {S : St} (h : Q .normal S) : W P (.label l) Q S := fun _ _ _ hr => wp_label (lift_refl h hr)
theorem W_exit {id : Nat} {Q : Exit → St → Prop} {S : St} (h : Q (.exit id) S) : W P (.exit id) Q S := fun _ _ _ hr => wp_exit (lift_refl h hr)
theorem W_ret {Q : Exit → St → Prop} {S : St} (h : Q .ret S) : W P .ret Q S := fun _ _ _ hr => wp_ret (lift_refl h hr)

theorem W_seq {x y : Code} {Q : Exit → St → Prop} {S : St} (h : W P x (thenS (W P y Q) Q) S) : W P (.seq x y) Q S := by
  intro G w a hr
  refine wp_seq (Code.wp_mono (fun e a' w' hl => ?_) (h G w a hr))
  obtain ⟨S', G', h1, h2, h3, h4⟩ := hl
  cases e with
  | normal => exact Code.wp_mono (fun e a w hl => lift_trans h2 h4 hl) (h1 G' w' a' h3)
  | exit id => exact ⟨S', G', h1, h2, h3, h4⟩
  | goto l => exact ⟨S', G', h1, h2, h3, h4⟩
  | ret => exact ⟨S', G', h1, h2, h3, h4⟩
  | panic c => exact ⟨S', G', h1, h2, h3, h4⟩
  | outgrown => exact ⟨S', G', h1, h2, h3, h4⟩

theorem W_cond {c : Operand} {x y : Code} {Q : Exit → St → Prop} {S : St} {b : Bool} (hc : S.ev c = .av (.val (.bool b))) (h : if b then W P x Q S else W P y Q S) : W P (.cond c x y) Q S := by
  intro G w a hr
  have h1 := hr.ev c; rw [hc] at h1; simp only [RepS, Rep] at h1
  refine wp_cond h1.1 ?_
  cases b
  · exact h G w a hr
  · exact h G w a hr

theorem W_block {id : Nat} {c : Code} {Q : Exit → St → Prop} {S : St} (h : W P c (blockS id Q) S) : W P (.block id c) Q S := by
  intro G w a hr
  refine wp_block (Code.wp_mono (fun e a' w' hl => ?_) (h G w a hr))
  obtain ⟨S', G', h1, h2⟩ := hl
  cases e with
  | exit id' =>
    simp only [Exit.inBlock, blockS] at h1 ⊢
    split
    · rename_i hid; rw [if_pos hid] at h1; exact ⟨S', G', h1, h2⟩
    · rename_i hid; rw [if_neg hid] at h1; exact ⟨S', G', h1, h2⟩
  | normal => exact ⟨S', G', h1, h2⟩
  | goto l => exact ⟨S', G', h1, h2⟩
  | ret => exact ⟨S', G', h1, h2⟩
  | panic c => exact ⟨S', G', h1, h2⟩
  | outgrown => exact ⟨S', G', h1, h2⟩

theorem wp_loop_idx {c : Code} {Q : Exit → Act → World → Prop} {a : Act} {w : World} (I : Nat → Act → World → Prop) {n : Nat} (h₀ : I n a w)
    (round : ∀ n a w, I n a w → c.wp P (Exit.then (fun a' w' => ∃ m, m < n ∧ I m a' w') Q) a w) : (Code.loop c).wp P Q a w := by
  intro b k cs
  have key : ∀ n a w, I n a w → ∃ e a' w', Q e a' w' ∧ Arrives P (lone (b.at a (.code c :: .inLoop c :: k)) cs w) b k cs e a' w' := by
    intro n
    induction n using Nat.strongRecOn with
    | _ n ih =>
      intro a w hI
      obtain ⟨e, a₁, w₁, hq, harr⟩ := round n a w hI b (.inLoop c :: k) cs
      cases e with
      | normal =>
        obtain ⟨m, hlt, hI₁⟩ := hq
        obtain ⟨e₂, a₂, w₂, hq₂, harr₂⟩ := ih m hlt a₁ w₁ hI₁
        exact ⟨e₂, a₂, w₂, hq₂, .of_steps (Steps.trans harr (.one step_inLoop)) harr₂⟩
      | exit id => exact ⟨_, a₁, w₁, hq, .pass (x := .inLoop c) rfl (fun _ _ => .inl (by simp)) harr⟩
      | goto l => exact ⟨_, a₁, w₁, hq, .pass (x := .inLoop c) rfl (fun _ _ => .inl (by simp)) harr⟩
      | ret => exact ⟨_, a₁, w₁, hq, .pass (x := .inLoop c) rfl (fun _ _ => .inl (by simp)) harr⟩
      | panic ch => exact ⟨_, a₁, w₁, hq, .pass (x := .inLoop c) rfl (fun _ _ => .inl (by simp)) harr⟩
      | outgrown => exact ⟨_, a₁, w₁, hq, .pass (x := .inLoop c) rfl (fun _ _ => .inl (by simp)) harr⟩
  obtain ⟨e, a', w', hq, harr⟩ := key n a w h₀
  exact ⟨e, a', w', hq, .of_steps (.one step_loop) harr⟩

/-- A loop: what holds at every round's head, and a number that goes down. -/
theorem W_loop {c : Code} {Q : Exit → St → Prop} {S : St} (I : Nat → St → Prop) {n : Nat} {S0 : St} (hw : Weak S S0) (h0 : I n S0)
    (round : ∀ n S, I n S → W P c (thenS (fun S' => ∃ m S'', m < n ∧ Weak S' S'' ∧ I m S'') Q) S) : W P (.loop c) Q S := by
  intro G w a hr
  refine wp_loop_idx (fun n a' w' => ∃ S' G', I n S' ∧ Step G w G' w' ∧ Rel G' w' S' a' ∧ ∀ i, 1000 ≤ i → G'.ow (i, 0) = G.ow (i, 0)) (n := n) ⟨S0, G, h0, Step.refl G w, hw G w a hr, fun _ _ => rfl⟩ ?_
  rintro n a' w' ⟨S', G', h1, h2, h3, h4⟩
  refine Code.wp_mono (fun e a'' w'' hl => ?_) (round n S' h1 G' w' a' h3)
  obtain ⟨S2, G2, g1, g2, g3, g4⟩ := hl
  cases e with
  | normal =>
    obtain ⟨m, S3, hm, hwk, hI⟩ := g1
    exact ⟨m, hm, S3, G2, hI, h2.trans g2, hwk G2 w'' a'' g3, fun i hi => (g4 i hi).trans (h4 i hi)⟩
  | exit id => exact lift_trans h2 h4 ⟨S2, G2, g1, g2, g3, g4⟩
  | goto l => exact lift_trans h2 h4 ⟨S2, G2, g1, g2, g3, g4⟩
  | ret => exact lift_trans h2 h4 ⟨S2, G2, g1, g2, g3, g4⟩
  | panic ch => exact lift_trans h2 h4 ⟨S2, G2, g1, g2, g3, g4⟩
  | outgrown => exact lift_trans h2 h4 ⟨S2, G2, g1, g2, g3, g4⟩

def Enterable (P : Program) (f : FuncId) : Prop := ∃ fn, P.funcs[f]? = some fn ∧ fn.body.isSome = true ∧ (fn.name == "runtime.NumGoroutine") = false

/-- What a call does: from the boxes bx to bx', with the result res; gn, gn': how often the slices of its own have been appended to. -/
def CallTo (P : Program) (f : FuncId) (args : List SV) (bx : List (Nat × ABox)) (gn : List (Key × Nat)) (res : SV) (bx' : List (Nat × ABox)) (gn' : List (Key × Nat)) : Prop :=
  Enterable P f ∧ ∀ (G : Gh) (w : World) (vs : List Value), Wf G w → RepSs G w args vs → (∀ p ∈ bx, RepB G w p.1 p.2) → (∀ p ∈ gn, G.gen p.1 = p.2) →
    Calls P f vs.toArray w (fun e w' => ∃ v G', e = .returned v ∧ Step G w G' w' ∧ Wf G' w' ∧ RepS G' w' res v ∧ (∀ p ∈ bx', RepB G' w' p.1 p.2) ∧
      (∀ i : Nat, i ∉ bx'.map (·.1) → Keep G w G' w' (i, 0)) ∧ (∀ i, G'.ow (i, 0) = G.ow (i, 0)) ∧ ∀ κ : Key, G'.gen κ = (gn'.lookup κ).getD (G.gen κ))

def St.upd (S : St) (bx' : List (Nat × ABox)) (gn' : List (Key × Nat)) : St :=
  { S with bx := S.bx.map (fun p => match bx'.lookup p.1 with | some x => (p.1, x) | none => p), gn := gn' ++ gn'.foldl (fun l p => dropKey p.1 l) S.gn }

def callArgs (S : St) (fs : List PV) (args : List Operand) (cs : List PV) : List SV :=
  fs.map PV.toSV ++ (args.map (fun x => (S.ev x).norm) ++ cs.map PV.toSV)

/-- What the run is told. -/
inductive Or where
  | b (d : Bool)
  | e (x : AV)
  | n (m : Int)
  | c (res : SV) (bx' : List (Nat × ABox)) (gn gn' : List (Key × Nat))

def gnOk (S : St) : List (Key × Nat) → Prop
  | [] => True
  | (k, g) :: r => S.gen k = g ∧ gnOk S r

theorem gnOk_get {S : St} : ∀ {l : List (Key × Nat)}, gnOk S l → ∀ p ∈ l, S.gen p.1 = p.2
  | [], _, p, hp => by simp at hp
  | (k, g) :: r, h, p, hp => by
    simp only [List.mem_cons] at hp
    rcases hp with rfl | hp
    · exact h.1
    · exact gnOk_get h.2 p hp

def runOp (P : Program) (o : Oper) (ors : List Or) (S : St) : Option (List Prop × List Or × St) :=
  match o.op with
  | .pick c x y => match S.ev c, ors with
    | .av (.val (.bool p)), .b d :: ors => some ([p = d], ors, S.put o.dst (match d with | true => S.ev x | false => S.ev y))
    | _, _ => none
  | .binOp .add _ x y _ => match S.ev x, S.ev y, ors with
    | .av (.val (.int k i)), .av (.val (.int k' j)), .n m :: ors => if k = k' then some ([k.wrap (i + j) = m], ors, S.put o.dst (.av (.val (.int k m)))) else none
    | .av (.val (.string a)), .av (.val (.string b)), ors => some ([((a.size + b.size : Nat) : Int) ≤ IntKind.i64.max], ors, S.put o.dst (.av (.val (.string (a ++ b)))))
    | _, _, _ => none
  | .binOp .sub _ x y _ => match S.ev x, S.ev y, ors with
    | .av (.val (.int k i)), .av (.val (.int k' j)), .n m :: ors => if k = k' then some ([k.wrap (i - j) = m], ors, S.put o.dst (.av (.val (.int k m)))) else none
    | _, _, _ => none
  | .binOp .mul _ x y _ => match S.ev x, S.ev y, ors with
    | .av (.val (.int k i)), .av (.val (.int k' j)), .n m :: ors => if k = k' then some ([k.wrap (i * j) = m], ors, S.put o.dst (.av (.val (.int k m)))) else none
    | _, _, _ => none
  | .indexAddr t x i => match tElem P t with
    | some e => match tInfo P e, (S.ev x).toAV, S.ev i, ors with
      | some (sz, _, _), some (.sl l), .av (.val (.int _ i)), .e y :: ors => if 0 < sz ∧ y.cells.length = sz ∧ y.isTup = false then some ([0 ≤ i ∧ l[i.toNat]? = some y], ors, S.put o.dst (.av (.ro y.cells 0))) else none
      | _, _, _, _ => none
    | none => none
  | .call { callee := .value x, args, argTypes := _ } => match S.ev x, ors with
    | .fn f fs cs, .c res bx' gn gn' :: ors => some ([CallTo P f (callArgs S fs args.toList cs) (S.bx.filter (fun p => (bx'.map (·.1)).contains p.1)) gn res bx' gn', gnOk S gn], ors, (S.upd bx' gn').put o.dst res)
    | _, _ => none
  | .lookup _ _ _ _ => match astep P o S, ors with
    | some ⟨ok, .av v, st⟩, .e y :: ors => some ([ok, v = y], ors, st.put o.dst (.av y))
    | _, _ => none
  | _ => match astep P o S with
    | some r => some ([r.ok], ors, r.st.put o.dst r.v)
    | none => none

def guardSlot (ds : List (Option Tmp)) (S : St) (j : Nat) : Option SV :=
  match (ds[j]?).join with
  | some t => S.fr[t]?
  | none => none

def runOps (P : Program) (ds : List (Option Tmp)) : List Oper → List Or → St → Option (List Prop × List Or × St)
  | [], ors, S => some ([], ors, S)
  | o :: rest, ors, S => match o.guard with
    | none => match runOp P o ors S with
      | some (c1, ors1, S1) => match runOps P ds rest ors1 S1 with
        | some (c2, r) => some (c1 ++ c2, r)
        | none => none
      | none => none
    | some (j, want) => match guardSlot ds S j with
      | some (.av (.tup [])) => runOps P ds rest ors (S.put o.dst undefS)
      | some (.av (.val (.bool b))) => match ors with
        | .b d :: ors => if d = want then match runOp P o ors S with
            | some (c1, ors1, S1) => match runOps P ds rest ors1 S1 with
              | some (c2, r) => some ((b = d) :: (c1 ++ c2), r)
              | none => none
            | none => none
          else match runOps P ds rest ors (S.put o.dst undefS) with
            | some (c2, r) => some ((b = d) :: c2, r)
            | none => none
        | _ => none
      | _ => none

def run (P : Program) : Code → List Or → St → Option (List Prop × List Or × Exit × St)
  | .skip, ors, S => some ([], ors, .normal, S)
  | .label _, ors, S => some ([], ors, .normal, S)
  | .exit id, ors, S => some ([], ors, .exit id, S)
  | .ret, ors, S => some ([], ors, .ret, S)
  | .region _ ops false, ors, S => match runOps P (ops.toList.map (·.dst)) ops.toList ors S with
    | some (c, ors, S) => some (c, ors, .normal, S)
    | none => none
  | .seq x y, ors, S => match run P x ors S with
    | some (c1, ors1, .normal, S1) => match run P y ors1 S1 with
      | some (c2, r) => some (c1 ++ c2, r)
      | none => none
    | some r => some r
    | none => none
  | .cond c x y, ors, S => match S.ev c, ors with
    | .av (.val (.bool b)), .b d :: ors => match (match d with | true => run P x ors S | false => run P y ors S) with
      | some (c2, r) => some ((b = d) :: c2, r)
      | none => none
    | _, _ => none
  | .block id c, ors, S => match run P c ors S with
    | some (c1, ors1, .exit id', S1) => if id' = id then some (c1, ors1, .normal, S1) else some (c1, ors1, .exit id', S1)
    | r => r
  | _, _, _ => none

def All : List Prop → Prop
  | [] => True
  | p :: l => p ∧ All l

theorem All_append {a b : List Prop} (h : All (a ++ b)) : All a ∧ All b := by
  induction a with
  | nil => exact ⟨trivial, h⟩
  | cons p a ih => obtain ⟨h1, h2⟩ := h; obtain ⟨h3, h4⟩ := ih h2; exact ⟨⟨h1, h3⟩, h4⟩

theorem Rel_upd {G G' : Gh} {w w' : World} {S : St} {a : Act} {bx' : List (Nat × ABox)} {gn' : List (Key × Nat)} (h : Rel G w S a) (he : Ext G w G' w') (hw : Wf G' w') (hk : ∀ i : Nat, i ∉ bx'.map (·.1) → Keep G w G' w' (i, 0)) (ho : ∀ i, G'.ow (i, 0) = G.ow (i, 0))
    (hg : ∀ κ : Key, G'.gen κ = (gn'.lookup κ).getD (G.gen κ)) (hb : ∀ p ∈ bx', RepB G' w' p.1 p.2) : Rel G' w' (S.upd bx' gn') a := by
  have hkey : ∀ (s : SV) κ, κ ∈ s.keys → G'.ow κ = G.ow κ := by
    intro s κ hκ
    have := s.keys_zero κ hκ
    obtain ⟨i, j⟩ := κ
    simp only at this; subst this; exact ho i
  refine ⟨hw, h.size, fun t s ht => (h.fr t s ht).persist he (hkey s), fun p hp => ?_, fun κ => ?_, h.defers⟩
  · simp only [St.upd, List.mem_map] at hp
    obtain ⟨q, hq, rfl⟩ := hp
    split
    · rename_i x hx; exact hb _ (lookup_mem hx)
    · rename_i hx
      have hq1 : q.1 ∉ bx'.map (·.1) := by
        intro hm
        simp only [List.mem_map] at hm
        obtain ⟨r, hr, hr1⟩ := hm
        rw [List.lookup_eq_none_iff] at hx
        have := hx r hr
        simp at this
        exact this hr1.symm
      exact (h.bx q hq).persist he (hk _ hq1) (fun κ hκ => by simp only [List.mem_flatMap] at hκ; obtain ⟨s, _, hs⟩ := hκ; exact hkey s κ hs)
  · rw [hg κ]
    simp only [St.upd, St.gen, List.lookup_append]
    cases hl : gn'.lookup κ with
    | none =>
      simp only [Option.getD_none, Option.none_or]
      rw [h.gn κ]
      have : ∀ (g l : List (Key × Nat)), g.lookup κ = none → (g.foldl (fun l p => dropKey p.1 l) l).lookup κ = l.lookup κ := by
        intro g
        induction g with
        | nil => intro l _; rfl
        | cons p g ih =>
          intro l hg
          rw [List.lookup_eq_none_iff] at hg
          have hp := hg p (by simp)
          simp only [List.foldl_cons]
          rw [ih _ (by rw [List.lookup_eq_none_iff]; exact fun q hq => hg q (by simp [hq])), lookup_dropKey (by simpa using hp)]
      rw [this _ _ hl]; rfl
    | some g => simp

theorem RepSs_args {G : Gh} {w : World} {S : St} {a : Act} (hr : Rel G w S a) {fs cs : List PV} {vs us : List Value} (hf : RepPs G w fs vs) (hc : RepPs G w cs us) (args : List Operand) : RepSs G w (callArgs S fs args cs) (vs ++ (args.map a.eval ++ us)) := by
  have h1 : ∀ {l : List PV} {us : List Value}, RepPs G w l us → RepSs G w (l.map PV.toSV) us := by
    intro l
    induction l with
    | nil => intro us h; exact h
    | cons p l ih => intro us h; obtain ⟨u, us', e, h2, h3⟩ := h; exact ⟨u, us', e, h2.toSV, ih h3⟩
  have h2 : ∀ l : List Operand, RepSs G w (l.map (fun x => (S.ev x).norm)) (l.map a.eval) := by
    intro l
    induction l with
    | nil => rfl
    | cons x l ih => exact ⟨_, _, rfl, (hr.ev x).norm, ih⟩
  exact (h1 hf).append ((h2 args).append (h1 hc))

/-- One operation: the concrete step that goes with runOp. -/
theorem runOp_sound {o : Oper} {ors ors' : List Or} {S S' : St} {cs : List Prop} (h : runOp P o ors S = some (cs, ors', S')) (hc : All cs) {G : Gh} {w : World} {a : Act} (hr : Rel G w S a) {Q : Exit → Act → World → Prop} {next : Act → World → Prop}
    (hn : ∀ G' a' w', Step G w G' w' → Rel G' w' S' a' → (∀ i, 1000 ≤ i → G'.ow (i, 0) = G.ow (i, 0)) → next a' w') : o.wp P a w next Q := by
  have plain : ∀ {r : Res}, Sound P o S r → r.ok → S' = r.st.put o.dst r.v → o.wp P a w next Q := by
    intro r hs hok hS
    subst hS
    obtain ⟨nx, v, w', G', h1, h2, h3, h4, h5, h6⟩ := hs hok G w a hr
    unfold Oper.wp
    rw [h1]
    rcases h2 with rfl | ⟨rfl, rfl⟩
    · rw [Oper.upon_value]; exact hn G' _ w' h3 (h4.put o.dst h5) h6
    · rw [Oper.upon_skip]; exact hn G' _ w' h3 (h4.put o.dst h5) h6
  unfold runOp at h
  split at h
  · rename_i c x y ho
    split at h
    · rename_i p d ors2 hp
      simp only [Option.some.injEq, Prod.mk.injEq] at h
      obtain ⟨rfl, _, rfl⟩ := h
      have hpd : p = d := hc.1
      subst hpd
      refine plain (sound_pick ho hp) trivial ?_
      cases p <;> rfl
    · simp at h
  · rename_i t x y t' ho
    split at h
    · rename_i k i k' j m ors2 hx hy
      split at h
      · rename_i hk; subst hk
        simp only [Option.some.injEq, Prod.mk.injEq] at h
        obtain ⟨rfl, _, rfl⟩ := h
        refine plain (sound_bin (r := .int k (k.wrap (i + j))) (p := True) ho hx hy (by simp [aBin])) trivial ?_
        rw [hc.1]
      · simp at h
    · rename_i a b hx hy
      simp only [Option.some.injEq, Prod.mk.injEq] at h
      obtain ⟨rfl, _, rfl⟩ := h
      exact plain (sound_bin ho hx hy (by simp only [aBin])) hc.1 rfl
    · simp at h
  · rename_i t x y t' ho
    split at h
    · rename_i k i k' j m ors2 hx hy
      split at h
      · rename_i hk; subst hk
        simp only [Option.some.injEq, Prod.mk.injEq] at h
        obtain ⟨rfl, _, rfl⟩ := h
        refine plain (sound_bin (r := .int k (k.wrap (i - j))) (p := True) ho hx hy (by simp [aBin])) trivial ?_
        rw [hc.1]
      · simp at h
    · simp at h
  · rename_i t x y t' ho
    split at h
    · rename_i k i k' j m ors2 hx hy
      split at h
      · rename_i hk; subst hk
        simp only [Option.some.injEq, Prod.mk.injEq] at h
        obtain ⟨rfl, _, rfl⟩ := h
        refine plain (sound_bin (r := .int k (k.wrap (i * j))) (p := True) ho hx hy (by simp [aBin])) trivial ?_
        rw [hc.1]
      · simp at h
    · simp at h
  · rename_i t x i ho
    split at h
    · rename_i e he
      split at h
      · rename_i sz _ _ l _ i' y ors2 h2 h3 h4
        split at h
        · rename_i hh
          simp only [Option.some.injEq, Prod.mk.injEq] at h
          obtain ⟨rfl, _, rfl⟩ := h
          obtain ⟨⟨hi0, hget⟩, _⟩ := hc
          have hlt : i'.toNat < l.length := by
            rcases Nat.lt_or_ge i'.toNat l.length with h | h
            · exact h
            · simp [List.getElem?_eq_none h] at hget
          have hgd : l.getD i'.toNat (.val undef) = y := by simp [List.getD, hget]
          refine plain (sound_indexAddr ho h3 h4 he h2 hh.1) ⟨hi0, by omega, by rw [hgd]; exact hh.2.1, by rw [hgd]; exact hh.2.2⟩ ?_
          rw [hgd]
        · simp at h
      · simp at h
    · simp at h
  · rename_i x args tys ho
    split at h
    · rename_i f fs cs' res bx' gn gn' ors2 hx
      simp only [Option.some.injEq, Prod.mk.injEq] at h
      obtain ⟨rfl, _, rfl⟩ := h
      obtain ⟨⟨⟨fn, hf1, hf2, hf3⟩, hcall⟩, hgn, _⟩ := hc
      have h1 := hr.ev x; rw [hx] at h1
      obtain ⟨vs, us, h2, h3, h4⟩ := h1
      have hargs := RepSs_args hr h3 h4 args.toList
      have hcall := hcall G w _ hr.wf hargs (fun p hp => hr.bx p (List.mem_filter.1 hp).1) (fun p hp => by rw [hr.gn]; exact gnOk_get hgn p hp)
      have hrun : (execOp a.eval o).run P w = .ok (.enter f (vs.toList ++ (args.toList.map a.eval ++ us.toList)).toArray) w := by
        have hnone : fn.body.isNone = false := by cases hb : fn.body <;> simp_all
        simp only [execOp, ho, resolve, h2, Deferred.ofValue, Sem.run_bind, Sem.run_pure, Result.andThen_ok, invoke, callFunc, run_program, hf1]
        rw [if_neg (by rw [hf3]; simp)]
        simp only [hnone, Bool.false_eq_true, if_false, Sem.run_pure]
        congr 2
        apply Array.ext'
        simp
      unfold Oper.wp
      rw [hrun, Oper.upon_enter]
      refine hcall.mono ?_
      rintro e w' ⟨v, G', rfl, s1, s2, s3, s4, s5, s6, s7⟩
      have hrel := Rel_upd (gn' := gn') hr s1.toExt s2 s5 s6 s7 s4
      exact hn G' _ w' s1 (hrel.put o.dst s3) (fun i _ => s6 i)
    · simp at h
  · split at h
    · rename_i ok v st y ors2 hs
      simp only [Option.some.injEq, Prod.mk.injEq] at h
      obtain ⟨rfl, _, rfl⟩ := h
      refine plain (astep_sound hs) hc.1 ?_
      rw [hc.2.1]
    · simp at h
  · split at h
    · rename_i r hs
      simp only [Option.some.injEq, Prod.mk.injEq] at h
      obtain ⟨rfl, _, rfl⟩ := h
      exact plain (astep_sound hs) hc.1 rfl
    · simp at h

theorem guardSlot_rep {ops : Array Oper} {S : St} {j : Nat} {s : SV} (h : guardSlot (ops.toList.map (·.dst)) S j = some s) {G : Gh} {w : World} {a : Act} (hr : Rel G w S a) : ∃ t u, (ops[j]?).bind (·.dst) = some t ∧ a.tmps[t]? = some u ∧ RepS G w s u := by
  unfold guardSlot at h
  split at h
  · rename_i t ht
    have hd : (ops[j]?).bind (·.dst) = some t := by
      simp only [List.getElem?_map] at ht
      cases ho : ops[j]? with
      | none => have : ops.toList[j]? = none := by simpa using ho
                rw [this] at ht; simp at ht
      | some o => have : ops.toList[j]? = some o := by simpa using ho
                  rw [this] at ht; simpa using ht
    have h1 := hr.fr t s h
    have hlt : t < a.tmps.size := by
      rw [← hr.size]
      rcases Nat.lt_or_ge t S.fr.length with h' | h'
      · exact h'
      · simp [List.getElem?_eq_none h'] at h
    refine ⟨t, a.tmps[t], hd, by simp [hlt], ?_⟩
    simpa [Array.getD_eq_getD_getElem?, hlt] using h1
  · simp at h

theorem runOps_sound {ops : Array Oper} : ∀ (l : List Oper) (ors ors' : List Or) (S S' : St) (cs : List Prop), runOps P (ops.toList.map (·.dst)) l ors S = some (cs, ors', S') → All cs → ∀ (G : Gh) (w : World) (a : Act), Rel G w S a →
    ∀ Q : Exit → Act → World → Prop, (∀ G' a' w', Step G w G' w' → Rel G' w' S' a' → (∀ i, 1000 ≤ i → G'.ow (i, 0) = G.ow (i, 0)) → Q .normal a' w') → wpList P ops Q l a w
  | [], ors, ors', S, S', cs, h, hc, G, w, a, hr, Q, hq => by
    simp only [runOps, Option.some.injEq, Prod.mk.injEq] at h
    obtain ⟨_, _, rfl⟩ := h
    exact hq G a w (Step.refl G w) hr (fun _ _ => rfl)
  | o :: rest, ors, ors', S, S', cs, h, hc, G, w, a, hr, Q, hq => by
    have undefR : ∀ G w, RepS G w undefS undef := by
      intro G w; simp only [undefS, RepS, Rep]; exact ⟨#[], rfl, by simp [RepL]⟩
    have go : ∀ {c1 ors0 ors1 S1 c2}, runOp P o ors0 S = some (c1, ors1, S1) → All c1 → runOps P (ops.toList.map (·.dst)) rest ors1 S1 = some (c2, ors', S') → All c2 → o.wp P a w (wpList P ops Q rest) Q := by
      intro c1 ors0 ors1 S1 c2 h1 hc1 h2 hc2
      exact runOp_sound h1 hc1 hr (fun G' a' w' g1 g2 g3 => runOps_sound rest ors1 ors' S1 S' c2 h2 hc2 G' w' a' g2 Q (fun G2 a2 w2 q1 q2 q3 => hq G2 a2 w2 (g1.trans q1) q2 (fun i hi => (q3 i hi).trans (g3 i hi))))
    simp only [runOps] at h
    simp only [wpList]
    split at h
    · rename_i hg
      rw [if_pos (by simp [Region.wanted, hg])]
      split at h
      · rename_i c1 ors1 S1 h1
        split at h
        · rename_i c2 r h2
          simp only [Option.some.injEq, Prod.mk.injEq] at h
          obtain ⟨rfl, rfl⟩ := h
          obtain ⟨hc1, hc2⟩ := All_append hc
          exact .inl (go h1 hc1 h2 hc2)
        · simp at h
      · simp at h
    · rename_i j want hg
      split at h
      · rename_i hs
        obtain ⟨t, u, e1, e2, e3⟩ := guardSlot_rep hs hr
        simp only [RepS, Rep] at e3
        obtain ⟨us, rfl, _⟩ := e3
        have hwant : Region.wanted o (yielded ops a.tmps) = false := by
          simp only [Region.wanted, hg, yielded, e1, Option.bind_some, e2]; rfl
        rw [hwant]
        simp only [Bool.false_eq_true, if_false]
        exact runOps_sound rest ors ors' _ S' cs h hc G w _ (hr.put o.dst (undefR G w)) Q hq
      · rename_i b hs
        obtain ⟨t, u, e1, e2, e3⟩ := guardSlot_rep hs hr
        simp only [RepS, Rep] at e3
        obtain ⟨rfl, _⟩ := e3
        split at h
        · rename_i d ors2
          split at h
          · rename_i hd
            split at h
            · rename_i c1 ors1 S1 h1
              split at h
              · rename_i c2 r h2
                simp only [Option.some.injEq, Prod.mk.injEq] at h
                obtain ⟨rfl, rfl⟩ := h
                obtain ⟨hb, hc'⟩ := hc
                obtain ⟨hc1, hc2⟩ := All_append hc'
                subst hb hd
                rw [if_pos (by simp only [Region.wanted, hg, yielded, e1, Option.bind_some, e2]; simp)]
                exact .inl (go h1 hc1 h2 hc2)
              · simp at h
            · simp at h
          · rename_i hd
            split at h
            · rename_i c2 r h2
              simp only [Option.some.injEq, Prod.mk.injEq] at h
              obtain ⟨rfl, rfl⟩ := h
              obtain ⟨hb, hc'⟩ := hc
              subst hb
              have hwant : Region.wanted o (yielded ops a.tmps) = false := by
                simp only [Region.wanted, hg, yielded, e1, Option.bind_some, e2]
                cases b <;> cases want <;> simp_all
              rw [hwant]
              simp only [Bool.false_eq_true, if_false]
              exact runOps_sound rest ors2 ors' _ S' c2 h2 hc' G w _ (hr.put o.dst (undefR G w)) Q hq
            · simp at h
        · simp at h
      · simp at h

theorem W_region {id : Nat} {ops : Array Oper} {Q : Exit → St → Prop} {S S' : St} {ors ors' : List Or} {cs : List Prop} (h : runOps P (ops.toList.map (·.dst)) ops.toList ors S = some (cs, ors', S')) (hc : All cs) (hq : Q .normal S') : W P (.region id ops false) Q S :=
  fun G w a hr => wp_region_list (runOps_sound ops.toList ors ors' S S' cs h hc G w a hr _ (fun G' a' w' h2 h3 h4 => ⟨S', G', hq, h2, h3, h4⟩))

theorem W_of_run : ∀ {c : Code} {ors ors' : List Or} {S S' : St} {cs : List Prop} {e : Exit} {Q : Exit → St → Prop}, run P c ors S = some (cs, ors', e, S') → All cs → Q e S' → W P c Q S
  | .skip, _, _, _, _, _, _, _, h, _, hq => by simp only [run, Option.some.injEq, Prod.mk.injEq] at h; obtain ⟨_, _, rfl, rfl⟩ := h; exact W_skip hq
  | .label _, _, _, _, _, _, _, _, h, _, hq => by simp only [run, Option.some.injEq, Prod.mk.injEq] at h; obtain ⟨_, _, rfl, rfl⟩ := h; exact W_label hq
  | .exit _, _, _, _, _, _, _, _, h, _, hq => by simp only [run, Option.some.injEq, Prod.mk.injEq] at h; obtain ⟨_, _, rfl, rfl⟩ := h; exact W_exit hq
  | .ret, _, _, _, _, _, _, _, h, _, hq => by simp only [run, Option.some.injEq, Prod.mk.injEq] at h; obtain ⟨_, _, rfl, rfl⟩ := h; exact W_ret hq
  | .region _ ops false, _, _, _, _, _, _, _, h, hc, hq => by
    simp only [run] at h
    split at h
    · rename_i c ors1 S1 h1
      simp only [Option.some.injEq, Prod.mk.injEq] at h; obtain ⟨rfl, _, rfl, rfl⟩ := h
      exact W_region h1 hc hq
    · simp at h
  | .region _ ops true, _, _, _, _, _, _, _, h, _, _ => by simp [run] at h
  | .seq x y, ors, ors', S, S', cs, e, Q, h, hc, hq => by
    simp only [run] at h
    split at h
    · rename_i c1 ors1 S1 h1
      split at h
      · rename_i c2 r h2
        simp only [Option.some.injEq, Prod.mk.injEq] at h; obtain ⟨rfl, rfl⟩ := h
        obtain ⟨hc1, hc2⟩ := All_append hc
        exact W_seq (W_of_run h1 hc1 (show thenS (W P y Q) Q .normal S1 from W_of_run h2 hc2 hq))
      · simp at h
    · rename_i r hne h1
      simp only [Option.some.injEq] at h
      subst h
      refine W_seq (W_of_run h1 hc ?_)
      cases e with
      | normal => exact (hne _ _ _ rfl).elim
      | exit _ => exact hq
      | goto _ => exact hq
      | ret => exact hq
      | panic _ => exact hq
      | outgrown => exact hq
    · simp at h
  | .cond c x y, ors, ors', S, S', cs, e, Q, h, hc, hq => by
    simp only [run] at h
    split at h
    · rename_i b d ors2 hb
      split at h
      · rename_i c2 r h2
        simp only [Option.some.injEq, Prod.mk.injEq] at h; obtain ⟨rfl, rfl⟩ := h
        obtain ⟨hbd, hc'⟩ := hc
        subst hbd
        refine W_cond hb ?_
        cases b
        · exact W_of_run h2 hc' hq
        · exact W_of_run h2 hc' hq
      · simp at h
    · simp at h
  | .block id c, ors, ors', S, S', cs, e, Q, h, hc, hq => by
    simp only [run] at h
    split at h
    · rename_i c1 ors1 id' S1 h1
      split at h
      · rename_i hid
        simp only [Option.some.injEq, Prod.mk.injEq] at h; obtain ⟨rfl, _, rfl, rfl⟩ := h
        exact W_block (W_of_run h1 hc (by simp only [blockS, if_pos hid]; exact hq))
      · rename_i hid
        simp only [Option.some.injEq, Prod.mk.injEq] at h; obtain ⟨rfl, _, rfl, rfl⟩ := h
        exact W_block (W_of_run h1 hc (by simp only [blockS, if_neg hid]; exact hq))
    · rename_i hne
      refine W_block (W_of_run h hc ?_)
      cases e with
      | exit id' => exact (hne _ _ _ _ h).elim
      | normal => exact hq
      | goto _ => exact hq
      | ret => exact hq
      | panic _ => exact hq
      | outgrown => exact hq
  | .loop _, _, _, _, _, _, _, _, h, _, _ => by simp [run] at h
  | .rangeFunc _ _ _ _, _, _, _, _, _, _, _, h, _, _ => by simp [run] at h
  | .scope _, _, _, _, _, _, _, _, h, _, _ => by simp [run] at h
  | .goto _, _, _, _, _, _, _, _, h, _, _ => by simp [run] at h
  | .refuse _, _, _, _, _, _, _, _, h, _, _ => by simp [run] at h

end
end Go.Eng
