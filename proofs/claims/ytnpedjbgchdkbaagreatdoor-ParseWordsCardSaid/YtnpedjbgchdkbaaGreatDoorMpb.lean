/- Texts joined by a program (merge.py). -/
import Derived.Test.YtnpedjbgchdkbaaGreatDoorMpa
import Derived.Test.YtnpedjbgchdkbaaGreatDoorProg
import Derived.KernelRfl
set_option linter.unusedSimpArgs false
set_option linter.unusedVariables false
open Option.some renaming injEq -> Za
open Option renaming map_eq_some_iff -> Zb
open Prod.mk renaming injEq -> Zc
open List renaming mem_map -> Zd
open Option renaming getD_some -> Ze
open Array renaming mapM_eq_mapM_toList -> Zf
open List renaming mem_map_of_mem -> Zg
open List renaming lookup_eq_none_iff -> Zh
namespace Go.Eng
def lift (Q : Exit -> St -> Prop) (G : Gh) (w : World) : Exit -> Act -> World -> Prop :=
 fun e a' w' => ∃ S' G', Q e S' /\ Step G w G' w' /\ Rel G' w' S' a' /\ ∀ i, Fx i -> G'.ow (i, 0) = G.ow (i, 0)
def W (P : Program) (c : Code) (Q : Exit -> St -> Prop) (S : St) : Prop :=
 ∀ (G : Gh) (w : World) (a : Act), Rel G w S a -> c.wp P (lift Q G w) a w
def Vor (K : St -> Prop) (Q : Exit -> St -> Prop) : Exit -> St -> Prop
 | .normal, S => K S
 | e, S => Q e S
def Vii (id : Nat) (Q : Exit -> St -> Prop) : Exit -> St -> Prop
 | .exit id', S => if id' = id then Q .normal S else Q (.exit id') S
 | e, S => Q e S
def Weak (S S' : St) : Prop := ∀ G w a, Rel G w S a -> Rel G w S' a
section
variable {P : Program}
theorem Vc1 {Q : Exit -> St -> Prop} {G G' : Gh} {w w' : World} (h : Step G w G' w') (ho : ∀ i, Fx i -> G'.ow (i, 0) = G.ow (i, 0)) {e : Exit} {a : Act} {w'' : World} (hl : lift Q G' w' e a w'') : lift Q G w e a w'' := by
 obtain ⟨S', G'', h1, h2, h3, h4⟩ := hl; exact ⟨S', G'', h1, h.trans h2, h3, fun i hi => (h4 i hi).trans (ho i hi)⟩
theorem Vgx {Q : Exit -> St -> Prop} {G : Gh} {w : World} {e : Exit} {S : St} {a : Act} (h : Q e S) (hr : Rel G w S a) : lift Q G w e a w :=
 ⟨S, G, h, Step.refl G w, hr, fun _ _ => rfl⟩
theorem Vqz {c : Code} {Q Q' : Exit -> St -> Prop} {S : St} (h : W P c Q S) (hq : ∀ e S, Q e S -> Q' e S) : W P c Q' S :=
 fun G w a hr => Code.wp_mono (fun e a w ⟨S', G', h1, h2⟩ => ⟨S', G', hq _ _ h1, h2⟩) (h G w a hr)
theorem Vb6 {c : Code} {Q : Exit -> St -> Prop} {S S' : St} (hw : Weak S S') (h : W P c Q S') : W P c Q S :=
 fun G w a hr => h G w a (hw G w a hr)
theorem W_skip {Q : Exit -> St -> Prop} {S : St} (h : Q .normal S) : W P .skip Q S := fun _ _ _ hr => wp_skip (Vgx h hr)
theorem W_label {l : Nat} {Q : Exit -> St -> Prop} {S : St} (h : Q .normal S) : W P (.label l) Q S := fun _ _ _ hr => wp_label (Vgx h hr)
theorem W_exit {id : Nat} {Q : Exit -> St -> Prop} {S : St} (h : Q (.exit id) S) : W P (.exit id) Q S := fun _ _ _ hr => wp_exit (Vgx h hr)
theorem W_ret {Q : Exit -> St -> Prop} {S : St} (h : Q .ret S) : W P .ret Q S := fun _ _ _ hr => wp_ret (Vgx h hr)
theorem Vqy {x y : Code} {Q : Exit -> St -> Prop} {S : St} (h : W P x (Vor (W P y Q) Q) S) : W P (.seq x y) Q S := by
 intro G w a hr; refine wp_seq (Code.wp_mono (fun e a' w' hl => ?_) (h G w a hr)); obtain ⟨S', G', h1, h2, h3, h4⟩ := hl; cases e with
 | normal => exact Code.wp_mono (fun e a w hl => Vc1 h2 h4 hl) (h1 G' w' a' h3)
 | exit id => exact ⟨S', G', h1, h2, h3, h4⟩
 | goto l => exact ⟨S', G', h1, h2, h3, h4⟩
 | ret => exact ⟨S', G', h1, h2, h3, h4⟩
 | panic c => exact ⟨S', G', h1, h2, h3, h4⟩
 | outgrown => exact ⟨S', G', h1, h2, h3, h4⟩
theorem W_cond {c : Operand} {x y : Code} {Q : Exit -> St -> Prop} {S : St} {b : Bool} (hc : S.ev c = .av (.val (.bool b))) (h : if b then W P x Q S else W P y Q S) : W P (.cond c x y) Q S := by
 intro G w a hr
 have h1 := hr.ev c; rw [hc] at h1; simp only [RepS, Rep] at h1; refine wp_cond h1.1 ?_; cases b
 ·exact h G w a hr
 ·exact h G w a hr
theorem Voj {id : Nat} {c : Code} {Q : Exit -> St -> Prop} {S : St} (h : W P c (Vii id Q) S) : W P (.block id c) Q S := by
 intro G w a hr; refine wp_block (Code.wp_mono (fun e a' w' hl => ?_) (h G w a hr)); obtain ⟨S', G', h1, h2⟩ := hl; cases e with
 | exit id' =>
  simp only [Exit.inBlock, Vii] at h1 ⊢
  split
  ·rename_i hid; rw [if_pos hid] at h1; exact ⟨S', G', h1, h2⟩
  ·rename_i hid; rw [if_neg hid] at h1; exact ⟨S', G', h1, h2⟩
 | normal => exact ⟨S', G', h1, h2⟩
 | goto l => exact ⟨S', G', h1, h2⟩
 | ret => exact ⟨S', G', h1, h2⟩
 | panic c => exact ⟨S', G', h1, h2⟩
 | outgrown => exact ⟨S', G', h1, h2⟩
theorem wp_loop_idx {c : Code} {Q : Exit -> Act -> World -> Prop} {a : Act} {w : World} (I : Nat -> Act -> World -> Prop) {n : Nat} (h₀ : I n a w)
  (round : ∀ n a w, I n a w -> c.wp P (Exit.then (fun a' w' => ∃ m, m < n /\ I m a' w') Q) a w) : (Code.loop c).wp P Q a w := by
 intro b k cs
 have key : ∀ n a w, I n a w -> ∃ e a' w', Q e a' w' /\ Arrives P (lone (b.at a (.code c :: .inLoop c :: k)) cs w) b k cs e a' w' := by
  intro n
  induction n using Nat.strongRecOn with
  | _ n ih =>
   intro a w hI; obtain ⟨e, a₁, w₁, hq, harr⟩ := round n a w hI b (.inLoop c :: k) cs; cases e with
   | normal =>
    obtain ⟨m, hlt, hI₁⟩ := hq; obtain ⟨e₂, a₂, w₂, hq₂, harr₂⟩ := ih m hlt a₁ w₁ hI₁; exact ⟨e₂, a₂, w₂, hq₂, .of_steps (Steps.trans harr (.one step_inLoop)) harr₂⟩
   | exit id => exact ⟨_, a₁, w₁, hq, .pass (x := .inLoop c) rfl (fun _ _ => .inl (by simp)) harr⟩
   | goto l => exact ⟨_, a₁, w₁, hq, .pass (x := .inLoop c) rfl (fun _ _ => .inl (by simp)) harr⟩
   | ret => exact ⟨_, a₁, w₁, hq, .pass (x := .inLoop c) rfl (fun _ _ => .inl (by simp)) harr⟩
   | panic ch => exact ⟨_, a₁, w₁, hq, .pass (x := .inLoop c) rfl (fun _ _ => .inl (by simp)) harr⟩
   | outgrown => exact ⟨_, a₁, w₁, hq, .pass (x := .inLoop c) rfl (fun _ _ => .inl (by simp)) harr⟩
 obtain ⟨e, a', w', hq, harr⟩ := key n a w h₀; exact ⟨e, a', w', hq, .of_steps (.one step_loop) harr⟩
theorem W_loop {c : Code} {Q : Exit -> St -> Prop} {S : St} (I : Nat -> St -> Prop) {n : Nat} {S0 : St} (hw : Weak S S0) (h0 : I n S0)
  (round : ∀ n S, I n S -> W P c (Vor (fun S' => ∃ m S'', m < n /\ Weak S' S'' /\ I m S'') Q) S) : W P (.loop c) Q S := by
 intro G w a hr; refine wp_loop_idx (fun n a' w' => ∃ S' G', I n S' /\ Step G w G' w' /\ Rel G' w' S' a' /\ ∀ i, Fx i -> G'.ow (i, 0) = G.ow (i, 0)) (n := n) ⟨S0, G, h0, Step.refl G w, hw G w a hr, fun _ _ => rfl⟩ ?_; rintro n a' w' ⟨S', G', h1, h2, h3, h4⟩; refine Code.wp_mono (fun e a'' w'' hl => ?_) (round n S' h1 G' w' a' h3); obtain ⟨S2, G2, g1, g2, g3, g4⟩ := hl; cases e with
 | normal =>
  obtain ⟨m, S3, hm, hwk, hI⟩ := g1; exact ⟨m, hm, S3, G2, hI, h2.trans g2, hwk G2 w'' a'' g3, fun i hi => (g4 i hi).trans (h4 i hi)⟩
 | exit id => exact Vc1 h2 h4 ⟨S2, G2, g1, g2, g3, g4⟩
 | goto l => exact Vc1 h2 h4 ⟨S2, G2, g1, g2, g3, g4⟩
 | ret => exact Vc1 h2 h4 ⟨S2, G2, g1, g2, g3, g4⟩
 | panic ch => exact Vc1 h2 h4 ⟨S2, G2, g1, g2, g3, g4⟩
 | outgrown => exact Vc1 h2 h4 ⟨S2, G2, g1, g2, g3, g4⟩
def Enterable (P : Program) (f : FuncId) : Prop := ∃ fn, P.funcs[f]? = some fn /\ fn.body.isSome = true /\ (fn.name == "runtime.NumGoroutine") = false
def Vb5 : List (Nat × ABox) -> List Nat
 | [] => []
 | (i, .vec _ _ _) :: l => i :: Vb5 l
 | _ :: l => Vb5 l
def ABox.unK : ABox -> ABox
 | .vck e sz l => .vec e sz l
 | x => x
theorem unK_rep {G : Gh} {w : World} {id : Nat} {x : ABox} (h : RepB G w id x) : RepB G w id x.unK := by cases x <;> exact h
def SV.forgetL (ids : List Nat) (s : SV) : SV := match ids.any (fun i => s.names i) with
 | true => .junk
 | false => s
def ABox.forgetL (ids : List Nat) : ABox -> ABox
 | .cells t l => .cells t (l.map (SV.forgetL ids))
 | x => x
theorem Vkg {G : Gh} {w : World} {ids : List Nat} {s : SV} {u : Value} (h : RepS G w s u) : RepS G w (s.forgetL ids) u := by
 unfold SV.forgetL; split
 ·trivial
 ·exact h
theorem Vic {G : Gh} {w : World} {ids : List Nat} : ∀ {l : List SV} {us : List Value}, RepSs G w l us -> RepSs G w (l.map (SV.forgetL ids)) us
 | [], _, h => h
 | s :: l, us, h => by obtain ⟨u, us', e, h1, h2⟩ := h; exact ⟨u, us', e, Vkg h1, Vic h2⟩
theorem forgetL_box {G : Gh} {w : World} {ids : List Nat} {id : Nat} {x : ABox} (h : RepB G w id x) : RepB G w id (x.forgetL ids) := by
 cases x with
 | cells t l => obtain ⟨blk, arr, h1, h2, h3, h4, h5⟩ := h; exact ⟨blk, arr, h1, h2, h3, Vic h4, h5⟩
 | _ => exact h
theorem Vid {ids : List Nat} {s : SV} : ∀ κ ∈ (s.forgetL ids).keys, κ.1 ∉ ids := by
 intro κ hκ hi; unfold SV.forgetL at hκ
 split at hκ
 ·simp [SV.keys] at hκ
 ·rename_i h; rw [List.any_eq_false] at h
  have h1 := h κ.1 hi; simp only [Bool.not_eq_true] at h1; exact Vbm h1 κ hκ rfl
def CallTo (P : Program) (f : FuncId) (args : List SV) (bx : List (Nat × ABox)) (gn : List (Key × Nat)) (res : SV) (bx' : List (Nat × ABox)) (gn' : List (Key × Nat)) : Prop :=
 Enterable P f /\ ∀ (G : Gh) (w : World) (vs : List Value), Wf G w -> RepSs G w args vs -> (∀ p ∈ bx, RepB G w p.1 p.2) -> (∀ p ∈ gn, G.gen p.1 = p.2) ->
  Calls P f vs.toArray w (fun e w' => ∃ v G', e = .returned v /\ Step G w G' w' /\ Wf G' w' /\ RepS G' w' res v /\ (∀ p ∈ bx', RepB G' w' p.1 p.2) /\
   (∀ i : Nat, i ∉ bx'.map (·.1) -> Keep G w G' w' (i, 0)) /\ (∀ i, i ∉ Vb5 bx' -> G'.ow (i, 0) = G.ow (i, 0)) /\ ∀ κ : Key, G'.gen κ = (gn'.lookup κ).getD (G.gen κ))
def St.upd (S : St) (bx' : List (Nat × ABox)) (gn' : List (Key × Nat)) : St :=
 match Vb5 bx' with
 | [] => { S with bx := S.bx.map (fun p => match bx'.lookup p.1 with | some x => (p.1, x.unK) | none => p), gn := gn' ++ gn'.foldl (fun l p => Vfh p.1 l) S.gn }
 | v :: vs => { fr := S.fr.map (SV.forgetL (v :: vs)), bx := S.bx.map (fun p => match bx'.lookup p.1 with | some x => (p.1, x.unK) | none => (p.1, p.2.forgetL (v :: vs))), gn := gn' ++ gn'.foldl (fun l p => Vfh p.1 l) S.gn }
theorem Vg8 {S : St} {bx' : List (Nat × ABox)} {gn' : List (Key × Nat)} (h : Vb5 bx' = []) : S.upd bx' gn' = { S with bx := S.bx.map (fun p => match bx'.lookup p.1 with | some x => (p.1, x.unK) | none => p), gn := gn' ++ gn'.foldl (fun l p => Vfh p.1 l) S.gn } := by
 unfold St.upd; rw [h]
def SV.normK (keep : Bool) (s : SV) : SV := match keep with
 | true => s
 | false => s.norm
theorem RepS.normK {G : Gh} {w : World} {s : SV} {u : Value} (keep : Bool) (h : RepS G w s u) : RepS G w (s.normK keep) u := by
 cases keep
 ·exact h.norm
 ·exact h
def Vdb (S : St) (fs : List PV) (args : List Operand) (cs : List PV) (keep : Bool) : List SV :=
 fs.map PV.toSV ++ (args.map (fun x => (S.ev x).normK keep) ++ cs.map PV.toSV)
inductive Or where
 | b (d : Bool)
 | e (x : AV)
 | n (m : Int)
 | c (res : SV) (bx' : List (Nat × ABox)) (gn gn' : List (Key × Nat))
def gnOk (S : St) : List (Key × Nat) -> Prop
 | [] => True
 | (k, g) :: r => S.gen k = g /\ gnOk S r
theorem gnOk_get {S : St} : ∀ {l : List (Key × Nat)}, gnOk S l -> ∀ p ∈ l, S.gen p.1 = p.2
 | [], _, p, hp => by simp at hp
 | (k, g) :: r, h, p, hp => by
  simp only [List.mem_cons] at hp; rcases hp with rfl | hp
  ·exact h.1
  ·exact gnOk_get h.2 p hp
def Vaz (P : Program) (o : Oper) (ors : List Or) (S : St) : Option (List Prop × List Or × SV) :=
 match o.op, ors with
 | .load t x, .e y :: ors => match S.ev x with
  | .vp b s i k => match S.bx.lookup b, tAgg P t, tInfo P t with
   | some (.vec _ s' l), some false, _ => if s' = s /\ k < y.cells.length /\ y.isTup = false then some ([0 <= i /\ l[i.toNat]? = some y], ors, .av (y.cells.getD k (.val undef))) else none
   | some (.vec _ s' l), some true, some (n, _, _) => if s' = s /\ k + n <= y.cells.length /\ y.isTup = false then some ([0 <= i /\ l[i.toNat]? = some y], ors, .av (.agg ((y.cells.drop k).take n))) else none
   | _, _, _ => none
  | _ => none
 | .indexAddr t x i, ors => match S.ev x, S.ev i, tElem P t with
  | .vs b n, .av (.val (.int _ i)), some e => match tInfo P e with
   | some (sz, _, _) => some ([0 <= i /\ i < n], ors, .vp b sz i 0)
   | none => none
  | .vw b sz' q n, .av (.val (.int _ i)), some e => match tInfo P e with
   | some (sz, _, _) => if sz' = sz then some ([0 <= i /\ i < n], ors, .vp b sz ((q : Nat) + i) 0) else none
   | none => none
  | _, _, _ => none
 | _, _ => none
theorem Vn0 {P : Program} {o : Oper} {ors ors' : List Or} {S : St} {cs : List Prop} {v : SV} (h : Vaz P o ors S = some (cs, ors', v)) : ∃ p, cs = [p] /\ Sound P o S ⟨p, v, S⟩ := by
 have some_at : ∀ {l : List AV} {i : Int} {y : AV}, 0 <= i /\ l[i.toNat]? = some y -> i < l.length /\ l.getD i.toNat (.val undef) = y := by
  intro l i y ⟨h0, h1⟩
  have hlt : i.toNat < l.length := by
   rcases Nat.lt_or_ge i.toNat l.length with q | q
   ·exact q
   ·rw [List.getElem?_eq_none q] at h1; cases h1
  exact ⟨by omega, by simp [List.getD, h1]⟩
 unfold Vaz at h
 split at h
 ·rename_i t x y ors2 ho
  split at h
  ·rename_i b s i k hx
   split at h
   ·rename_i e s' l hb ht
    split at h
    ·rename_i hc; obtain ⟨rfl, hc⟩ := hc; simp only [Za, Zc] at h; obtain ⟨rfl, _, rfl⟩ := h; refine ⟨_, rfl, fun hp => ?_⟩; obtain ⟨h1, h2⟩ := some_at hp
     have := Vne ho hx ht hb; rw [h2] at this; exact this ⟨hp.1, h1, hc.1, hc.2⟩
    ·simp at h
   ·rename_i e s' l n _ _ hb ht hti
    split at h
    ·rename_i hc; obtain ⟨rfl, hc⟩ := hc; simp only [Za, Zc] at h; obtain ⟨rfl, _, rfl⟩ := h; refine ⟨_, rfl, fun hp => ?_⟩; obtain ⟨h1, h2⟩ := some_at hp
     have := Vhf ho hx ht hti hb; rw [h2] at this; exact this ⟨hp.1, h1, hc.1, hc.2⟩
    ·simp at h
   ·simp at h
  ·simp at h
 ·rename_i t x i ors2 ho
  split at h
  ·rename_i b n _ i' e hx hi he
   split at h
   ·rename_i sz _ _ h2; simp only [Za, Zc] at h; obtain ⟨rfl, _, rfl⟩ := h; exact ⟨_, rfl, Vd7 ho hx hi he h2⟩
   ·simp at h
  ·rename_i b sz' q n _ i' e hx hi he
   split at h
   ·rename_i sz _ _ h2
    split at h
    ·rename_i hs; subst hs; simp only [Za, Zc] at h; obtain ⟨rfl, _, rfl⟩ := h; exact ⟨_, rfl, Vd6 ho hx hi he h2⟩
    ·simp at h
   ·simp at h
  ·simp at h
 ·simp at h
def Vgt (P : Program) (o : Oper) (ors : List Or) (S : St) : Option (List Prop × List Or × St) :=
 match o.op with
 | .pick c x y => match S.ev c, ors with
  | .av (.val (.bool p)), .b d :: ors => some ([p = d], ors, S.put o.dst (match d with | true => S.ev x | false => S.ev y))
  | _, _ => none
 | .binOp .add _ x y _ => match S.ev x, S.ev y, ors with
  | .av (.val (.int k i)), .av (.val (.int k' j)), .n m :: ors => if k = k' then some ([k.wrap (i + j) = m], ors, S.put o.dst (.av (.val (.int k m)))) else none
  | .av (.val (.string a)), .av (.val (.string b)), ors => some ([((a.size + b.size : Nat) : Int) <= IntKind.i64.max], ors, S.put o.dst (.av (.val (.string (a ++ b)))))
  | _, _, _ => none
 | .binOp .sub _ x y _ => match S.ev x, S.ev y, ors with
  | .av (.val (.int k i)), .av (.val (.int k' j)), .n m :: ors => if k = k' then some ([k.wrap (i - j) = m], ors, S.put o.dst (.av (.val (.int k m)))) else none
  | _, _, _ => none
 | .binOp .mul _ x y _ => match S.ev x, S.ev y, ors with
  | .av (.val (.int k i)), .av (.val (.int k' j)), .n m :: ors => if k = k' then some ([k.wrap (i * j) = m], ors, S.put o.dst (.av (.val (.int k m)))) else none
  | _, _, _ => none
 | .indexAddr t x i => match tElem P t with
  | some e => match tInfo P e, (S.ev x).toAV, S.ev i, ors with
   | some (sz, _, _), some (.sl l), .av (.val (.int _ i)), .e y :: ors => if 0 < sz /\ y.cells.length = sz /\ y.isTup = false then some ([0 <= i /\ l[i.toNat]? = some y], ors, S.put o.dst (.av (.ro y.cells 0))) else none
   | _, _, _, _ => none
  | none => none
 | .call { callee := .value x, args, argTypes := _ } => match S.ev x, ors with
  | .fn f fs cs, .c res bx' gn gn' :: ors => match (Vb5 bx').all (fun i => decide (i < 1000) || decide (2000 <= i)) with
   | true => some ([CallTo P f (Vdb S fs args.toList cs (!gn.isEmpty)) (S.bx.filter (fun p => (bx'.map (·.1)).contains p.1)) gn res bx' gn', gnOk S gn], ors, (S.upd bx' gn').put o.dst res)
   | false => none
  | _, _ => none
 | .lookup _ _ _ _ => match Vaw P o S, ors with
  | some ⟨ok, .av v, st⟩, .e y :: ors => some ([ok, v = y], ors, st.put o.dst (.av y))
  | _, _ => none
 | _ => match Vaw P o S with
  | some r => some ([r.ok], ors, r.st.put o.dst r.v)
  | none => none
def Vg1 (P : Program) (o : Oper) (ors : List Or) (S : St) : Option (List Prop × List Or × St) :=
 match Vaz P o ors S with
 | some (c, ors', v) => some (c, ors', S.put o.dst v)
 | none => Vgt P o ors S
def Vcc (ds : List (Option Tmp)) (S : St) (j : Nat) : Option SV :=
 match (ds[j]?).join with
 | some t => S.fr[t]?
 | none => none
def Vcs (P : Program) (ds : List (Option Tmp)) : List Oper -> List Or -> St -> Option (List Prop × List Or × St)
 | [], ors, S => some ([], ors, S)
 | o :: rest, ors, S => match o.guard with
  | none => match Vg1 P o ors S with
   | some (c1, ors1, S1) => match Vcs P ds rest ors1 S1 with
    | some (c2, r) => some (c1 ++ c2, r)
    | none => none
   | none => none
  | some (j, want) => match Vcc ds S j with
   | some (.av (.tup [])) => Vcs P ds rest ors (S.put o.dst Vaj)
   | some (.av (.val (.bool b))) => match ors with
    | .b d :: ors => if d = want then match Vg1 P o ors S with
      | some (c1, ors1, S1) => match Vcs P ds rest ors1 S1 with
       | some (c2, r) => some ((b = d) :: (c1 ++ c2), r)
       | none => none
      | none => none
     else match Vcs P ds rest ors (S.put o.dst Vaj) with
      | some (c2, r) => some ((b = d) :: c2, r)
      | none => none
    | _ => none
   | _ => none
def run (P : Program) : Code -> List Or -> St -> Option (List Prop × List Or × Exit × St)
 | .skip, ors, S => some ([], ors, .normal, S)
 | .label _, ors, S => some ([], ors, .normal, S)
 | .exit id, ors, S => some ([], ors, .exit id, S)
 | .ret, ors, S => some ([], ors, .ret, S)
 | .region _ ops false, ors, S => match Vcs P (ops.toList.map (·.dst)) ops.toList ors S with
  | some (c, ors, S) => some (c, ors, .normal, S)
  | none => none
 | .seq x y, ors, S => match run P x ors S with
  | some (c1, ors1, .normal, S1) => match run P y ors1 S1 with
   | some (c2, r) => some (c1 ++ c2, r)
   | none => none
  | some r => some r
  | none => none
 | .cond c x y, ors, S => match S.ev c, ors with
  | .av (.val (.bool b)), .b d :: ors => match (match d with | true => run P x ors S | false => run P y ors S) with
   | some (c2, r) => some ((b = d) :: c2, r)
   | none => none
  | _, _ => none
 | .block id c, ors, S => match run P c ors S with
  | some (c1, ors1, .exit id', S1) => if id' = id then some (c1, ors1, .normal, S1) else some (c1, ors1, .exit id', S1)
  | r => r
 | _, _, _ => none
def All : List Prop -> Prop
 | [] => True
 | p :: l => p /\ All l
theorem Vau {a b : List Prop} (h : All (a ++ b)) : All a /\ All b := by
 induction a with
 | nil => exact ⟨trivial, h⟩
 | cons p a ih => obtain ⟨h1, h2⟩ := h; obtain ⟨h3, h4⟩ := ih h2; exact ⟨⟨h1, h3⟩, h4⟩
theorem Rel_upd {G G' : Gh} {w w' : World} {S : St} {a : Act} {bx' : List (Nat × ABox)} {gn' : List (Key × Nat)} (h : Rel G w S a) (he : Ext G w G' w') (hw : Wf G' w') (hk : ∀ i : Nat, i ∉ bx'.map (·.1) -> Keep G w G' w' (i, 0)) (ho : ∀ i, i ∉ Vb5 bx' -> G'.ow (i, 0) = G.ow (i, 0))
  (hg : ∀ κ : Key, G'.gen κ = (gn'.lookup κ).getD (G.gen κ)) (hb : ∀ p ∈ bx', RepB G' w' p.1 p.2) : Rel G' w' (S.upd bx' gn') a := by
 have hkey : ∀ (s : SV) κ, κ ∈ s.keys -> κ.1 ∉ Vb5 bx' -> G'.ow κ = G.ow κ := by
  intro s κ hκ hn
  have := s.keys_zero κ hκ; obtain ⟨i, j⟩ := κ; simp only at this hn; subst this; exact ho i hn
 have hgen : ∀ κ : Key, G'.gen κ = ((gn' ++ gn'.foldl (fun l p => Vfh p.1 l) S.gn).lookup κ).getD 0 := by
  intro κ; rw [hg κ]; simp only [List.lookup_append]; cases hl : gn'.lookup κ with
  | none =>
   simp only [Option.getD_none, Option.none_or]; rw [h.gn κ]
   have : ∀ (g l : List (Key × Nat)), g.lookup κ = none -> (g.foldl (fun l p => Vfh p.1 l) l).lookup κ = l.lookup κ := by
    intro g
    induction g with
    | nil => intro l _; rfl
    | cons p g ih =>
     intro l hg; rw [Zh] at hg
     have hp := hg p (by simp); simp only [List.foldl_cons]; rw [ih _ (by rw [Zh]; exact fun q hq => hg q (by simp [hq])), Vg5 (by simpa using hp)]
   rw [this _ _ hl]; rfl
  | some g => simp
 have hnot : ∀ q : Nat × ABox, bx'.lookup q.1 = none -> q.1 ∉ bx'.map (·.1) := by
  intro q hx hm; simp only [Zd] at hm; obtain ⟨r, hr, hr1⟩ := hm; rw [Zh] at hx
  have := hx r hr; simp at this; exact this hr1.symm
 unfold St.upd
 split
 ·rename_i hv
  have hkey : ∀ (s : SV) κ, κ ∈ s.keys -> G'.ow κ = G.ow κ := fun s κ hκ => hkey s κ hκ (by rw [hv]; simp)
  refine ⟨hw, h.size, fun t s ht => (h.fr t s ht).persist he (hkey s), fun p hp => ?_, hgen, h.defers.trans he.df.symm⟩; simp only [Zd] at hp; obtain ⟨q, hq, rfl⟩ := hp
  split
  ·rename_i x hx; exact unK_rep (hb _ (Va9 hx))
  ·rename_i hx; exact (h.bx q hq).persist he (hk _ (hnot q hx)) (fun κ hκ => by simp only [List.mem_flatMap] at hκ; obtain ⟨s, _, hs⟩ := hκ; exact hkey s κ hs)
 ·rename_i v vs hv; rw [<- hv]; refine ⟨hw, by simp only [List.length_map]; exact h.size, fun t s ht => ?_, fun p hp => ?_, hgen, h.defers.trans he.df.symm⟩
  ·simp only [List.getElem?_map, Zb] at ht; obtain ⟨s0, h1, rfl⟩ := ht; exact (Vkg (h.fr t s0 h1)).persist he (fun κ hκ => hkey _ κ hκ (Vid κ hκ))
  ·simp only [Zd] at hp; obtain ⟨q, hq, rfl⟩ := hp
   split
   ·rename_i x hx; exact unK_rep (hb _ (Va9 hx))
   ·rename_i hx; refine (forgetL_box (h.bx q hq)).persist he (hk _ (hnot q hx)) (fun κ hκ => ?_); simp only [List.mem_flatMap] at hκ; obtain ⟨s, hs1, hs⟩ := hκ; obtain ⟨i, x⟩ := q; cases x with
    | cells t l =>
     simp only [ABox.forgetL, ABox.svs, Zd] at hs1; obtain ⟨s0, _, rfl⟩ := hs1; exact hkey _ κ hs (Vid κ hs)
    | _ => simp [ABox.forgetL, ABox.svs] at hs1
theorem Vi5 {G : Gh} {w : World} {S : St} {a : Act} (hr : Rel G w S a) {fs cs : List PV} {vs us : List Value} (hf : RepPs G w fs vs) (hc : RepPs G w cs us) (args : List Operand) (keep : Bool) : RepSs G w (Vdb S fs args cs keep) (vs ++ (args.map a.eval ++ us)) := by
 have h1 : ∀ {l : List PV} {us : List Value}, RepPs G w l us -> RepSs G w (l.map PV.toSV) us := by
  intro l
  induction l with
  | nil => intro us h; exact h
  | cons p l ih => intro us h; obtain ⟨u, us', e, h2, h3⟩ := h; exact ⟨u, us', e, h2.toSV, ih h3⟩
 have h2 : ∀ l : List Operand, RepSs G w (l.map (fun x => (S.ev x).normK keep)) (l.map a.eval) := by
  intro l
  induction l with
  | nil => rfl
  | cons x l ih => exact ⟨_, _, rfl, (hr.ev x).normK keep, ih⟩
 exact (h1 hf).append ((h2 args).append (h1 hc))
theorem Vp6 {o : Oper} {ors ors' : List Or} {S S' : St} {cs : List Prop} (h : Vgt P o ors S = some (cs, ors', S')) (hc : All cs) {G : Gh} {w : World} {a : Act} (hr : Rel G w S a) {Q : Exit -> Act -> World -> Prop} {next : Act -> World -> Prop}
  (hn : ∀ G' a' w', Step G w G' w' -> Rel G' w' S' a' -> (∀ i, Fx i -> G'.ow (i, 0) = G.ow (i, 0)) -> next a' w') : o.wp P a w next Q := by
 have plain : ∀ {r : Res}, Sound P o S r -> r.ok -> S' = r.st.put o.dst r.v -> o.wp P a w next Q := by
  intro r hs hok hS; subst hS; obtain ⟨nx, v, w', G', h1, h2, h3, h4, h5, h6⟩ := hs hok G w a hr; unfold Oper.wp; rw [h1]; rcases h2 with rfl | ⟨rfl, rfl⟩
  ·rw [Oper.upon_value]; exact hn G' _ w' h3 (h4.put o.dst h5) h6
  ·rw [Oper.upon_skip]; exact hn G' _ w' h3 (h4.put o.dst h5) h6
 unfold Vgt at h
 split at h
 ·rename_i c x y ho
  split at h
  ·rename_i p d ors2 hp; simp only [Za, Zc] at h; obtain ⟨rfl, _, rfl⟩ := h
   have hpd : p = d := hc.1; subst hpd; refine plain (Vm2 ho hp) trivial ?_; cases p <;> rfl
  ·simp at h
 ·rename_i t x y t' ho
  split at h
  ·rename_i k i k' j m ors2 hx hy
   split at h
   ·rename_i hk; subst hk; simp only [Za, Zc] at h; obtain ⟨rfl, _, rfl⟩ := h; refine plain (Vf0 (r := .int k (k.wrap (i + j))) (p := True) ho hx hy (by simp [aBin])) trivial ?_; rw [hc.1]
   ·simp at h
  ·rename_i a b hx hy; simp only [Za, Zc] at h; obtain ⟨rfl, _, rfl⟩ := h; exact plain (Vf0 ho hx hy (by simp only [aBin])) hc.1 rfl
  ·simp at h
 ·rename_i t x y t' ho
  split at h
  ·rename_i k i k' j m ors2 hx hy
   split at h
   ·rename_i hk; subst hk; simp only [Za, Zc] at h; obtain ⟨rfl, _, rfl⟩ := h; refine plain (Vf0 (r := .int k (k.wrap (i - j))) (p := True) ho hx hy (by simp [aBin])) trivial ?_; rw [hc.1]
   ·simp at h
  ·simp at h
 ·rename_i t x y t' ho
  split at h
  ·rename_i k i k' j m ors2 hx hy
   split at h
   ·rename_i hk; subst hk; simp only [Za, Zc] at h; obtain ⟨rfl, _, rfl⟩ := h; refine plain (Vf0 (r := .int k (k.wrap (i * j))) (p := True) ho hx hy (by simp [aBin])) trivial ?_; rw [hc.1]
   ·simp at h
  ·simp at h
 ·rename_i t x i ho
  split at h
  ·rename_i e he
   split at h
   ·rename_i sz _ _ l _ i' y ors2 h2 h3 h4
    split at h
    ·rename_i hh; simp only [Za, Zc] at h; obtain ⟨rfl, _, rfl⟩ := h; obtain ⟨⟨hi0, hget⟩, _⟩ := hc
     have hlt : i'.toNat < l.length := by
      rcases Nat.lt_or_ge i'.toNat l.length with h | h
      ·exact h
      ·simp [List.getElem?_eq_none h] at hget
     have hgd : l.getD i'.toNat (.val undef) = y := by simp [List.getD, hget]
     refine plain (Vez ho h3 h4 he h2 hh.1) ⟨hi0, by omega, by rw [hgd]; exact hh.2.1, by rw [hgd]; exact hh.2.2⟩ ?_; rw [hgd]
    ·simp at h
   ·simp at h
  ·simp at h
 ·rename_i x args tys ho
  split at h
  ·rename_i f fs cs' res bx' gn gn' ors2 hx
   split at h
   case h_2 => simp at h
   rename_i hvec; simp only [Za, Zc] at h; obtain ⟨rfl, _, rfl⟩ := h; obtain ⟨⟨⟨fn, hf1, hf2, hf3⟩, hcall⟩, hgn, _⟩ := hc
   have h1 := hr.ev x; rw [hx] at h1; obtain ⟨vs, us, h2, h3, h4⟩ := h1
   have hargs := Vi5 hr h3 h4 args.toList (!gn.isEmpty)
   have hcall := hcall G w _ hr.wf hargs (fun p hp => hr.bx p (List.mem_filter.1 hp).1) (fun p hp => by rw [hr.gn]; exact gnOk_get hgn p hp)
   have hrun : (execOp a.eval o).run P w = .ok (.enter f (vs.toList ++ (args.toList.map a.eval ++ us.toList)).toArray) w := by
    have hnone : fn.body.isNone = false := by cases hb : fn.body <;> simp_all
    simp only [execOp, ho, resolve, h2, Deferred.ofValue, Sem.run_bind, Sem.run_pure, Result.andThen_ok, invoke, callFunc, run_program, hf1]; rw [if_neg (by rw [hf3]; simp)]; simp only [hnone, Bool.false_eq_true, if_false, Sem.run_pure]; congr 2; apply Array.ext'; simp
   unfold Oper.wp; rw [hrun, Oper.upon_enter]; refine hcall.mono ?_; rintro e w' ⟨v, G', rfl, s1, s2, s3, s4, s5, s6, s7⟩
   have hrel := Rel_upd (gn' := gn') hr s1.toExt s2 s5 s6 s7 s4; refine hn G' _ w' s1 (hrel.put o.dst s3) (fun i hi => s6 i (fun hm => ?_))
   have := List.all_eq_true.1 hvec i hm; simp only [Bool.or_eq_true, decide_eq_true_eq] at this
   have h1 := hi.1; have h2 := hi.2; omega
  ·simp at h
 ·split at h
  ·rename_i ok v st y ors2 hs; simp only [Za, Zc] at h; obtain ⟨rfl, _, rfl⟩ := h; refine plain (Vb9 hs) hc.1 ?_; rw [hc.2.1]
  ·simp at h
 ·split at h
  ·rename_i r hs; simp only [Za, Zc] at h; obtain ⟨rfl, _, rfl⟩ := h; exact plain (Vb9 hs) hc.1 rfl
  ·simp at h
theorem Vbl {o : Oper} {ors ors' : List Or} {S S' : St} {cs : List Prop} (h : Vg1 P o ors S = some (cs, ors', S')) (hc : All cs) {G : Gh} {w : World} {a : Act} (hr : Rel G w S a) {Q : Exit -> Act -> World -> Prop} {next : Act -> World -> Prop}
  (hn : ∀ G' a' w', Step G w G' w' -> Rel G' w' S' a' -> (∀ i, Fx i -> G'.ow (i, 0) = G.ow (i, 0)) -> next a' w') : o.wp P a w next Q := by
 have plain : ∀ {r : Res}, Sound P o S r -> r.ok -> S' = r.st.put o.dst r.v -> o.wp P a w next Q := by
  intro r hs hok hS; subst hS; obtain ⟨nx, v, w', G', h1, h2, h3, h4, h5, h6⟩ := hs hok G w a hr; unfold Oper.wp; rw [h1]; rcases h2 with rfl | ⟨rfl, rfl⟩
  ·rw [Oper.upon_value]; exact hn G' _ w' h3 (h4.put o.dst h5) h6
  ·rw [Oper.upon_skip]; exact hn G' _ w' h3 (h4.put o.dst h5) h6
 unfold Vg1 at h
 split at h
 ·rename_i c ors2 v hv; obtain ⟨p, rfl, hs⟩ := Vn0 hv; simp only [Za, Zc] at h; obtain ⟨rfl, rfl, rfl⟩ := h; exact plain hs hc.1 rfl
 ·exact Vp6 h hc hr hn
theorem Vb7 {ops : Array Oper} {S : St} {j : Nat} {s : SV} (h : Vcc (ops.toList.map (·.dst)) S j = some s) {G : Gh} {w : World} {a : Act} (hr : Rel G w S a) : ∃ t u, (ops[j]?).bind (·.dst) = some t /\ a.tmps[t]? = some u /\ RepS G w s u := by
  unfold Vcc at h
  split at h
  · rename_i t ht
    have hd : (ops[j]?).bind (·.dst) = some t := by
      simp only [List.getElem?_map] at ht; cases ho : ops[j]? with
      | none => have : ops.toList[j]? = none := by simpa using ho
                rw [this] at ht; simp at ht
      | some o => have : ops.toList[j]? = some o := by simpa using ho
                  rw [this] at ht; simpa using ht
    have h1 := hr.fr t s h
    have hlt : t < a.tmps.size := by
      rw [<- hr.size]; rcases Nat.lt_or_ge t S.fr.length with h' | h'
      · exact h'
      · simp [List.getElem?_eq_none h'] at h
    refine ⟨t, a.tmps[t], hd, by simp [hlt], ?_⟩; simpa [Array.getD_eq_getD_getElem?, hlt] using h1
  · simp at h
theorem Vda {ops : Array Oper} : ∀ (l : List Oper) (ors ors' : List Or) (S S' : St) (cs : List Prop), Vcs P (ops.toList.map (·.dst)) l ors S = some (cs, ors', S') -> All cs -> ∀ (G : Gh) (w : World) (a : Act), Rel G w S a ->
  ∀ Q : Exit -> Act -> World -> Prop, (∀ G' a' w', Step G w G' w' -> Rel G' w' S' a' -> (∀ i, Fx i -> G'.ow (i, 0) = G.ow (i, 0)) -> Q .normal a' w') -> wpList P ops Q l a w
 | [], ors, ors', S, S', cs, h, hc, G, w, a, hr, Q, hq => by
  simp only [Vcs, Za, Zc] at h; obtain ⟨_, _, rfl⟩ := h; exact hq G a w (Step.refl G w) hr (fun _ _ => rfl)
 | o :: rest, ors, ors', S, S', cs, h, hc, G, w, a, hr, Q, hq => by
  have Vgm : ∀ G w, RepS G w Vaj undef := by
   intro G w; simp only [Vaj, RepS, Rep]; exact ⟨#[], rfl, by simp [RepL]⟩
  have go : ∀ {c1 ors0 ors1 S1 c2}, Vg1 P o ors0 S = some (c1, ors1, S1) -> All c1 -> Vcs P (ops.toList.map (·.dst)) rest ors1 S1 = some (c2, ors', S') -> All c2 -> o.wp P a w (wpList P ops Q rest) Q := by
   intro c1 ors0 ors1 S1 c2 h1 hc1 h2 hc2; exact Vbl h1 hc1 hr (fun G' a' w' g1 g2 g3 => Vda rest ors1 ors' S1 S' c2 h2 hc2 G' w' a' g2 Q (fun G2 a2 w2 q1 q2 q3 => hq G2 a2 w2 (g1.trans q1) q2 (fun i hi => (q3 i hi).trans (g3 i hi))))
  simp only [Vcs] at h; simp only [wpList]
  split at h
  ·rename_i hg; rw [if_pos (by simp [Region.wanted, hg])]
   split at h
   ·rename_i c1 ors1 S1 h1
    split at h
    ·rename_i c2 r h2; simp only [Za, Zc] at h; obtain ⟨rfl, rfl⟩ := h; obtain ⟨hc1, hc2⟩ := Vau hc; exact .inl (go h1 hc1 h2 hc2)
    ·simp at h
   ·simp at h
  ·rename_i j want hg
   split at h
   ·rename_i hs; obtain ⟨t, u, e1, e2, e3⟩ := Vb7 hs hr; simp only [RepS, Rep] at e3; obtain ⟨us, rfl, _⟩ := e3
    have hwant : Region.wanted o (yielded ops a.tmps) = false := by
     simp only [Region.wanted, hg, yielded, e1, Option.bind_some, e2]; rfl
    rw [hwant]; simp only [Bool.false_eq_true, if_false]; exact Vda rest ors ors' _ S' cs h hc G w _ (hr.put o.dst (Vgm G w)) Q hq
   ·rename_i b hs; obtain ⟨t, u, e1, e2, e3⟩ := Vb7 hs hr; simp only [RepS, Rep] at e3; obtain ⟨rfl, _⟩ := e3
    split at h
    ·rename_i d ors2
     split at h
     ·rename_i hd
      split at h
      ·rename_i c1 ors1 S1 h1
       split at h
       ·rename_i c2 r h2; simp only [Za, Zc] at h; obtain ⟨rfl, rfl⟩ := h; obtain ⟨hb, hc'⟩ := hc; obtain ⟨hc1, hc2⟩ := Vau hc'; subst hb hd; rw [if_pos (by simp only [Region.wanted, hg, yielded, e1, Option.bind_some, e2]; simp)]; exact .inl (go h1 hc1 h2 hc2)
       ·simp at h
      ·simp at h
     ·rename_i hd
      split at h
      ·rename_i c2 r h2; simp only [Za, Zc] at h; obtain ⟨rfl, rfl⟩ := h; obtain ⟨hb, hc'⟩ := hc; subst hb
       have hwant : Region.wanted o (yielded ops a.tmps) = false := by
        simp only [Region.wanted, hg, yielded, e1, Option.bind_some, e2]; cases b <;> cases want <;> simp_all
       rw [hwant]; simp only [Bool.false_eq_true, if_false]; exact Vda rest ors2 ors' _ S' c2 h2 hc' G w _ (hr.put o.dst (Vgm G w)) Q hq
      ·simp at h
    ·simp at h
   ·simp at h
end
end Go.Eng
namespace Go.Eng
def Vog (P : Program) (S : St) : ResultVar -> Option SV
 | .tmp t => S.fr[t]?
 | .cell a t => (Vi4 P t (S.fr.getD a .junk) S).map (·.v)
def aResL (P : Program) (S : St) : List ResultVar -> Option (List AV)
 | [] => some []
 | r :: l => match Vog P S r, aResL P S l with
  | some s, some xs => (s.toAV).map (fun x => x :: xs)
  | _, _ => none
def SV.toXV : SV -> Option XV
 | .av x => some (.c (.av x))
 | .nil => some (.c .nil)
 | .own k g sz l => some (.c (.own k g sz l))
 | .ag l => some (.a l)
 | _ => none
def aResX (P : Program) (S : St) : List ResultVar -> Option (List XV)
 | [] => some []
 | r :: l => match Vog P S r, aResX P S l with
  | some s, some xs => (s.toXV).map (fun x => x :: xs)
  | _, _ => none
def aRes (P : Program) (fn : Func) (S : St) (keep : Bool) : Option SV :=
 match keep, fn.results.toList with
 | true, [r] => Vog P S r
 | true, rs => (aResX P S rs).map (fun l => .tp l)
 | false, [r] => (Vog P S r).map SV.norm
 | false, rs => (aResL P S rs).map (fun l => .av (.tup l))
section
variable {P : Program}
def resRun (tmps : Array Value) : ResultVar -> Sem Value
 | .tmp t => pure (tmps.getD t undef)
 | .cell a t => do loadVar t (<- asAddr (tmps.getD a undef))
theorem Vd0 {S : St} {r : ResultVar} {s : SV} (h : Vog P S r = some s) {G : Gh} {w : World} {a : Act} (hr : Rel G w S a) : ∃ v, (resRun a.tmps r).run P w = .ok v w /\ RepS G w s v := by
 cases r with
 | tmp t =>
  simp only [Vog] at h; exact ⟨_, by simp [resRun], hr.fr t s h⟩
 | cell ad t =>
  simp only [Vog, Zb] at h; obtain ⟨r, h1, rfl⟩ := h
  have ho : Vaw P { dst := none, op := .load t (.tmp ad), type := 0, pos := "", after := #[], guard := none } S = some r := by simpa [Vaw, St.ev] using h1
  have hok : r.ok /\ r.st = S := by
   unfold Vi4 at h1
   split at h1
   ·split at h1
    ·split at h1
     ·simp only [Zb] at h1; obtain ⟨q, _, rfl⟩ := h1; exact ⟨trivial, rfl⟩
     ·simp at h1
    ·simp only [Zb] at h1; obtain ⟨q, _, rfl⟩ := h1; exact ⟨trivial, rfl⟩
    ·simp at h1
   ·split at h1
    ·split at h1
     ·split at h1
      ·split at h1
       ·split at h1
        ·split at h1
         ·simp only [Za] at h1; subst h1; exact ⟨trivial, rfl⟩
         ·simp at h1
        ·simp at h1
       ·split at h1
        ·split at h1
         ·simp only [Za] at h1; subst h1; exact ⟨trivial, rfl⟩
         ·simp at h1
        ·simp at h1
      ·simp at h1
     ·split at h1
      ·simp only [Za] at h1; subst h1; exact ⟨trivial, rfl⟩
      ·simp at h1
     ·simp at h1
    ·simp at h1
   ·simp at h1
  have hev := hr.ev (.tmp ad)
  have key : ∀ (hp : ∃ b o, a.tmps.getD ad undef = .pointer (some ⟨b, o, none⟩)) , ∃ v, (resRun a.tmps (.cell ad t)).run P w = .ok v w /\ RepS G w r.v v := by
   rintro ⟨b, o, hp⟩; obtain ⟨nx, v, w', G', e1, e2, _⟩ := Vb9 ho hok.1 G w a hr
   have hst : ∃ v, (loadVar t ⟨b, o, none⟩).run P w = .ok v w /\ RepS G w r.v v := by
    have hs := Vb9 ho; clear e1 e2; unfold Vi4 at h1
    split at h1
    ·rename_i ha
     split at h1
     ·rename_i b' k' hx
      split at h1
      ·rename_i ty l hb; simp only [Zb] at h1; obtain ⟨q, hq, rfl⟩ := h1
       have := hev; simp only [St.ev, hx, Act.eval] at this; obtain ⟨blk, h2, h3⟩ := this; rw [hp] at h3; simp at h3; obtain ⟨rfl, rfl⟩ := h3; obtain ⟨blk', arr, g1, g2, g3, g4, g5⟩ := hr.bx _ (Va9 hb); simp only at g1; rw [h2] at g1; simp at g1; subst g1; obtain ⟨u, h4, h5⟩ := g4.get o q hq
       have hc : w.cell? ⟨b, o, none⟩ = some u := by simpa [World.cell?, g2] using h4
       exact ⟨u, run_loadVar_one ha hc, h5⟩
      ·simp at h1
     ·rename_i l k hx; simp only [Zb] at h1; obtain ⟨q, hq, rfl⟩ := h1
      have := hev; simp only [St.ev, hx, Act.eval, RepS, Rep] at this; obtain ⟨b', o', us, h3, h4, h5, h6⟩ := this; rw [hp] at h3; simp at h3; obtain ⟨rfl, rfl⟩ := h3; obtain ⟨u, h7, h8⟩ := h4.get k q hq; exact ⟨u, run_loadVar_one ha (h6 k u h7).1, h8⟩
     ·simp at h1
    ·rename_i ha
     split at h1
     ·rename_i sz _ _ hi
      split at h1
      ·rename_i b' k' hx
       split at h1
       ·rename_i ty l hb
        split at h1
        ·split at h1
         ·rename_i r' hr'
          split at h1
          ·rename_i hsz; simp only [Za] at h1; subst h1
           have := hev; simp only [St.ev, hx, Act.eval] at this; obtain ⟨blk, h2, h3⟩ := this; rw [hp] at h3; simp at h3; obtain ⟨rfl, rfl⟩ := h3; exact Vk7 ha hi hb hr' hsz hr h2
          ·simp at h1
         ·simp at h1
        ·split at h1
         ·rename_i r' hr'
          split at h1
          ·rename_i hsz; simp only [Za] at h1; subst h1
           have := hev; simp only [St.ev, hx, Act.eval] at this; obtain ⟨blk, h2, h3⟩ := this; rw [hp] at h3; simp at h3; obtain ⟨rfl, rfl⟩ := h3; obtain ⟨blk', arr, g1, g2, g3, g4, g5⟩ := hr.bx _ (Va9 hb); simp only at g1; rw [h2] at g1; simp at g1; subst g1
           have h4 := ((g4.drop o).take sz).allAV hr'
           have hl := h4.length
           have hc : ∀ j v, ((arr.toList.drop o).take sz)[j]? = some v -> w.cell? ⟨b, o + j, none⟩ = some v := by
            intro j v hj; rw [List.getElem?_take] at hj
            split at hj
            ·simp only [List.getElem?_drop] at hj; simpa [World.cell?, g2] using hj
            ·simp at hj
           refine ⟨_, run_loadVar_agg ha hi (hl.trans hsz) hc, ?_⟩; simp only [RepS, Rep]; exact ⟨_, rfl, h4, fun y hy => g5 y (List.mem_of_mem_drop (List.mem_of_mem_take hy))⟩
          ·simp at h1
         ·simp at h1
       ·simp at h1
      ·rename_i l k hx
       split at h1
       ·rename_i hsz; simp only [Za] at h1; subst h1
        have := hev; simp only [St.ev, hx, Act.eval, RepS, Rep] at this; obtain ⟨b', o', us, h3, h4, h5, h6⟩ := this; rw [hp] at h3; simp at h3; obtain ⟨rfl, rfl⟩ := h3
        have h7 := (h4.drop k).take sz
        have hl := h4.length
        have hc : ∀ j v, ((us.drop k).take sz)[j]? = some v -> w.cell? ⟨b, (o' + k) + j, none⟩ = some v := by
         intro j v hj; rw [List.getElem?_take] at hj
         split at hj
         ·simp only [List.getElem?_drop] at hj; have := (h6 _ v hj).1; rwa [Nat.add_assoc]
         ·simp at hj
        refine ⟨_, run_loadVar_agg ha hi (vs := (us.drop k).take sz) (by simp; omega) hc, ?_⟩; simp only [RepS, Rep]; refine ⟨_, rfl, h7, fun y hy => ?_⟩
        have hy' := List.mem_of_mem_drop (List.mem_of_mem_take hy); obtain ⟨j, hj⟩ := List.mem_iff_getElem?.1 hy'; exact (h6 j y hj).2
       ·simp at h1
      ·simp at h1
     ·simp at h1
    ·simp at h1
   obtain ⟨v, q1, q2⟩ := hst; exact ⟨v, by simp [resRun, hp, asAddr, q1], q2⟩
  have hp : ∃ b o, a.tmps.getD ad undef = .pointer (some ⟨b, o, none⟩) := by
   unfold Vi4 at h1
   have hcase : (∃ b k, S.fr.getD ad .junk = .ptr b k) \/ (∃ l k, S.fr.getD ad .junk = .av (.ro l k)) := by
    split at h1
    ·split at h1
     ·rename_i b k hx; exact .inl ⟨b, k, hx⟩
     ·rename_i l k hx; exact .inr ⟨l, k, hx⟩
     ·simp at h1
    ·split at h1
     ·split at h1
      ·rename_i b k hx; exact .inl ⟨b, k, hx⟩
      ·rename_i l k hx; exact .inr ⟨l, k, hx⟩
      ·simp at h1
     ·simp at h1
    ·simp at h1
   rcases hcase with ⟨b, k, hx⟩ | ⟨l, k, hx⟩
   ·have := hev; simp only [St.ev, hx, Act.eval] at this; obtain ⟨blk, _, h3⟩ := this; exact ⟨blk, k, h3⟩
   ·have := hev; simp only [St.ev, hx, Act.eval, RepS, Rep] at this; obtain ⟨b, o, us, h3, _⟩ := this; exact ⟨b, o + k, h3⟩
  exact key hp
theorem Vl9 {S : St} {G : Gh} {w : World} {a : Act} (hr : Rel G w S a) : ∀ {rs : List ResultVar} {l : List AV}, aResL P S rs = some l -> ∃ vs, (rs.mapM (resRun a.tmps)).run P w = .ok vs w /\ RepL G.U w l vs
 | [], l, h => by simp [aResL] at h; subst h; exact ⟨[], by simp, by simp [RepL]⟩
 | r :: rs, l, h => by
  simp only [aResL] at h
  split at h
  ·rename_i s xs h1 h2; simp only [Zb] at h; obtain ⟨x, h3, rfl⟩ := h; obtain ⟨v, e1, e2⟩ := Vd0 h1 hr; obtain ⟨vs, e3, e4⟩ := Vl9 hr h2; refine ⟨v :: vs, by simp [List.mapM_cons, e1, e3], ?_⟩; simp only [RepL]; exact ⟨v, vs, rfl, e2.toAV h3, e4⟩
  ·simp at h
theorem RepS.toXV {G : Gh} {w : World} {s : SV} {u : Value} {x : XV} (h : RepS G w s u) (hx : s.toXV = some x) : RepX G w x u := by
 cases s with
 | av y => simp only [SV.toXV, Za] at hx; subst hx; exact h
 | nil => simp only [SV.toXV, Za] at hx; subst hx; exact h
 | own k g sz l => simp only [SV.toXV, Za] at hx; subst hx; exact h
 | ag l => simp only [SV.toXV, Za] at hx; subst hx; exact h
 | _ => simp [SV.toXV] at hx
theorem Vl7 {S : St} {G : Gh} {w : World} {a : Act} (hr : Rel G w S a) : ∀ {rs : List ResultVar} {l : List XV}, aResX P S rs = some l -> ∃ vs, (rs.mapM (resRun a.tmps)).run P w = .ok vs w /\ RepXs G w l vs /\ vs.length = rs.length
 | [], l, h => by simp [aResX] at h; subst h; exact ⟨[], by simp, rfl, rfl⟩
 | r :: rs, l, h => by
  simp only [aResX] at h
  split at h
  ·rename_i s xs h1 h2; simp only [Zb] at h; obtain ⟨x, h3, rfl⟩ := h; obtain ⟨v, e1, e2⟩ := Vd0 h1 hr; obtain ⟨vs, e3, e4, e5⟩ := Vl7 hr h2; exact ⟨v :: vs, by simp [List.mapM_cons, e1, e3], ⟨v, vs, rfl, e2.toXV h3, e4⟩, by simp [e5]⟩
  ·simp at h
theorem results_eq (fn : Func) (tmps : Array Value) : results fn tmps = (do let vs <- fn.results.mapM (resRun tmps); pure (if h : vs.size = 1 then vs[0] else .tuple vs)) := by
 unfold results; congr 1
theorem Vmt {fn : Func} {S : St} {s : SV} {keep : Bool} (h : aRes P fn S keep = some s) {G : Gh} {w : World} {a : Act} (hr : Rel G w S a) : ∃ v, (results fn a.tmps).run P w = .ok v w /\ RepS G w s v := by
 unfold aRes at h
 split at h
 ·rename_i r hrs; obtain ⟨v, e1, e2⟩ := Vd0 h hr; refine ⟨v, ?_, e2⟩; rw [results_eq, arr1 hrs, Zf]; simp [e1]
 ·rename_i rs hrs; simp only [Zb] at h; obtain ⟨l, h1, rfl⟩ := h; obtain ⟨vs, e1, e2, e3⟩ := Vl7 hr h1; refine ⟨.tuple vs.toArray, ?_, _, rfl, by simpa using e2⟩; rw [results_eq, Zf]; simp only [Sem.run_bind, Sem.run_map, e1, Result.andThen_ok, Sem.run_pure]
  have hne : ¬ vs.toArray.size = 1 := by
   intro h1'; simp at h1'
   have h1l : fn.results.toList.length = 1 := by omega
   obtain ⟨r, hr1⟩ := List.length_eq_one_iff.1 h1l; exact hrs r hr1
  rw [dif_neg hne]
 ·rename_i r hrs; simp only [Zb] at h; obtain ⟨s', h1, rfl⟩ := h; obtain ⟨v, e1, e2⟩ := Vd0 h1 hr; refine ⟨v, ?_, e2.norm⟩; rw [results_eq, arr1 hrs, Zf]; simp [e1]
 ·rename_i rs hrs; simp only [Zb] at h; obtain ⟨l, h1, rfl⟩ := h; obtain ⟨vs, e1, e2⟩ := Vl9 hr h1; refine ⟨.tuple vs.toArray, ?_, ?_⟩
  ·rw [results_eq, Zf]; simp only [Sem.run_bind, Sem.run_map, e1, Result.andThen_ok, Sem.run_pure]
   have hne : ¬ vs.toArray.size = 1 := by
    intro h1'
    have hl := e2.length
    have hlen : fn.results.toList.length = l.length := by
     clear e1 e2 hrs hl
     revert h1
     generalize fn.results.toList = rs; intro h1
     induction rs generalizing l with
     | nil => simp [aResL] at h1; subst h1; rfl
     | cons r rs ih =>
      simp only [aResL] at h1
      split at h1
      ·rename_i s xs _ h2; simp only [Zb] at h1; obtain ⟨x, _, rfl⟩ := h1; simp [ih _ h2]
      ·simp at h1
    simp at h1'
    have h1l : fn.results.toList.length = 1 := by omega
    obtain ⟨r, hr1⟩ := List.length_eq_one_iff.1 h1l; exact hrs r hr1
   rw [dif_neg hne]
  ·simp only [RepS, Rep]; exact ⟨_, rfl, by simpa using e2⟩
def OkCV (gn : List (Key × Nat)) : CV -> Prop
 | .own k g _ _ => gn.lookup k = some g
 | _ => True
def OkXV (gn : List (Key × Nat)) : XV -> Prop
 | .c x => OkCV gn x
 | .a l => ∀ x ∈ l, OkCV gn x
def OkSV (ids : List Nat) (gn : List (Key × Nat)) : SV -> Prop
 | .own k g _ _ => gn.lookup k = some g
 | .ag l => ∀ x ∈ l, OkCV gn x
 | .tp l => ∀ x ∈ l, OkXV gn x
 | s => ∀ κ ∈ s.keys, κ.1 ∈ ids
theorem Veh {l : List (Key × Nat)} {k : Key} {g : Nat} (h : l.lookup k = some g) : (k, g) ∈ l := by
 induction l with
 | nil => simp at h
 | cons p l ih =>
  obtain ⟨k', y⟩ := p; simp only [List.lookup_cons] at h
  split at h
  ·rename_i hk; simp only [Za] at h; have := eq_of_beq hk; subst this h; simp
  ·simp [ih h]
theorem Vfq {G G' : Gh} {w : World} {gn : List (Key × Nat)} {k : Key} {g sz : Nat} {l : List AV} {u : Value} (hU : G'.U = G.U) (hk : gn.lookup k = some g) (hg : ∀ k g, gn.lookup k = some g -> G'.ow k = G.ow k /\ G.gen k = g /\ G'.gen k = g) (hr : RepOwn G w k g sz l u) : RepOwn G' w k g sz l u := by
 obtain ⟨q1, q2, q3⟩ := hg k g hk; obtain ⟨h0, hgg, a, cap, es, h1, h2, h3, h4, hn, hsp, h5, h6⟩ := hr; refine ⟨h0, by omega, a, cap, es, h1, by rw [hU]; exact h2, h3, h4, hn, hsp, by rw [hU]; exact h5, fun _ => ?_⟩; rcases h6 q2 with h6 | ⟨b, off, arr, e, h7, h8, h9, h10, h11, h12⟩
 ·exact .inl h6
 ·exact .inr ⟨b, off, arr, e, h7, by rw [q1]; exact h8, h9, h10, by rw [hU]; exact h11, h12⟩
theorem Vh7 {G G' : Gh} {w : World} {gn : List (Key × Nat)} {x : CV} {u : Value} (hU : G'.U = G.U) (hg : ∀ k g, gn.lookup k = some g -> G'.ow k = G.ow k /\ G.gen k = g /\ G'.gen k = g) (hk : OkCV gn x) (hr : RepC G w x u) : RepC G' w x u := by
 cases x with
 | av x => simp only [RepC] at hr ⊢; rw [hU]; exact hr
 | nil => exact hr
 | own k g sz l => exact Vfq hU hk hg hr
theorem Vdl {G G' : Gh} {w : World} {gn : List (Key × Nat)} (hU : G'.U = G.U) (hg : ∀ k g, gn.lookup k = some g -> G'.ow k = G.ow k /\ G.gen k = g /\ G'.gen k = g) : ∀ {l : List CV} {us : List Value}, (∀ x ∈ l, OkCV gn x) -> RepCs G w l us -> RepCs G' w l us
 | [], _, _, h => h
 | x :: l, us, hk, h => by
  obtain ⟨u, us', e, h2, h3⟩ := h; exact ⟨u, us', e, Vh7 hU hg (hk x (by simp)) h2, Vdl hU hg (fun y hy => hk y (by simp [hy])) h3⟩
theorem Ver {G G' : Gh} {w : World} {ids : List Nat} {gn : List (Key × Nat)} {s : SV} {u : Value} (hU : G'.U = G.U) (hC : G'.cp = G.cp) (hk : OkSV ids gn s) (ho : ∀ i : Nat, i ∈ ids -> G'.ow (i, 0) = G.ow (i, 0)) (hg : ∀ k g, gn.lookup k = some g -> G'.ow k = G.ow k /\ G.gen k = g /\ G'.gen k = g) (hr : RepS G w s u) : RepS G' w s u := by
 have key : ∀ (p : PV) (u : Value), (∀ κ ∈ p.keys, κ.1 ∈ ids) -> RepP G w p u -> RepP G' w p u := by
  intro p u hp h; cases p with
  | av x => simp only [RepP] at h ⊢; rw [hU]; exact h
  | ptr b o => obtain ⟨blk, h1, h2⟩ := h; exact ⟨blk, by rw [ho b (hp (b, 0) (by simp [PV.keys]))]; exact h1, h2⟩
  | mp b => obtain ⟨blk, h1, h2⟩ := h; exact ⟨blk, by rw [ho b (hp (b, 0) (by simp [PV.keys]))]; exact h1, h2⟩
 have keyL : ∀ (l : List PV) (us : List Value), (∀ κ ∈ l.flatMap PV.keys, κ.1 ∈ ids) -> RepPs G w l us -> RepPs G' w l us := by
  intro l
  induction l with
  | nil => intro us _ h; exact h
  | cons p l ih =>
   intro us hp h; obtain ⟨u, us', e1, e2, e3⟩ := h; exact ⟨u, us', e1, key p u (fun κ hκ => hp κ (by simp [hκ])) e2, ih us' (fun κ hκ => hp κ (by simp only [List.flatMap_cons, List.mem_append]; exact .inr hκ)) e3⟩
 cases s with
 | junk => trivial
 | nil => exact hr
 | av x => simp only [RepS] at hr ⊢; rw [hU]; exact hr
 | ptr b o => obtain ⟨blk, h1, h2⟩ := hr; exact ⟨blk, by rw [ho b (hk (b, 0) (by simp [SV.keys]))]; exact h1, h2⟩
 | mp b => obtain ⟨blk, h1, h2⟩ := hr; exact ⟨blk, by rw [ho b (hk (b, 0) (by simp [SV.keys]))]; exact h1, h2⟩
 | own k g sz l => exact Vfq hU hk hg hr
 | ag l => obtain ⟨us, h1, h2, h3⟩ := hr; exact ⟨us, h1, Vdl hU hg hk h2, h3⟩
 | tp l =>
  obtain ⟨us, h1, h2⟩ := hr; refine ⟨us, h1, ?_⟩; clear h1; generalize us.toList = vs at h2
  induction l generalizing vs with
  | nil => exact h2
  | cons x l ih =>
   obtain ⟨u, vs', e1, e2, e3⟩ := h2; refine ⟨u, vs', e1, ?_, ih (fun y hy => hk y (by simp [hy])) vs' e3⟩
   have hx := hk x (by simp); cases x with
   | c y => exact Vh7 hU hg hx e2
   | a m => obtain ⟨ws, f1, f2, f3⟩ := e2; exact ⟨ws, f1, Vdl hU hg hx f2, f3⟩
 | clo l => simp only [RepS] at hr ⊢; rw [hU]; exact hr
 | vs b n =>
  rcases hr with ⟨h1, h2, h3⟩ | ⟨blk, h0, h1, h2, h3⟩
  ·exact .inl ⟨h1, h2, by rw [ho b (hk (b, 0) (by simp [SV.keys]))]; exact h3⟩
  ·exact .inr ⟨blk, h0, by rw [ho b (hk (b, 0) (by simp [SV.keys]))]; exact h1, by rw [hC]; exact h2, by rw [hC]; exact h3⟩
 | vw b sz o n =>
  obtain ⟨a, cap, h1, h2, h3⟩ := hr; exact ⟨a, cap, h1, h2, h3.imp id (fun ⟨blk, h4, h5⟩ => ⟨blk, by rw [ho b (hk (b, 0) (by simp [SV.keys]))]; exact h4, h5⟩)⟩
 | vp b sz i o => obtain ⟨blk, h1, h2⟩ := hr; exact ⟨blk, by rw [ho b (hk (b, 0) (by simp [SV.keys]))]; exact h1, h2⟩
 | son b =>
  rcases hr with h1 | ⟨blk, h1, h2⟩
  ·exact .inl h1
  ·exact .inr ⟨blk, by rw [ho b (hk (b, 0) (by simp [SV.keys]))]; exact h1, h2⟩
 | fn f fs cs =>
  obtain ⟨vs, us, h1, h2, h3⟩ := hr; refine ⟨vs, us, h1, keyL fs _ (fun κ hκ => hk κ ?_) h2, keyL cs _ (fun κ hκ => hk κ ?_) h3⟩
  ·simp only [SV.keys, List.mem_append]; exact .inl hκ
  ·simp only [SV.keys, List.mem_append]; exact .inr hκ
theorem Vbc {G G' : Gh} {w : World} {ids : List Nat} {gn : List (Key × Nat)} (hU : G'.U = G.U) (hC : G'.cp = G.cp) (ho : ∀ i : Nat, i ∈ ids -> G'.ow (i, 0) = G.ow (i, 0)) (hg : ∀ k g, gn.lookup k = some g -> G'.ow k = G.ow k /\ G.gen k = g /\ G'.gen k = g) : ∀ {l : List SV} {us : List Value}, (∀ s ∈ l, OkSV ids gn s) -> RepSs G w l us -> RepSs G' w l us
 | [], _, _, h => h
 | s :: l, us, hk, h => by
  obtain ⟨u, us', e, h2, h3⟩ := h; exact ⟨u, us', e, Ver hU hC (hk s (by simp)) ho hg h2, Vbc hU hC ho hg (fun x hx => hk x (by simp [hx])) h3⟩
theorem Vcn {G G' : Gh} {w : World} {ids : List Nat} {gn : List (Key × Nat)} {id : Nat} {x : ABox} (hU : G'.U = G.U) (hC : G'.cp = G.cp) (ho : ∀ i : Nat, i ∈ ids -> G'.ow (i, 0) = G.ow (i, 0)) (hg : ∀ k g, gn.lookup k = some g -> G'.ow k = G.ow k /\ G.gen k = g /\ G'.gen k = g) (hid : id ∈ ids) (hk : ∀ s ∈ x.svs, OkSV ids gn s) (h : RepB G w id x) : RepB G' w id x := by
 cases x with
 | cells e l =>
  obtain ⟨blk, arr, h1, h2, h3, h4, h5⟩ := h; exact ⟨blk, arr, by rw [ho id hid]; exact h1, h2, by rw [hU]; exact h3, Vbc hU hC ho hg hk h4, h5⟩
 | map ks vs =>
  obtain ⟨blk, ents, clock, h1, h2, h3, h4, h5, h6⟩ := h; exact ⟨blk, ents, clock, by rw [ho id hid]; exact h1, h2, by rw [hU]; exact h3, h4, by rw [hU]; exact h5, h6⟩
 | ge n => exact h
 | it s pos =>
  obtain ⟨blk, h0, h1, h2, h3⟩ := h; exact ⟨blk, h0, by rw [ho id hid]; exact h1, h2, by rw [hU]; exact h3⟩
 | vec e sz l =>
  rcases h with ⟨h1, h2⟩ | ⟨blk, arr, es, h0, h1, h2, h3, h4, h5, h6, h7⟩
  ·exact .inl ⟨h1, by rw [ho id hid]; exact h2⟩
  ·exact .inr ⟨blk, arr, es, h0, by rw [ho id hid]; exact h1, h2, by rw [hU]; exact h3, by rw [hC]; exact h4, by rw [hU]; exact h5, h6, h7⟩
 | vck e sz l =>
  rcases h with ⟨h1, h2⟩ | ⟨blk, arr, es, h0, h1, h2, h3, h4, h5, h6, h7⟩
  ·exact .inl ⟨h1, by rw [ho id hid]; exact h2⟩
  ·exact .inr ⟨blk, arr, es, h0, by rw [ho id hid]; exact h1, h2, by rw [hU]; exact h3, by rw [hC]; exact h4, by rw [hU]; exact h5, h6, h7⟩
def Ends (P : Program) (fn : Func) (res : SV) (bx' : List (Nat × ABox)) (gn' : List (Key × Nat)) : Exit -> St -> Prop
 | .normal, S | .ret, S => (∃ keep, aRes P fn S keep = some res) /\ (∀ p ∈ bx', S.bx.lookup p.1 = some p.2) /\ ∀ p ∈ gn', S.gen p.1 = p.2
 | _, _ => False
def FsOk (bx : List (Nat × ABox)) (gn : List (Key × Nat)) (S : St) (r res : SV) : Prop :=
 ∃ (k : Key) (g sz : Nat) (l : List AV) (N id : Nat), r = .own k g sz l /\ res = .av (.fs N l) /\ (id, ABox.ge N) ∈ bx /\ (∀ p ∈ bx, p.1 < 2000) /\ gn = [] /\ 0 < k.2 /\ S.gen k = g
def EndsG (P : Program) (fn : Func) (bx : List (Nat × ABox)) (gn : List (Key × Nat)) (res : SV) (bx' : List (Nat × ABox)) (gn' : List (Key × Nat)) : Exit -> St -> Prop
 | .normal, S | .ret, S => (∃ keep r, aRes P fn S keep = some r /\ (r = res \/ FsOk bx gn S r res)) /\ (∀ p ∈ bx', S.bx.lookup p.1 = some p.2) /\ ∀ p ∈ gn', S.gen p.1 = p.2
 | _, _ => False
theorem Veg {l : List (Key × Nat)} {k : Key} (h : k ∈ l.map (·.1)) : ∃ g, l.lookup k = some g := by
 cases hl : l.lookup k with
 | some g => exact ⟨g, rfl⟩
 | none =>
  rw [Zh] at hl; simp only [Zd] at h; obtain ⟨p, hp, hpk⟩ := h
  have := hl p hp; simp at this; exact (this hpk.symm).elim
theorem Vfr {f : FuncId} {fn : Func} {c : Code} (hf : P.funcs[f]? = some fn) (hb : fn.body = some c) (hname : (fn.name == "runtime.NumGoroutine") = false) {args : List SV} {bx bx1 bx' : List (Nat × ABox)} {gn gn' : List (Key × Nat)} {res : SV} {n : Nat} (hn : fn.ntmps = n)
  (hle : args.length <= n) (hids : ∀ p ∈ bx, 1000 <= p.1) (hgk : ∀ p ∈ gn, 1000 <= p.1.1 /\ 0 < p.1.2) (hargs : ∀ s ∈ args, OkSV (bx.map (·.1)) gn s) (hbx : ∀ p ∈ bx, ∀ s ∈ p.2.svs, OkSV (bx.map (·.1)) gn s)
  (hres : OkSV (bx.map (·.1)) gn' res) (hbx' : ∀ p ∈ bx1, ∀ s ∈ p.2.svs, OkSV (bx.map (·.1)) gn' s) (hsame : bx'.map (·.1) = bx.map (·.1)) (hgn' : gn'.map (·.1) = gn.map (·.1))
  (h : W P c (EndsG P fn bx gn res bx1 gn') ⟨args ++ List.replicate (n - args.length) .junk, bx, gn⟩) (hv : ∀ p ∈ bx', p.1 < 2000 \/ p.1 ∈ Vb5 bx') (hk : ∀ p ∈ bx', ∃ x, (p.1, x) ∈ bx1 /\ ∀ G w, RepB G w p.1 x -> RepB G w p.1 p.2) : CallTo P f args bx gn res bx' gn' := by
 refine ⟨⟨fn, hf, by rw [hb]; rfl, hname⟩, ?_⟩; intro G w vs hw hr hbr hgr
 have hlv := hr.length
 let ids := bx.map (·.1)
 let mine : Key -> Prop := fun κ => (κ.1 ∈ ids /\ κ.2 = 0) \/ κ ∈ gn.map (·.1)
 have hdec : ∀ κ, mine κ \/ ¬ mine κ := fun κ => Classical.em _
 let G0 : Gh := { U := G.U, cp := G.cp, ow := fun κ => @ite _ (mine κ) (Classical.propDecidable _) (G.ow κ) none, gen := fun κ => (gn.lookup κ).getD 0, df := [] }
 have hG0 : ∀ κ : Key, mine κ -> G0.ow κ = G.ow κ := fun κ hκ => by simp only [G0]; rw [if_pos hκ]
 have hG0s : ∀ κ b, G0.ow κ = some b -> mine κ /\ G.ow κ = some b := by
  intro κ b hb; simp only [G0] at hb
  split at hb
  ·rename_i hk; exact ⟨hk, hb⟩
  ·simp at hb
 have hgl : ∀ k g, gn.lookup k = some g -> G.gen k = g := fun k g hl => hgr (k, g) (Veh hl)
 have hid0 : ∀ i : Nat, i ∈ ids -> G0.ow (i, 0) = G.ow (i, 0) := fun i hi => hG0 (i, 0) (.inl ⟨hi, rfl⟩)
 have hgn0 : ∀ k g, gn.lookup k = some g -> G0.ow k = G.ow k /\ G.gen k = g /\ G0.gen k = g := fun k g hl =>
  ⟨hG0 k (.inr (by have := Veh hl; exact Zg this)), hgl k g hl, by simp only [G0, hl, Ze]⟩
 have hw0 : Wf G0 w := ⟨fun κ κ' b h1 h2 => hw.inj κ κ' b (hG0s κ b h1).2 (hG0s κ' b h2).2, fun κ b h1 => hw.lt κ b (hG0s κ b h1).2, hw.zero⟩
 have hrel : Rel G0 w ⟨args ++ List.replicate (n - args.length) .junk, bx, gn⟩ { tmps := vs.toArray ++ Array.replicate (fn.ntmps - vs.toArray.size) undef, defers := [] } := by
  refine ⟨hw0, ?_, fun t s ht => ?_, fun p hp => ?_, fun k => rfl, rfl⟩
  ·simp [hlv, hn]
  ·simp only at ht; rcases Nat.lt_or_ge t args.length with hlt | hge
   ·rw [List.getElem?_append_left hlt] at ht
    have hr0 := Vbc (G := G) (G' := G0) rfl rfl hid0 hgn0 hargs hr; obtain ⟨u, h1, h2⟩ := hr0.get t s ht
    have : (vs.toArray ++ Array.replicate (fn.ntmps - vs.toArray.size) undef).getD t undef = u := by
     have hlt' : t < vs.length := by omega
     simp only [Array.getD_eq_getD_getElem?]; rw [Array.getElem?_append_left (by simpa using hlt')]; simp [h1]
    rw [this]; exact h2
   ·rw [List.getElem?_append_right hge, List.getElem?_replicate] at ht
    split at ht
    ·simp at ht; subst ht; trivial
    ·simp at ht
  ·exact Vcn (G := G) (G' := G0) rfl rfl hid0 hgn0 (Zg hp) (hbx p hp) (hbr p hp)
 refine calls_of_wp hf hb (Code.wp_mono (fun e a w' hl => ?_) (h G0 w _ hrel)); obtain ⟨S', G1, h1, h2, h3, h4⟩ := hl
 have done : (∃ keep r, aRes P fn S' keep = some r /\ (r = res \/ FsOk bx gn S' r res)) /\ (∀ p ∈ bx1, S'.bx.lookup p.1 = some p.2) /\ (∀ p ∈ gn', S'.gen p.1 = p.2) -> a.defers = [] /\ ∃ v, (results fn a.tmps).run P w' = .ok v w' /\
   ∃ v_1 G', Ending.returned v = .returned v_1 /\ Step G w G' w' /\ Wf G' w' /\ RepS G' w' res v_1 /\ (∀ p ∈ bx', RepB G' w' p.1 p.2) /\ (∀ i : Nat, i ∉ bx'.map (·.1) -> Keep G w G' w' (i, 0)) /\ (∀ i, i ∉ Vb5 bx' -> G'.ow (i, 0) = G.ow (i, 0)) /\ ∀ κ : Key, G'.gen κ = (gn'.lookup κ).getD (G.gen κ) := by
  rintro ⟨⟨keep, r9, g1, hfs⟩, g2, g3⟩; obtain ⟨v, e1, e2r⟩ := Vmt g1 h3
  let G' : Gh := { U := G1.U, cp := G1.cp, ow := fun κ => @ite _ (mine κ) (Classical.propDecidable _) (G1.ow κ) (G.ow κ), gen := fun κ => (gn'.lookup κ).getD (G.gen κ), df := G.df }
  have hG' : ∀ κ : Key, mine κ -> G'.ow κ = G1.ow κ := fun κ hκ => by simp only [G']; rw [if_pos hκ]
  have hG'n : ∀ κ : Key, ¬ mine κ -> G'.ow κ = G.ow κ := fun κ hκ => by simp only [G']; rw [if_neg hκ]
  have hnot : ∀ κ b, ¬ mine κ -> G.ow κ = some b -> w'.heap[b]? = w.heap[b]? /\ G1.U b = G.U b := by
   intro κ b hκ hb; refine h2.stay b (hw.lt κ b hb) (fun κ2 h' => ?_); obtain ⟨q1, q2⟩ := hG0s κ2 b h'
   have := hw.inj κ2 κ b q2 hb; subst this; exact hκ q1
  have hgn1 : ∀ k g, gn'.lookup k = some g -> G1.gen k = g := fun k g hl => by rw [h3.gn k]; exact g3 (k, g) (Veh hl)
  have hgmem : ∀ k g, gn'.lookup k = some g -> k ∈ gn.map (·.1) := fun k g hl => by rw [<- hgn']; exact Zg (Veh hl)
  have hgn2 : ∀ k g, gn'.lookup k = some g -> G'.ow k = G1.ow k /\ G1.gen k = g /\ G'.gen k = g := fun k g hl =>
   ⟨hG' k (.inr (hgmem k g hl)), hgn1 k g hl, by simp only [G', hl, Ze]⟩
  have hid1 : ∀ i : Nat, i ∈ ids -> G'.ow (i, 0) = G1.ow (i, 0) := fun i hi => hG' (i, 0) (.inl ⟨hi, rfl⟩)
  have how : ∀ κ b, G'.ow κ = some b -> (mine κ /\ G1.ow κ = some b) \/ (¬ mine κ /\ G.ow κ = some b) := by
   intro κ b hκ; rcases hdec κ with hm | hm
   ·rw [hG' κ hm] at hκ; exact .inl ⟨hm, hκ⟩
   ·rw [hG'n κ hm] at hκ; exact .inr ⟨hm, hκ⟩
  have hmono : ∀ κ, G.gen κ <= G'.gen κ := by
   intro κ; simp only [G']; cases hl : gn'.lookup κ with
   | none => simp
   | some g =>
    obtain ⟨g0, hl0⟩ := Veg (hgmem κ g hl)
    have := h2.gen κ; rw [hgn1 κ g hl] at this; simp only [G0, hl0, Ze] at this; simp only [Ze]; rw [hgl κ g0 hl0]; exact this
  have hext : Ext G w G' w' := by
   refine ⟨h2.U, h2.imm, h2.size, h2.os, Prod.ext h2.toExt.tp rfl, h2.output, h2.cp, hmono, fun κ h0 hge => ?_⟩; rcases hdec κ with hm | hm
   ·rcases hm with ⟨_, hz⟩ | hm2
    ·omega
    ·obtain ⟨g0, hl0⟩ := Veg hm2; obtain ⟨g, hl⟩ := Veg (l := gn') (k := κ) (by rw [hgn']; exact hm2)
     have hgg : G1.gen κ = G0.gen κ := by
      have e1 : G'.gen κ = g := by simp only [G', hl, Ze]
      rw [hgn1 κ g hl]; simp only [G0, hl0, Ze]; rw [<- hgl κ g0 hl0, <- hge, e1]
     obtain ⟨k1, k2⟩ := h2.tok κ h0 hgg; refine ⟨by rw [hG' κ (.inr hm2), k1, hG0 κ (.inr hm2)], fun b hb => ?_⟩; exact k2 b (by rw [hG0 κ (.inr hm2)]; exact hb)
   ·exact ⟨hG'n κ hm, fun b hb => hnot κ b hm hb⟩
  refine ⟨h3.defers.trans h2.toExt.df, v, e1, v, G', rfl, ⟨hext, ?_, ?_⟩, ⟨?_, ?_, h3.wf.zero⟩, ?_, ?_, ?_, ?_, fun _ => rfl⟩
  ·intro b hb' hno; exact h2.stay b hb' (fun κ hκ => hno κ (hG0s κ b hκ).2)
  ·intro κ b hκ; rcases how κ b hκ with ⟨_, q⟩ | ⟨_, q⟩
   ·rcases h2.rng κ b q with ⟨κ', h'⟩ | h'
    ·exact .inl ⟨κ', (hG0s κ' b h').2⟩
    ·exact .inr h'
   ·exact .inl ⟨κ, q⟩
  ·intro κ κ' b hκ hκ'
   have cross : ∀ κ κ', mine κ -> G1.ow κ = some b -> ¬ mine κ' -> G.ow κ' = some b -> κ = κ' := by
    intro κ κ' m1 q1 m2 q2; rcases h2.rng κ b q1 with ⟨κ2, h'⟩ | h'
    ·obtain ⟨r1, r2⟩ := hG0s κ2 b h'
     have := hw.inj κ2 κ' b r2 q2; subst this; exact (m2 r1).elim
    ·have := hw.lt κ' b q2; omega
   rcases how κ b hκ with ⟨m1, q1⟩ | ⟨m1, q1⟩ <;> rcases how κ' b hκ' with ⟨m2, q2⟩ | ⟨m2, q2⟩
   ·exact h3.wf.inj κ κ' b q1 q2
   ·exact cross κ κ' m1 q1 m2 q2
   ·exact (cross κ' κ m2 q2 m1 q1).symm
   ·exact hw.inj κ κ' b q1 q2
  ·intro κ b hκ; rcases how κ b hκ with ⟨_, q⟩ | ⟨_, q⟩
   ·exact h3.wf.lt κ b q
   ·have := hw.lt κ b q; have := h2.size; omega
  ·rcases hfs with rfl | ⟨k, g, sz, l, N, id, rfl, rfl, hid, hlt, hgn0, hk0, hgk⟩
   ·exact Ver (G := G1) (G' := G') rfl rfl hres hid1 hgn2 e2r
   ·have hN : N <= w.heap.size := hbr (id, .ge N) hid; obtain ⟨_, _, ad0, cap, es, h1', h2', h3', h4', hn', hsp', h5', h6'⟩ := e2r
    show Rep G'.U w' (.fs N l) v; simp only [Rep]; refine ⟨ad0, cap, es, sz, h1', h2', h3', hn', h4', fun _ => hsp', h5', fun hl ad had => ?_⟩; rcases h6' (by rw [h3.gn k]; exact hgk) with h0 | ⟨b, off, arr, e, ha, ho, _⟩
    ·exact absurd (List.length_eq_zero_iff.1 (by omega)) hl
    ·rw [ha] at had; simp only [Za] at had; subst had
     show N <= b; rcases h2.rng k b ho with ⟨κ', h'⟩ | h'
     ·exfalso; obtain ⟨m, _⟩ := hG0s κ' b h'; subst hgn0; rcases m with ⟨hi, hz⟩ | m
      ·obtain ⟨κ1, κ2⟩ := κ'; simp only at hi hz; subst hz
       have hi2 := hi; simp only [ids, Zd] at hi2; obtain ⟨p, hp, rfl⟩ := hi2
       have e9 := h4 p.1 ⟨hids p hp, hlt p hp⟩
       have := h3.wf.inj (p.1, 0) k b (by rw [e9]; exact h') ho; rw [<- this] at hk0; simp at hk0
      ·simp at m
     ·omega
  ·intro p hp; obtain ⟨x, hx, hxr⟩ := hk p hp
   have := h3.bx _ (Va9 (g2 (p.1, x) hx)); exact hxr _ _ (Vcn (G := G1) (G' := G') rfl rfl hid1 hgn2 (by show p.1 ∈ bx.map (·.1); rw [<- hsame]; exact Zg hp) (hbx' (p.1, x) hx) this)
  ·intro i hi
   have hm : ¬ mine (i, 0) := by
    rintro (⟨q, _⟩ | q)
    ·exact hi (by rw [hsame]; exact q)
    ·simp only [Zd] at q; obtain ⟨p, hp, hpk⟩ := q
     have := (hgk p hp).2; rw [hpk] at this; simp at this
   exact ⟨hG'n _ hm, fun b hb => hnot _ b hm hb⟩
  ·intro i hiv; rcases hdec (i, 0) with hm | hm
   ·rw [hG' _ hm]
    have hi : i ∈ ids := by
     rcases hm with ⟨q, _⟩ | q
     ·exact q
     ·simp only [Zd] at q; obtain ⟨p, hp, hpk⟩ := q
      have := (hgk p hp).2; rw [hpk] at this; simp at this
    have hi2 := hi; simp only [ids, Zd] at hi2; obtain ⟨p, hp, rfl⟩ := hi2
    have hlt : p.1 < 2000 := by
     have hm2 : p.1 ∈ bx'.map (·.1) := by rw [hsame]; exact Zg hp
     simp only [Zd] at hm2; obtain ⟨q, hq, hqe⟩ := hm2; rcases hv q hq with h9 | h9
     ·rw [<- hqe]; exact h9
     ·rw [hqe] at h9; exact absurd h9 hiv
    rw [h4 p.1 ⟨hids p hp, hlt⟩, hid0 p.1 hi]
   ·exact hG'n _ hm
 cases e with
 | normal => exact done h1
 | ret => exact done h1
 | exit id => exact h1.elim
 | goto l => exact h1.elim
 | panic ch => exact h1.elim
 | outgrown => exact h1.elim
theorem Vc9 {f : FuncId} {fn : Func} {c : Code} (hf : P.funcs[f]? = some fn) (hb : fn.body = some c) (hname : (fn.name == "runtime.NumGoroutine") = false) {args : List SV} {bx bx' : List (Nat × ABox)} {gn gn' : List (Key × Nat)} {res : SV} {n : Nat} (hn : fn.ntmps = n)
  (hle : args.length <= n) (hids : ∀ p ∈ bx, 1000 <= p.1) (hgk : ∀ p ∈ gn, 1000 <= p.1.1 /\ 0 < p.1.2) (hargs : ∀ s ∈ args, OkSV (bx.map (·.1)) gn s) (hbx : ∀ p ∈ bx, ∀ s ∈ p.2.svs, OkSV (bx.map (·.1)) gn s)
  (hres : OkSV (bx.map (·.1)) gn' res) (hbx' : ∀ p ∈ bx', ∀ s ∈ p.2.svs, OkSV (bx.map (·.1)) gn' s) (hsame : bx'.map (·.1) = bx.map (·.1)) (hgn' : gn'.map (·.1) = gn.map (·.1))
  (h : W P c (Ends P fn res bx' gn') ⟨args ++ List.replicate (n - args.length) .junk, bx, gn⟩) (hv : ∀ p ∈ bx', p.1 < 2000 \/ p.1 ∈ Vb5 bx' := by simp) : CallTo P f args bx gn res bx' gn' :=
 Vfr hf hb hname hn hle hids hgk hargs hbx hres hbx' hsame hgn' (Vqz h (fun e S hE => by
  cases e with
  | normal => obtain ⟨⟨keep, h1⟩, h2, h3⟩ := hE; exact ⟨⟨keep, _, h1, .inl rfl⟩, h2, h3⟩
  | ret => obtain ⟨⟨keep, h1⟩, h2, h3⟩ := hE; exact ⟨⟨keep, _, h1, .inl rfl⟩, h2, h3⟩
  | _ => exact hE.elim)) hv (fun p hp => ⟨p.2, hp, fun _ _ h => h⟩)
end
end Go.Eng
namespace Go.Proofs.YtnpedjbgchdkbaaGreatDoor
open Go.Eng
end Go.Proofs.YtnpedjbgchdkbaaGreatDoor
namespace Go.Eng
theorem an : All [] := trivial
theorem ac {p : Prop} {l : List Prop} (h : p) (h' : All l) : All (p :: l) := ⟨h, h'⟩
def WkC (S : St) : CV -> CV -> Prop
 | .own k g sz l, .own k' g' sz' l' => k = k' /\ g = g' /\ sz = sz' /\ l = l'
 | .own _ _ _ l, .av x => x = .sl l
 | .nil, .av x => x = .sl []
 | .nil, .own k g _ l => l = [] /\ 0 < k.2 /\ S.gen k = g
 | s, s' => s = s'
def WkCs (S : St) : List CV -> List CV -> Prop
 | [], [] => True
 | s :: l, s' :: l' => WkC S s s' /\ WkCs S l l'
 | _, _ => False
def WkS (S : St) : SV -> SV -> Prop
 | _, .junk => True
 | .own k g sz l, .own k' g' sz' l' => k = k' /\ g = g' /\ sz = sz' /\ l = l'
 | .own _ _ _ l, .av x => x = .sl l
 | .nil, .av x => x = .sl []
 | .nil, .own k g _ l => l = [] /\ 0 < k.2 /\ S.gen k = g
 | .av x, .son _ => x = .val (.pointer none)
 | .ptr b o, .son b' => b = b' /\ o = 0
 | .ag l, .ag l' => WkCs S l l'
 | .ag l, .av x => x = .agg (l.map CV.toAV)
 | s, s' => s = s'
theorem WkC_rep {G : Gh} {w : World} {S : St} (hg : ∀ k : Key, G.gen k = S.gen k) {s s' : CV} {u : Value} (h : WkC S s s') (hr : RepC G w s u) : RepC G w s' u := by
 unfold WkC at h
 split at h
 ·obtain ⟨rfl, rfl, rfl, rfl⟩ := h; exact hr
 ·subst h; exact RepC.toAV hr
 ·subst h; exact RepC.toAV hr
 ·obtain ⟨rfl, h0, rfl⟩ := h; simp only [RepC] at hr; subst hr; exact ⟨h0, by rw [hg]; exact Nat.le_refl _, none, 0, [], rfl, by simp [RepL], by simp, by simp, by simp, by simp, .inl (by simp [Va0]), fun _ => .inl rfl⟩
 ·subst h; exact hr
theorem WkCs_rep {G : Gh} {w : World} {S : St} (hg : ∀ k : Key, G.gen k = S.gen k) : ∀ {l l' : List CV} {us : List Value}, WkCs S l l' -> RepCs G w l us -> RepCs G w l' us
 | [], [], _, _, h => h
 | s :: l, s' :: l', us, h, hr => by
  obtain ⟨u, us', e, h2, h3⟩ := hr; exact ⟨u, us', e, WkC_rep hg h.1 h2, WkCs_rep hg h.2 h3⟩
 | [], _ :: _, _, h, _ => h.elim
 | _ :: _, [], _, h, _ => h.elim
theorem WkS_rep {G : Gh} {w : World} {S : St} (hg : ∀ k : Key, G.gen k = S.gen k) {s s' : SV} {u : Value} (h : WkS S s s') (hr : RepS G w s u) : RepS G w s' u := by
 unfold WkS at h
 split at h
 ·trivial
 ·obtain ⟨rfl, rfl, rfl, rfl⟩ := h; exact hr
 ·subst h; exact hr.own_sl
 ·subst h; simp only [RepS] at hr; subst hr; exact Rep_nil _ _
 ·obtain ⟨rfl, h0, rfl⟩ := h; simp only [RepS] at hr; subst hr; exact ⟨h0, by rw [hg]; exact Nat.le_refl _, none, 0, [], rfl, by simp [RepL], by simp, by simp, by simp, by simp, .inl (by simp [Va0]), fun _ => .inl rfl⟩
 ·subst h; simp only [RepS, Rep] at hr; exact .inl hr.1
 ·obtain ⟨rfl, rfl⟩ := h; exact .inr hr
 ·obtain ⟨us, h1, h2, h3⟩ := hr; exact ⟨us, h1, WkCs_rep hg h h2, h3⟩
 ·subst h; obtain ⟨us, h1, h2, h3⟩ := hr; simp only [RepS, Rep]; exact ⟨us, h1, h2.toAV, h3⟩
 ·subst h; exact hr
theorem hit {id : Nat} {Q : Exit -> St -> Prop} {S : St} (h : Q .normal S) : Vii id Q (.exit id) S := by simp only [Vii, if_true]; exact h
theorem miss {id id' : Nat} {Q : Exit -> St -> Prop} {S : St} (hne : id' ≠ id) (h : Q (.exit id') S) : Vii id Q (.exit id') S := by simp only [Vii, if_neg hne]; exact h
theorem pass {id : Nat} {Q : Exit -> St -> Prop} {S : St} {e : Exit} (h : Q e S) (hne : ∀ i, e ≠ .exit i) : Vii id Q e S := by
 cases e <;> first | exact h | exact (hne _ rfl).elim
theorem skipS {K : St -> Prop} {Q : Exit -> St -> Prop} {S : St} {e : Exit} (h : Q e S) (hne : e ≠ .normal) : Vor K Q e S := by
 cases e <;> first | exact h | exact (hne rfl).elim
theorem ends {P : Program} {fn : Func} {res r : SV} {bx' : List (Nat × ABox)} {gn' : List (Key × Nat)} {S : St} {e : Exit} (he : e = .ret \/ e = .normal) (h1 : aRes P fn S false = some r) (h2 : r = res) (h3 : ∀ p ∈ bx', S.bx.lookup p.1 = some p.2) (h4 : ∀ p ∈ gn', S.gen p.1 = p.2) : Ends P fn res bx' gn' e S := by
 subst h2; rcases he with rfl | rfl <;> exact ⟨⟨_, h1⟩, h3, h4⟩
theorem endsK {P : Program} {fn : Func} {res r : SV} {bx' : List (Nat × ABox)} {gn' : List (Key × Nat)} {S : St} {e : Exit} (he : e = .ret \/ e = .normal) (h1 : aRes P fn S true = some r) (h2 : r = res) (h3 : ∀ p ∈ bx', S.bx.lookup p.1 = some p.2) (h4 : ∀ p ∈ gn', S.gen p.1 = p.2) : Ends P fn res bx' gn' e S := by
 subst h2; rcases he with rfl | rfl <;> exact ⟨⟨_, h1⟩, h3, h4⟩
theorem wrap_i64 {n : Int} (h1 : -9223372036854775808 <= n) (h2 : n <= 9223372036854775807) : IntKind.i64.wrap n = n := IntWalk.i64_in n ⟨h1, h2⟩
def byt (s : ByteArray) (k : Nat) : Nat := (s.data.getD k 0).toNat
theorem Va7 {a b : Int} (h : (a != b) = false) : a = b := by simpa using h
def Vah (t : ByteArray) : AV := .val (.string t)
end Go.Eng
