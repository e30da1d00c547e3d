/- Texts joined by a program (merge.py). -/
import Derived.Test.YtkgflongbanbgaaGreatDoorMvd
import Derived.Laws.MakeOwn
import Derived.OrdersIn
import Derived.AtR
import Derived.RangeFuncSeq
import Derived.Shelf.Strings.Search3
import Derived.Shelf.Strings.SplitCore
import Derived.Shelf.Strings.Count
import Derived.Lib.SplitLaws
import Derived.Lib.IndexBytes
import Derived.WalkKit
import Derived.OwnWalkIn
import Derived.TacticsInMore
import Derived.RangeFuncKeeps
import Derived.CallsIn
import Derived.KernelRfl
import Derived.Test.YtkgflongbanbgaaGreatDoorMvb
import Derived.Lib.Builder
import Derived.Lib.UnsafeStr
import Derived.Lib.AppendStr
import Derived.Laws.Externs
import Derived.RegionTactic
set_option linter.unusedSimpArgs false
set_option linter.unusedVariables false
set_option maxRecDepth 100000
set_option maxHeartbeats 4000000
namespace Go.Eng
variable {P : Program}
def WA (P : Program) (ops : Array Oper) (Q : St → Prop) (fuel : Nat) (listed : Array Bool) (S : St) : Prop :=
 ∀ (Q' : Exit → Act → World → Prop) (G : Gh) (w : World) (a : Act), Rel G w S a →
  (∀ S' G' a' w', Q S' → Step G w G' w' → Rel G' w' S' a' → (∀ i, 1000 ≤ i → G'.ow (i, 0) = G.ow (i, 0)) → Q' .normal a' w') → wpAny P .any ops Q' fuel listed a w
def upTo (sz n : Nat) : Array Bool := (Array.range sz).map (fun i => decide (i < n))
def headsA (ops : Array Oper) (n : Nat) : Nat → Array Bool → Bool
 | 0, listed => (List.range n).all (fun i => listed.getD i false)
 | f + 1, listed => !(Region.ready .any ops listed).isEmpty && (Region.ready .any ops listed).all (fun i => decide (i < n) && headsA ops n f (listed.setIfInBounds i true))
theorem upTo_eq {listed : Array Bool} {sz n : Nat} (hsz : listed.size = sz) (h1 : ∀ j, j < n → listed.getD j false = true) (h2 : ∀ j, n ≤ j → listed.getD j false = false) : listed = upTo sz n := by
 apply Array.ext
 ·simp [upTo, hsz]
 ·intro i hi hi'
  simp only [upTo, Array.getElem_map, Array.getElem_range]
  by_cases h : i < n
  ·have := h1 i h
   simp only [Array.getD_eq_getD_getElem?, Array.getElem?_eq_getElem hi, Option.getD_some] at this
   rw [this]; simp [h]
  ·have := h2 i (by omega)
   simp only [Array.getD_eq_getD_getElem?, Array.getElem?_eq_getElem hi, Option.getD_some] at this
   rw [this]; simp [h]
theorem W_head {id : Nat} {ops : Array Oper} {Q : Exit → St → Prop} {S Sc : St} (hm : P.follows .mixedOrders = true) (n : Nat) (v : Nat → SV) (d : Nat → Nat) (hB : headsA ops n n (Array.replicate ops.size false) = true)
  (hd : ∀ i, i < n → ∃ o, ops[i]? = some o ∧ o.dst = some (d i) ∧ o.guard = none) (hinj : ∀ i j, i < n → j < n → d i = d j → i = j) (hlt : ∀ i, i < n → d i < S.fr.length)
  (hop : ∀ i, i < n → ∀ o, ops[i]? = some o → ∀ S' : St, S'.bx = S.bx → S'.gn = S.gn → S'.fr.length = S.fr.length → (∀ e ∈ o.after, Region.binds .any e = true → e.on < n → S'.fr[d e.on]? = some (v e.on)) → (∀ t : Nat, (∀ j, j < n → t ≠ d j) → S'.fr[t]? = S.fr[t]?) →
   ∃ p : Prop, p ∧ astep P o S' = some ⟨p, v i, S'⟩)
  (hS1 : Sc.bx = S.bx) (hS2 : Sc.gn = S.gn) (hS3 : ∀ j, j < n → Sc.fr[d j]? = some (v j)) (hS4 : ∀ t : Nat, (∀ j, j < n → t ≠ d j) → Sc.fr[t]? = S.fr[t]?)
  (h : WA P ops (Q .normal) (ops.size - n) (upTo ops.size n) Sc) : W P (.region id ops true) Q S := by
 intro G0 w0 a0 hr0
 obtain ⟨hstep0, hr0'⟩ := hr0.draw
 apply wp_region_any hm
 have main : ∀ (f : Nat) (listed : Array Bool) (G : Gh) (w : World) (a : Act) (S' : St), headsA ops n f listed = true → listed.size = ops.size → (∀ j, n ≤ j → listed.getD j false = false) → S'.bx = S.bx → S'.gn = S.gn → S'.fr.length = S.fr.length →
   (∀ j, j < n → listed.getD j false = true → S'.fr[d j]? = some (v j)) → (∀ t : Nat, (∀ j, j < n → t ≠ d j) → S'.fr[t]? = S.fr[t]?) → Rel G w S' a → Step G0 w0 G w → (∀ i, 1000 ≤ i → G.ow (i, 0) = G0.ow (i, 0)) → wpAny P .any ops (lift Q G0 w0) (f + (ops.size - n)) listed a w := by
  intro f
  induction f with
  | zero =>
   intro listed G w a S' hb hsz hun h1 h2 h3 h4 h5 hr hst how
   simp only [headsA] at hb
   have hall' : ∀ j, j < n → listed.getD j false = true := fun j hj => List.all_eq_true.1 hb j (List.mem_range.2 hj)
   have hfr : S'.fr = Sc.fr := by
    apply List.ext_getElem?
    intro t
    by_cases ht : ∃ j, j < n ∧ t = d j
    ·obtain ⟨j, hj, rfl⟩ := ht
     rw [h4 j hj (hall' j hj), hS3 j hj]
    ·have ht' : ∀ j, j < n → t ≠ d j := fun j hj e => ht ⟨j, hj, e⟩
     rw [h5 t ht', hS4 t ht']
   have hSS : S' = Sc := by
    obtain ⟨f1, b1, g1⟩ := S'
    obtain ⟨f2, b2, g2⟩ := Sc
    simp only at hfr h1 h2 hS1 hS2
    rw [hfr, h1, h2, hS1, hS2]
   subst hSS
   rw [upTo_eq hsz hall' hun, Nat.zero_add]
   exact h (lift Q G0 w0) G w a hr (fun S2 G2 a2 w2 q1 q2 q3 q4 => ⟨S2, G2, q1, hst.trans q2, q3, fun i hi => (q4 i hi).trans (how i hi)⟩)
  | succ f ih =>
   intro listed G w a S' hb hsz hun0 h1 h2 h3 h4 h5 hr hst how
   simp only [headsA, Bool.and_eq_true, Bool.not_eq_true', List.isEmpty_eq_false_iff] at hb
   obtain ⟨hne, hall⟩ := hb
   rw [show f + 1 + (ops.size - n) = (f + (ops.size - n)) + 1 by omega]
   refine ⟨fun h0 => absurd h0 hne, fun i hi => ?_⟩
   have hi2 := List.all_eq_true.1 hall i hi
   simp only [Bool.and_eq_true, decide_eq_true_eq] at hi2
   obtain ⟨hin, hbi⟩ := hi2
   obtain ⟨hun, o, ho, hdep⟩ := mem_ready.1 hi
   obtain ⟨o', ho', hdst, hg⟩ := hd i hin
   have : o' = o := Option.some.inj (ho'.symm.trans ho)
   subst this
   obtain ⟨p, hp, hast⟩ := hop i hin o' ho S' h1 h2 h3 (fun e he hbe hen => h4 e.on hen (hdep e he hbe)) h5
   obtain ⟨nx, u, w', G', x1, x2, x3, x4, x5, x6⟩ := astep_sound hast hp G w a hr
   unfold wpOp
   simp only [ho]
   rw [if_pos (wanted_none hg a)]
   refine .inl ?_
   have hlisted : i < listed.size := by rw [hsz]; exact (Array.getElem?_eq_some_iff.1 ho).1
   have next : ∀ u, RepS G' w' (v i) u → wpAny P .any ops (lift Q G0 w0) (f + (ops.size - n)) (listed.setIfInBounds i true) (a.put o'.dst u) w' := by
    intro u hu
    refine ih _ G' w' _ (S'.put (some (d i)) (v i)) hbi (by simp [hsz]) (fun j hj => ?_) h1 h2 (by simp [St.put, h3]) (fun j hj hl => ?_) (fun t ht => ?_) (by rw [hdst]; exact x4.put (some (d i)) hu) (hst.trans x3) (fun i hi => (x6 i hi).trans (how i hi))
    ·have hq := hun0 j hj
     simp only [Array.getD_eq_getD_getElem?] at hq ⊢
     rw [Array.getElem?_setIfInBounds_ne (by omega)]
     exact hq
    ·simp only [St.put, List.getElem?_set]
     by_cases hji : d i = d j
     ·have := hinj i j hin hj hji
      subst this
      rw [if_pos rfl, if_pos (by rw [h3]; exact hlt i hin)]
     ·rw [if_neg hji]
      refine h4 j hj ?_
      have hij : i ≠ j := fun e => hji (by rw [e])
      rw [← hl]
      simp only [Array.getD_eq_getD_getElem?]
      rw [Array.getElem?_setIfInBounds_ne hij]
    ·simp only [St.put, List.getElem?_set]
     rw [if_neg (fun e => ht i hin e.symm)]
     exact h5 t ht
   unfold Oper.wp
   rw [x1]
   rcases x2 with rfl | ⟨rfl, rfl⟩
   ·rw [Oper.upon_value]; exact next _ x5
   ·rw [Oper.upon_skip]; exact next _ x5
 by_cases hle : n ≤ ops.size
 ·have := main n (Array.replicate ops.size false) G0 _ a0 S hB (by simp) (fun j _ => getD_replicate_false _ _) rfl rfl rfl (fun j _ hl => by rw [getD_replicate_false] at hl; cases hl) (fun _ _ => rfl) hr0' hstep0 (fun _ _ => rfl)
  rwa [show n + (ops.size - n) = ops.size by omega] at this
 ·obtain ⟨o, ho, _⟩ := hd ops.size (by omega)
  simp at ho
section
variable {ops : Array Oper} {Q : Exit → Act → World → Prop}
theorem op_value {i : Nat} {o : Oper} {K : Act → World → Prop} {a : Act} {w w' : World} {v : Value} (ho : ops[i]? = some o) (hg : o.guard = none) (hx : (execOp a.eval o).run P w = .ok (.value v) w') (h : K (a.put o.dst v) w') : wpOp P ops Q i K a w := by
 unfold wpOp
 simp only [ho]
 rw [if_pos (wanted_none hg a)]
 refine .inl ?_
 unfold Oper.wp
 rw [hx, Oper.upon_value]; exact h
theorem op_skip {i : Nat} {o : Oper} {K : Act → World → Prop} {a : Act} {w w' : World} (ho : ops[i]? = some o) (hg : o.guard = none) (hd : o.dst = none) (hx : (execOp a.eval o).run P w = .ok .skip w') (h : K a w') : wpOp P ops Q i K a w := by
 unfold wpOp
 simp only [ho]
 rw [if_pos (wanted_none hg a)]
 refine .inl ?_
 unfold Oper.wp
 rw [hx, Oper.upon_skip, hd]; exact h
theorem any_one {L : Array Bool} {i f : Nat} {a : Act} {w : World} (hr : Region.ready .any ops L = [i]) (h : wpOp P ops Q i (wpAny P .any ops Q f (L.setIfInBounds i true)) a w) : wpAny P .any ops Q (f + 1) L a w :=
 ⟨fun h0 => (by rw [hr] at h0; cases h0), fun j hj => (by
  rw [hr] at hj
  obtain rfl : j = i := by simpa using hj
  exact h)⟩
theorem any_two {L : Array Bool} {i j f : Nat} {a : Act} {w : World} (hr : Region.ready .any ops L = [i, j]) (h1 : wpOp P ops Q i (wpAny P .any ops Q f (L.setIfInBounds i true)) a w) (h2 : wpOp P ops Q j (wpAny P .any ops Q f (L.setIfInBounds j true)) a w) : wpAny P .any ops Q (f + 1) L a w :=
 ⟨fun h0 => (by rw [hr] at h0; cases h0), fun k hk => by
  rw [hr] at hk
  simp only [List.mem_cons, List.not_mem_nil, or_false] at hk
  rcases hk with rfl | rfl
  ·exact h1
  ·exact h2⟩
end
theorem setRow_comm (w : World) {b c : Nat} (h : b ≠ c) (x y : Array Value) : (w.setRow b x).setRow c y = (w.setRow c y).setRow b x := by
 have he : ((w.setRow b x).setRow c y).heap = ((w.setRow c y).setRow b x).heap := by
  apply Array.ext_getElem?
  intro i
  simp only [World.setRow, Array.getElem?_modify]
  by_cases h1 : b = i <;> by_cases h2 : c = i
  ·exact (h (h1.trans h2.symm)).elim
  ·simp [h1, h2]
  ·simp [h1, h2]
  ·simp [h1, h2]
 exact congrArg (fun h => ({ w with heap := h } : World)) he
def pushB (ops : Array Oper) (n : Nat) (L : Array Bool) : Bool :=
 let s := fun (L : Array Bool) (i : Nat) => L.setIfInBounds i true
 decide (Region.ready .any ops L = [n]) && decide (Region.ready .any ops (s L n) = [n + 1, n + 3]) && decide (Region.ready .any ops (s (s L n) (n + 1)) = [n + 2, n + 3]) && decide (Region.ready .any ops (s (s (s L n) (n + 1)) (n + 2)) = [n + 3]) &&
 decide (Region.ready .any ops (s (s L n) (n + 3)) = [n + 1]) && decide (Region.ready .any ops (s (s (s L n) (n + 3)) (n + 1)) = [n + 2]) && decide (Region.ready .any ops (s (s (s L n) (n + 1)) (n + 3)) = [n + 2]) &&
 decide (Region.ready .any ops (s (s (s (s L n) (n + 1)) (n + 2)) (n + 3)) = []) && decide (Region.ready .any ops (s (s (s (s L n) (n + 3)) (n + 1)) (n + 2)) = []) && decide (Region.ready .any ops (s (s (s (s L n) (n + 1)) (n + 3)) (n + 2)) = [])
theorem WA_push {ops : Array Oper} {o4 o5 o6 o7 : Oper} {Q : St → Prop} {S : St} {n : Nat} {L : Array Bool} {t e T T7 ty : TypeId} {sz bt bt' bt7 : Nat} {z : Value} {z' z7 : Option Value} {k : Key} {g d4 d5 p1 bid : Nat} {l : List AV} {x0 x : AV} {s0 : SV} {A B C X : Operand}
  (hB : pushB ops n L = true) (hi4 : ops[n]? = some o4) (hi5 : ops[n + 1]? = some o5) (hi6 : ops[n + 2]? = some o6) (hi7 : ops[n + 3]? = some o7)
  (ho4 : o4.op = .call { callee := .builtin .append, args := #[A, B], argTypes := #[t, t] }) (hd4 : o4.dst = some d4) (hg4 : o4.guard = none) (ho5 : o5.op = .indexAddr t (.tmp d4) C) (hd5 : o5.dst = some d5) (hg5 : o5.guard = none) (ho6 : o6.op = .store T (.tmp d5) X) (hd6 : o6.dst = none) (hg6 : o6.guard = none)
  (ho7 : o7.op = .store T7 (.tmp p1) (.tmp d4)) (hd7 : o7.dst = none) (hg7 : o7.guard = none)
  (hA : S.ev A = .own k g sz l) (hBv : S.ev B = .av (.sl [x0])) (hC : S.ev C = .av (.val (.int .i64 l.length))) (hX : (S.ev X).toAV = some x) (hP : S.ev (.tmp p1) = .ptr bid 0) (hbx : S.bx.lookup bid = some (.cells ty [s0]))
  (hC4 : C ≠ .tmp d4) (hX4 : X ≠ .tmp d4) (hX5 : X ≠ .tmp d5) (hp4 : p1 ≠ d4) (hp5 : p1 ≠ d5) (hne : d4 ≠ d5) (hl4 : d4 < S.fr.length) (hl5 : d5 < S.fr.length)
  (ht : tElem P t = some e) (h2 : notInt P t = true) (hi : tInfo P e = some (sz, bt, some z)) (hT : tInfo P T = some (sz, bt', z')) (hT7 : tInfo P T7 = some (1, bt7, z7)) (hz : z.cells.size = sz) (hbt : 0 < bt) (hke : e + 1 = k.2) (hgen : S.gen k = g) (hu0 : Uni sz [x0]) (hux : Uni sz [x]) (hb : (l.length + 1) * bt ≤ 140737488355328)
  (h : Q ((((S.next k).put (some d4) (.own k (g + 1) sz (l ++ [x]))).put (some d5) .junk).setBox bid (.cells ty [.own k (g + 1) sz (l ++ [x])]))) : WA P ops Q 4 L S := by
 intro Q' G w a hr hq
 simp only [pushB, Bool.and_eq_true, decide_eq_true_eq] at hB
 obtain ⟨⟨⟨⟨⟨⟨⟨⟨⟨b1, b2⟩, b3⟩, b4⟩, b5⟩, b6⟩, b7⟩, b8⟩, b9⟩, b10⟩ := hB
 have ht' : P.underlying t = some (.slice e) := by
  unfold tElem at ht; split at ht
  ·rename_i hh; simp at ht; subst ht; exact hh
  ·simp at ht
 have hrA := hr.ev A; rw [hA] at hrA
 have hrB := hr.ev B; rw [hBv] at hrB
 have hrC := hr.ev C; rw [hC] at hrC
 simp only [RepS, Rep] at hrC
 have hrP := hr.ev (.tmp p1); rw [hP] at hrP
 obtain ⟨bx, hbx1, hbx2⟩ := hrP
 obtain ⟨bx', arrb, q1, q2, q3, q4, q5⟩ := hr.bx _ (lookup_mem hbx)
 simp only at q1
 rw [hbx1] at q1; simp only [Option.some.injEq] at q1; subst q1
 have hrX := (hr.ev X).toAV hX
 obtain ⟨es0, hs0⟩ := src_sl (P := P) (x := a.eval B) hrB hu0
 obtain ⟨b, off, cap, w1, arr1, arr2, e1, G', r1, r0, r2, s1, s2, s3, s4, s5⟩ := push_own (ty := o4.type) ht h2 hi hz hbt hr hrA hke hgen hs0 hu0 hrX hux hb
 obtain ⟨c1, c2⟩ := s5 (bid, 0) bx (by intro e; rw [← e] at hke; simp at hke) hbx1
 have hheapx : w1.heap[bx]? = some (.cells arrb ty (0, 0)) := by rw [c2]; exact q2
 have hsz : a.tmps.size = S.fr.length := hr.size.symm
 have evne : ∀ (a' : Act) (y : Operand) (v : Value) (d : Nat), y ≠ .tmp d → (a'.put (some d) v).eval y = a'.eval y := by
  intro a' y v d hy
  cases y with
  | tmp t' =>
   have : t' ≠ d := fun e => hy (by rw [e])
   simp only [Act.eval, Act.put, Array.getD_eq_getD_getElem?]
   rw [Array.getElem?_setIfInBounds_ne (Ne.symm this)]
  | _ => rfl
 have eveq : ∀ (a' : Act) (v : Value) (d : Nat), d < a'.tmps.size → (a'.put (some d) v).eval (.tmp d) = v := by
  intro a' v d hd
  simp only [Act.eval, Act.put, Array.getD_eq_getD_getElem?]
  rw [Array.getElem?_setIfInBounds_self_of_lt hd]; rfl
 obtain ⟨u1, hu1⟩ : ∃ u1, u1 = Value.slice (some ⟨b, off, none⟩) (l.length + 1) cap := ⟨_, rfl⟩
 obtain ⟨pt, hpt⟩ : ∃ pt, pt = Value.pointer (some ⟨b, off + l.length * sz, none⟩) := ⟨_, rfl⟩
 have x4 : (execOp a.eval o4).run P w = .ok (.value u1) w1 := by
  obtain ⟨c, hc⟩ := exec_builtin (P := P) (a := a) ho4 w
  rw [hc, hu1]; simp [builtin, r1]
 have hs4 : d4 < a.tmps.size := by omega
 have hs5 : d5 < (a.put (some d4) u1).tmps.size := by simp only [Act.put, Array.size_setIfInBounds]; omega
 have x5 : ∀ W, (execOp (a.put (some d4) u1).eval o5).run P W = .ok (.value pt) W := by
  intro W
  have hlt' : ((l.length : Nat) : Int) < ((l.length : Nat) : Int) + 1 := by omega
  have ev4 : (a.put (some d4) u1).eval (.tmp d4) = .slice (some ⟨b, off, none⟩) (l.length + 1) cap := by rw [eveq _ _ _ hs4, hu1]
  rw [hpt]
  simp [execOp, ho5, ev4, evne _ C _ d4 hC4, hrC.1, Instr.indexAt, asIntOf, run_underlying' ht', run_sizeOf' hi, addr_add, hlt']
 have hcs : (a.eval X).cells.size = sz := by
  have := hux.sizes (show RepL G.U w [x] [a.eval X] by simp only [RepL]; exact ⟨_, [], rfl, hrX, rfl⟩)
  exact this _ (by simp)
 have x6 : ∀ W : World, W.heap[b]? = some (.cells arr1 e1 (0, 0)) → (execOp ((a.put (some d4) u1).put (some d5) pt).eval o6).run P W = .ok .skip (W.setRow b arr2) := by
  intro W hW
  have ev5 : ((a.put (some d4) u1).put (some d5) pt).eval (.tmp d5) = .pointer (some ⟨b, off + l.length * sz, none⟩) := by rw [eveq _ _ _ hs5, hpt]
  simp [execOp, ho6, ev5, evne _ X _ _ hX5, evne _ X _ _ hX4, Instr.storeAt, Instr.sureAddr, storeVar, run_sizeOf' hT, hcs, r2 W hW]
 have hone : u1.oneCell' = true := by rw [hu1]; rfl
 have hcell : u1.cells = #[u1] := by rw [hu1]; rfl
 have hal : arrb.size = 1 := by simpa using q4.length
 have x7' : ∀ W : World, W.heap[bx]? = some (.cells arrb ty (0, 0)) → (storeCells ⟨bx, 0, none⟩ [u1]).run P W = .ok () (W.setRow bx (arrb.toList.take 0 ++ [u1] ++ arrb.toList.drop (0 + 1)).toArray) := by
  intro W hW
  have := run_storeCells_at (P := P) bx 0 ty [u1] 0 arrb W hW (by simp; omega) (by simpa using hone)
  simpa using this
 have x7 : ∀ (a' : Act) (W : World), a'.eval (.tmp p1) = .pointer (some ⟨bx, 0, none⟩) → a'.eval (.tmp d4) = u1 → W.heap[bx]? = some (.cells arrb ty (0, 0)) → (execOp a'.eval o7).run P W = .ok .skip (W.setRow bx (arrb.toList.take 0 ++ [u1] ++ arrb.toList.drop (0 + 1)).toArray) := by
  intro a' W e1 e2 hW
  have hc1 : u1.cells.size = 1 := by rw [hcell]; rfl
  have hc2 : u1.cells.toList = [u1] := by rw [hcell]
  have := x7' W hW
  simp [execOp, ho7, e1, e2, Instr.storeAt, Instr.sureAddr, storeVar, run_sizeOf' hT7, hc1, hc2, this] at this ⊢
 have evp1 : (a.put (some d4) u1).eval (.tmp p1) = .pointer (some ⟨bx, 0, none⟩) := by
  rw [evne _ (.tmp p1) _ _ (by simpa using hp4)]; exact hbx2
 have evp2 : ((a.put (some d4) u1).put (some d5) pt).eval (.tmp p1) = .pointer (some ⟨bx, 0, none⟩) := by
  rw [evne _ (.tmp p1) _ _ (by simpa using hp5)]; exact evp1
 have evd1 : (a.put (some d4) u1).eval (.tmp d4) = u1 := eveq _ _ _ hs4
 have evd2 : ((a.put (some d4) u1).put (some d5) pt).eval (.tmp d4) = u1 := by
  rw [evne _ (.tmp d4) _ _ (by simpa using hne)]; exact evd1
 -- the end
 have s3' : RepS G' (w1.setRow b arr2) (.own k (g + 1) sz (l ++ [x])) u1 := by rw [hu1]; exact s3
 have hfin0 : Rel G' (w1.setRow b arr2) (((S.next k).put (some d4) (.own k (g + 1) sz (l ++ [x]))).put (some d5) .junk) ((a.put (some d4) u1).put (some d5) pt) := (s2.put (some d4) s3').put (some d5) trivial
 have hx2 : (w1.setRow b arr2).heap[bx]? = some (.cells arrb ty (0, 0)) := by rw [setRow_other _ _ _ _ c1]; exact hheapx
 obtain ⟨w3, y1, y2, y3⟩ := hfin0.storeBox (b := bid) (ty := ty) (l := [s0]) (by simpa [St.put, St.next] using hbx) (by rw [s4]; exact hbx1) 0 (xs := [.own k (g + 1) sz (l ++ [x])]) (vs := [u1]) ⟨u1, [], rfl, s3', rfl⟩ (by simpa using hone) (by simp)
 have hw3 : w3 = (w1.setRow b arr2).setRow bx (arrb.toList.take 0 ++ [u1] ++ arrb.toList.drop (0 + 1)).toArray := by
  have := (y1 P).symm.trans (x7' _ hx2)
  simpa using this
 have fin : Q' .normal ((a.put (some d4) u1).put (some d5) pt) w3 := hq _ G' _ w3 (by simpa using h) (s1.trans y2) y3 (fun i _ => s4 i)
 have hcomm : ((w1.setRow bx (arrb.toList.take 0 ++ [u1] ++ arrb.toList.drop (0 + 1)).toArray).setRow b arr2) = w3 := by rw [hw3]; exact setRow_comm w1 c1 _ _
 have hb1 : (w1.setRow bx (arrb.toList.take 0 ++ [u1] ++ arrb.toList.drop (0 + 1)).toArray).heap[b]? = some (.cells arr1 e1 (0, 0)) := by rw [setRow_other _ _ _ _ (Ne.symm c1)]; exact r0
 refine any_one b1 (op_value hi4 hg4 x4 ?_)
 rw [hd4]
 refine any_two b2 (op_value hi5 hg5 (x5 w1) ?_) (op_skip hi7 hg7 hd7 (x7 _ w1 evp1 evd1 hheapx) ?_)
 ·rw [hd5]
  refine any_two b3 (op_skip hi6 hg6 hd6 (x6 w1 r0) ?_) (op_skip hi7 hg7 hd7 (x7 _ w1 evp2 evd2 hheapx) ?_)
  ·refine any_one b4 (op_skip hi7 hg7 hd7 (x7 _ _ evp2 evd2 hx2) ?_)
   rw [← hw3]
   exact ⟨b8, fin⟩
  ·refine any_one b7 (op_skip hi6 hg6 hd6 (x6 _ hb1) ?_)
   rw [hcomm]
   exact ⟨b10, fin⟩
 ·refine any_one b5 (op_value hi5 hg5 (x5 _) ?_)
  rw [hd5]
  refine any_one b6 (op_skip hi6 hg6 hd6 (x6 _ hb1) ?_)
  rw [hcomm]
  exact ⟨b9, fin⟩
end Go.Eng
namespace Go.Eng
variable {P : Program}
theorem BEGb {α : Type} (enc : α → SV) (M : α) {f : FuncId} {fn : Func} {args : List SV} {bx bx' : List (Nat × ABox)} {gn gn' : List (Key × Nat)} (hf : P.funcs[f]? = some fn) (hok : (fn.body.isSome && !(fn.name == "runtime.NumGoroutine") && decide (args.length ≤ fn.ntmps)) = true)
  (hids : ∀ p ∈ bx, 1000 ≤ p.1) (hgk : ∀ p ∈ gn, 1000 ≤ p.1.1 ∧ 0 < p.1.2) (hargs : ∀ s ∈ args, OkSV (bx.map (·.1)) gn s) (hbx : ∀ p ∈ bx, ∀ s ∈ p.2.svs, OkSV (bx.map (·.1)) gn s)
  (hres : OkSV (bx.map (·.1)) gn' (enc M)) (hbx' : ∀ p ∈ bx', ∀ s ∈ p.2.svs, OkSV (bx.map (·.1)) gn' s) (hsame : bx'.map (·.1) = bx.map (·.1)) (hgn' : gn'.map (·.1) = gn.map (·.1))
  (h : Nx P (KE P fn enc bx' gn') M (start (bodyOf fn) ⟨args ++ List.replicate (fn.ntmps - args.length) .junk, bx, gn⟩)) : CallTo P f args bx gn (enc M) bx' gn' := by
 simp only [Bool.and_eq_true, decide_eq_true_eq, Bool.not_eq_true'] at hok
 obtain ⟨⟨h1, h2⟩, h3⟩ := hok
 obtain ⟨c, hb⟩ := Option.isSome_iff_exists.1 h1
 have e : bodyOf fn = c := by simp [bodyOf, hb]
 refine CallTo_of_body hf hb h2 rfl h3 hids hgk hargs hbx hres hbx' hsame hgn' ?_
 rw [← e]; exact h.x
theorem ENb {α : Type} {fn : Func} {enc : α → SV} {M : α} {X : Cf} {bx' : List (Nat × ABox)} {gn' : List (Key × Nat)} (h : endOf P fn X = some (enc M)) (h3 : ∀ p ∈ bx', (stOf X).bx.lookup p.1 = some p.2) (h4 : ∀ p ∈ gn', (stOf X).gen p.1 = p.2) : Nx P (KE P fn enc bx' gn') M X := by
 unfold endOf at h
 split at h
 ·exact ⟨ends (.inl rfl) h rfl h3 h4⟩
 ·exact ⟨ends (.inr rfl) h rfl h3 h4⟩
 ·simp at h
def atC (X : Cf) : Code := match X with
 | some (_, _, .at c _ _) => c
 | _ => .skip
def isAt (X : Cf) : Bool := match X with
 | some (_, _, .at _ _ _) => true
 | _ => false
def contX (P : Program) (X : Cf) (S2 : St) (ors : List Oq) : Cf := match X with
 | some (_, _, .at _ ks _) => goK P ks (some ([], ors, .fin .normal S2))
 | _ => none
theorem W_weakQ {c : Code} {S S2 : St} (h : W P c (fun e S1 => e = .normal ∧ Weak S1 S2) S) : W P c (fun e S1 => e = .normal ∧ S1 = S2) S :=
 fun G w a hr => wp_mono (h G w a hr) (fun e a' w' ⟨S1, G', ⟨he, hw⟩, h2, h3, h4⟩ => ⟨S2, G', ⟨he, rfl⟩, h2, hw G' w' a' h3, h4⟩)
theorem W_code {c c' : Code} {Q : Exit → St → Prop} {S : St} (h : c = c') (hw : W P c' Q S) : W P c Q S := by rw [h]; exact hw
theorem NXW {α : Type} {K : α → Exit → St → Prop} {M : α} {X : Cf} (S2 : St) (oc : OC) (hX : isAt X = true) (hW : W P (atC X) (fun e S1 => e = .normal ∧ Weak S1 S2) (stOf X)) (h : csOf (contX P X S2 oc.o) = some oc.c) (hn : Nx P K M (contX P X S2 oc.o)) : Nx P K M X := by
 unfold isAt at hX
 split at hX
 ·rename_i c0 o0 c ks S
  obtain ⟨hn⟩ := hn
  simp only [contX] at h hn
  cases hk : goK P ks (some ([], oc.o, .fin .normal S2)) with
  | none => rw [hk] at h; simp [csOf] at h
  | some r =>
   obtain ⟨c2, o2, out2⟩ := r
   rw [hk] at h hn
   unfold csOf at h
   split at h
   ·rename_i e
    simp only [Option.some.injEq, Prod.mk.injEq] at e h
    obtain ⟨rfl, rfl, rfl⟩ := e
    subst h
    obtain ⟨q1, q2⟩ := goK_sound (K M) ks _ _ _ _ _ _ hk (oc.h trivial) hn
    refine ⟨?_⟩
    exact W_mono (W_weakQ hW) (fun e S1 ⟨he, hs⟩ => by subst he hs; exact q2)
   ·simp at h
 ·simp at hX
theorem st_load {o : Oper} {S : St} {t ty : TypeId} {x : Operand} {b k : Nat} {l : List SV} {s : SV} (ho : o.op = .load t x) (hx : S.ev x = .ptr b k) (ht : tAgg P t = some false) (hb : S.bx.lookup b = some (.cells ty l)) (hs : l[k]? = some s) : astep P o S = some ⟨True, s, S⟩ := by
 unfold astep
 rw [ho]
 simp only [aLoad, ht, hx, hb, hs, Option.map_some]
theorem st_load_agg {o : Oper} {S : St} {t ty : TypeId} {sz bt : Nat} {z : Option Value} {x : Operand} {b k : Nat} {l : List SV} {r : List AV} (ho : o.op = .load t x) (hx : S.ev x = .ptr b k) (ht : tAgg P t = some true) (hi : tInfo P t = some (sz, bt, z)) (hb : S.bx.lookup b = some (.cells ty l))
  (h1 : ((l.drop k).take sz).any SV.isTok = false) (h2 : SV.allAV ((l.drop k).take sz) = some r) (h3 : r.length = sz) : astep P o S = some ⟨True, .av (.agg r), S⟩ := by
 unfold astep
 rw [ho]
 simp only [aLoad, ht, hi, hx, hb, h1, h2, h3, if_true]
theorem st_len {o : Oper} {S : St} {t : TypeId} {x : Operand} {k : Key} {g sz : Nat} {l : List AV} (ho : o.op = .call { callee := .builtin .len, args := #[x], argTypes := #[t] }) (hx : S.ev x = .own k g sz l) (ht : tSlice P t = true) : astep P o S = some ⟨True, .av (.val (.int .i64 l.length)), S⟩ := by
 unfold astep
 rw [ho]
 simp only [aBuiltin, aLen, hx, SV.toAV, ht, if_true]
theorem st_build {o : Oper} {S : St} {t e : TypeId} {sz bt : Nat} {z c : Value} {x : AV} (ho : o.op = .buildSlice t 1 #[(0, .const c)]) (ht : tElem P t = some e) (hi : tInfo P e = some (sz, bt, some z)) (hc : (constSV c).toAV = some x) (hsz : sz ≤ 16777216) (h2 : sz ≠ 2) : astep P o S = some ⟨Uni sz [x], .av (.sl [x]), S⟩ := by
 unfold astep
 rw [ho]
 have h1 : (S.ev (.const c)).toAV = some x := hc
 simp only [aBuildSlice, ht, hi, List.map_cons, List.map_nil, allAVop, h1]
 rw [if_pos ⟨rfl, by omega⟩]
end Go.Eng
namespace Go.Eng
def reSt (X : Cf) (S' : St) : Cf := match X with
 | some (c, o, .at d ks _) => some (c, o, .at d ks S')
 | _ => none
theorem GHOST {P : Program} {α : Type} {K : α → Exit → St → Prop} {M : α} {X : Cf} {S' : St} (hg : Ghost (stOf X) S') (hn : Nx P K M (reSt X S')) : Nx P K M X := by
 obtain ⟨hn⟩ := hn
 unfold reSt at hn
 split at hn
 ·rename_i c o d ks S
  exact ⟨W_ghost hg hn⟩
 ·exact hn.elim
end Go.Eng
namespace Go.Eng
variable {P : Program}
theorem WO_pure {ops : Array Oper} {o : Oper} {rest : List Oper} {Q : St → Prop} {S : St} (v : SV) (d : Nat) (hg : (o.guard, o.dst) = (none, some d)) (h : astep P o S = some ⟨True, v, S⟩) (hn : WO P ops rest Q (S.put (some d) v)) : WO P ops (o :: rest) Q S := by
 simp only [Prod.mk.injEq] at hg
 refine WO_sound hg.1 (astep_sound h) trivial ?_
 rw [hg.2]; exact hn
theorem WO_own {ops : Array Oper} {o : Oper} {rest : List Oper} {Q : St → Prop} {S S' : St} (v : SV) (d : Nat) (hg : (o.guard, o.dst) = (none, some d)) (h : Sound P o S ⟨True, v, S'⟩) (hn : WO P ops rest Q (S'.put (some d) v)) : WO P ops (o :: rest) Q S := by
 simp only [Prod.mk.injEq] at hg
 refine WO_sound hg.1 h trivial ?_
 rw [hg.2]; exact hn
end Go.Eng
namespace Go.Eng
def CallNew (P : Program) (f : FuncId) (args : List SV) (nb : List (Nat × ABox)) (res : SV) : Prop :=
 Enterable P f ∧ ∀ (G : Gh) (w : World) (vs : List Value), Wf G w → RepSs G w args vs →
  Calls P f vs.toArray w (fun e w' => ∃ v G', e = .returned v ∧ Step G w G' w' ∧ Wf G' w' ∧ RepS G' w' res v ∧ (∀ p ∈ nb, RepB G' w' p.1 p.2) ∧
   (∀ κ : Key, (κ.1 ∉ nb.map (·.1) ∨ κ.2 ≠ 0) → Keep G w G' w' κ) ∧ ∀ κ : Key, G'.gen κ = G.gen κ)
section
variable {P : Program}
theorem CallNew_of_body {f : FuncId} {fn : Func} {c : Code} (hf : P.funcs[f]? = some fn) (hb : fn.body = some c) (hname : (fn.name == "runtime.NumGoroutine") = false) {args : List SV} {nb : List (Nat × ABox)} {res : SV} {n : Nat} (hn : fn.ntmps = n)
  (hle : args.length ≤ n) (hargs : ∀ s ∈ args, OkSV [] [] s) (hres : OkSV (nb.map (·.1)) [] res) (hbx' : ∀ p ∈ nb, ∀ s ∈ p.2.svs, OkSV (nb.map (·.1)) [] s)
  (h : W P c (Ends P fn res nb []) ⟨args ++ List.replicate (n - args.length) .junk, [], []⟩) : CallNew P f args nb res := by
 refine ⟨⟨fn, hf, by rw [hb]; rfl, hname⟩, ?_⟩
 intro G w vs hw hr
 have hlv := hr.length
 let ids := nb.map (·.1)
 let mine : Key → Prop := fun κ => κ.1 ∈ ids ∧ κ.2 = 0
 have hdec : ∀ κ, mine κ ∨ ¬ mine κ := fun κ => Classical.em _
 let G0 : Gh := { U := G.U, cp := G.cp, ow := fun _ => none, gen := fun _ => 0, df := [] }
 have hw0 : Wf G0 w := ⟨fun κ κ' b h1 h2 => by simp [G0] at h1, fun κ b h1 => by simp [G0] at h1, hw.zero⟩
 have hrel : Rel G0 w ⟨args ++ List.replicate (n - args.length) .junk, [], []⟩ { tmps := vs.toArray ++ Array.replicate (fn.ntmps - vs.toArray.size) undef, defers := [] } := by
  refine ⟨hw0, ?_, fun t s ht => ?_, fun p hp => by simp at hp, fun k => rfl, rfl⟩
  ·simp [hlv, hn]
  ·simp only at ht
   rcases Nat.lt_or_ge t args.length with hlt | hge
   ·rw [List.getElem?_append_left hlt] at ht
    have hr0 := RepSs_transfer (G := G) (G' := G0) (ids := []) (gn := []) rfl rfl (fun i hi => by simp at hi) (fun k g hl => by simp at hl) hargs hr
    obtain ⟨u, h1, h2⟩ := hr0.get t s ht
    have : (vs.toArray ++ Array.replicate (fn.ntmps - vs.toArray.size) undef).getD t undef = u := by
     have hlt' : t < vs.length := by omega
     simp only [Array.getD_eq_getD_getElem?]
     rw [Array.getElem?_append_left (by simpa using hlt')]
     simp [h1]
    rw [this]; exact h2
   ·rw [List.getElem?_append_right hge, List.getElem?_replicate] at ht
    split at ht
    ·simp at ht; subst ht; trivial
    ·simp at ht
 refine calls_of_wp hf hb (Code.wp_mono (fun e a w' hl => ?_) (h G0 w _ hrel))
 obtain ⟨S', G1, h1, h2, h3, h4⟩ := hl
 have done : (∃ keep, aRes P fn S' keep = some res) ∧ (∀ p ∈ nb, S'.bx.lookup p.1 = some p.2) ∧ (∀ p ∈ ([] : List (Key × Nat)), S'.gen p.1 = p.2) → a.defers = [] ∧ ∃ v, (results fn a.tmps).run P w' = .ok v w' ∧
   ∃ v_1 G', Ending.returned v = .returned v_1 ∧ Step G w G' w' ∧ Wf G' w' ∧ RepS G' w' res v_1 ∧ (∀ p ∈ nb, RepB G' w' p.1 p.2) ∧ (∀ κ : Key, (κ.1 ∉ nb.map (·.1) ∨ κ.2 ≠ 0) → Keep G w G' w' κ) ∧ ∀ κ : Key, G'.gen κ = G.gen κ := by
  rintro ⟨⟨keep, g1⟩, g2, _⟩
  obtain ⟨v, e1, e2⟩ := aRes_sound g1 h3
  let G' : Gh := { U := G1.U, cp := G1.cp, ow := fun κ => @ite _ (mine κ) (Classical.propDecidable _) (G1.ow κ) (G.ow κ), gen := G.gen, df := G.df }
  have hG' : ∀ κ : Key, mine κ → G'.ow κ = G1.ow κ := fun κ hκ => by simp only [G']; rw [if_pos hκ]
  have hG'n : ∀ κ : Key, ¬ mine κ → G'.ow κ = G.ow κ := fun κ hκ => by simp only [G']; rw [if_neg hκ]
  have hnot : ∀ κ b, G.ow κ = some b → w'.heap[b]? = w.heap[b]? ∧ G1.U b = G.U b := fun κ b hb =>
   h2.stay b (hw.lt κ b hb) (fun κ2 h' => by simp [G0] at h')
  have hnew : ∀ κ b, G1.ow κ = some b → w.heap.size ≤ b := by
   intro κ b hb
   rcases h2.rng κ b hb with ⟨κ', h'⟩ | h'
   ·simp [G0] at h'
   ·exact h'
  have hkeep : ∀ κ : Key, ¬ mine κ → Keep G w G' w' κ := fun κ hκ => ⟨hG'n κ hκ, fun b hb => hnot κ b hb⟩
  have hid1 : ∀ i : Nat, i ∈ ids → G'.ow (i, 0) = G1.ow (i, 0) := fun i hi => hG' (i, 0) ⟨hi, rfl⟩
  have how : ∀ κ b, G'.ow κ = some b → (mine κ ∧ G1.ow κ = some b) ∨ (¬ mine κ ∧ G.ow κ = some b) := by
   intro κ b hκ
   rcases hdec κ with hm | hm
   ·rw [hG' κ hm] at hκ; exact .inl ⟨hm, hκ⟩
   ·rw [hG'n κ hm] at hκ; exact .inr ⟨hm, hκ⟩
  have hext : Ext G w G' w' := by
   refine ⟨h2.U, h2.imm, h2.size, h2.os, Prod.ext h2.toExt.tp rfl, h2.output, h2.cp, fun _ => Nat.le_refl _, fun κ h0 hge => ?_⟩
   exact hkeep κ (fun hm => by have := hm.2; omega)
  refine ⟨h3.defers.trans h2.toExt.df, v, e1, v, G', rfl, ⟨hext, ?_, ?_⟩, ⟨?_, ?_, h3.wf.zero⟩, ?_, ?_, ?_, fun _ => rfl⟩
  ·intro b hb' hno
   exact h2.stay b hb' (fun κ hκ => by simp [G0] at hκ)
  ·intro κ b hκ
   rcases how κ b hκ with ⟨_, q⟩ | ⟨_, q⟩
   ·exact .inr (hnew κ b q)
   ·exact .inl ⟨κ, q⟩
  ·intro κ κ' b hκ hκ'
   rcases how κ b hκ with ⟨m1, q1⟩ | ⟨m1, q1⟩ <;> rcases how κ' b hκ' with ⟨m2, q2⟩ | ⟨m2, q2⟩
   ·exact h3.wf.inj κ κ' b q1 q2
   ·have := hnew κ b q1; have := hw.lt κ' b q2; omega
   ·have := hnew κ' b q2; have := hw.lt κ b q1; omega
   ·exact hw.inj κ κ' b q1 q2
  ·intro κ b hκ
   rcases how κ b hκ with ⟨_, q⟩ | ⟨_, q⟩
   ·exact h3.wf.lt κ b q
   ·have := hw.lt κ b q; have := h2.size; omega
  ·exact RepS_transfer (G := G1) (G' := G') (ids := ids) (gn := []) rfl rfl hres hid1 (fun k g hl => by simp at hl) e2
  ·intro p hp
   have := h3.bx _ (lookup_mem (g2 p hp))
   exact RepB_transfer (G := G1) (G' := G') (ids := ids) (gn := []) rfl rfl hid1 (fun k g hl => by simp at hl) (List.mem_map_of_mem hp) (hbx' p hp) this
  ·intro κ hκ
   exact hkeep κ (fun hm => by rcases hκ with q | q; exact q hm.1; exact q hm.2)
 cases e with
 | normal => exact done h1
 | ret => exact done h1
 | exit id => exact h1.elim
 | goto l => exact h1.elim
 | panic ch => exact h1.elim
 | outgrown => exact h1.elim
theorem Rel_new {G G' : Gh} {w w' : World} {S : St} {a : Act} {nb : List (Nat × ABox)} (h : Rel G w S a) (hx : Ext G w G' w') (hw : Wf G' w') (hk : ∀ κ : Key, (κ.1 ∉ nb.map (·.1) ∨ κ.2 ≠ 0) → Keep G w G' w' κ) (hg : ∀ κ : Key, G'.gen κ = G.gen κ) (hb : ∀ p ∈ nb, RepB G' w' p.1 p.2)
  (hn : nb.all (fun p => !S.names p.1) = true) : Rel G' w' { S with bx := nb ++ S.bx } a := by
 have hn' : ∀ i ∈ nb.map (·.1), S.names i = false := by
  intro i hi
  simp only [List.mem_map] at hi
  obtain ⟨p, hp, rfl⟩ := hi
  have := List.all_eq_true.1 hn p hp
  simpa using this
 have hkS : ∀ s : SV, (∀ i ∈ nb.map (·.1), s.names i = false) → ∀ κ ∈ s.keys, Keep G w G' w' κ := by
  intro s hs κ hκ
  refine hk κ (.inl fun hi => ?_)
  exact names_keysS (hs κ.1 hi) κ hκ rfl
 refine ⟨hw, h.size, fun t s ht => ?_, fun p hp => ?_, fun k => by rw [hg]; exact h.gn k, h.defers.trans hx.df.symm⟩
 ·refine (h.fr t s ht).persist hx (fun κ hκ => (hkS s (fun i hi => ?_) κ hκ).1)
  have := hn' i hi
  simp only [St.names, Bool.or_eq_false_iff] at this
  have h1 := this.1
  rw [List.any_eq_false] at h1
  simpa using h1 s (List.mem_of_getElem? ht)
 ·simp only [List.mem_append] at hp
  rcases hp with hp | hp
  ·exact hb p hp
  ·have hp' : ∀ i ∈ nb.map (·.1), p.1 ≠ i ∧ p.2.svs.any (SV.names i) = false := by
    intro i hi
    have := hn' i hi
    simp only [St.names, Bool.or_eq_false_iff] at this
    have h2 := this.2
    rw [List.any_eq_false] at h2
    simpa using h2 p hp
   refine (h.bx p hp).persist hx (hk _ (.inl fun hi => (hp' p.1 hi).1 rfl)) (fun κ hκ => ?_)
   simp only [List.mem_flatMap] at hκ
   obtain ⟨s, hs, hs2⟩ := hκ
   refine (hkS s (fun i hi => ?_) κ hs2).1
   have := (hp' i hi).2
   rw [List.any_eq_false] at this
   simpa using this s hs
theorem WO_new {ops : Array Oper} {o : Oper} {rest : List Oper} {Q : St → Prop} {S : St} {x : Operand} {args : Array Operand} {tys : Array TypeId} {f : FuncId} {fs cs : List PV} {nb : List (Nat × ABox)} {res : SV} (d : Nat) (hg : (o.guard, o.dst) = (none, some d))
  (ho : o.op = .call { callee := .value x, args := args, argTypes := tys }) (hx : S.ev x = .fn f fs cs) (hc : CallNew P f (callArgs S fs args.toList cs false) nb res) (hids : nb.all (fun p => decide (p.1 < 1000)) = true) (hn : nb.all (fun p => !S.names p.1) = true)
  (h : WO P ops rest Q (St.put { S with bx := nb ++ S.bx } (some d) res)) : WO P ops (o :: rest) Q S := by
 simp only [Prod.mk.injEq] at hg
 refine WO_op (fun G w a hr => wanted_none hg.1 a) (fun G w a hr Q' next hnx => ?_) h
 obtain ⟨⟨fn, hf1, hf2, hf3⟩, hcall⟩ := hc
 have h1 := hr.ev x; rw [hx] at h1
 obtain ⟨vs, us, h2, h3, h4⟩ := h1
 have hargs := RepSs_args hr h3 h4 args.toList false
 have hcall := hcall G w _ hr.wf hargs
 have hrun : (execOp a.eval o).run P w = .ok (.enter f (vs.toList ++ (args.toList.map a.eval ++ us.toList)).toArray) w := by
  have hnone : fn.body.isNone = false := by cases hb : fn.body <;> simp_all
  simp only [execOp, ho, resolve, h2, Deferred.ofValue, Sem.run_bind, Sem.run_pure, Result.andThen_ok, invoke, callFunc, run_program, hf1]
  rw [if_neg (by rw [hf3]; simp)]
  simp only [hnone, Bool.false_eq_true, if_false, Sem.run_pure]
  congr 2
  apply Array.ext'
  simp
 unfold Oper.wp
 rw [hrun, Oper.upon_enter]
 refine hcall.mono ?_
 rintro e w' ⟨v, G', rfl, s1, s2, s3, s4, s5, s6⟩
 have hrel := Rel_new hr s1.toExt s2 s5 s6 s4 hn
 rw [hg.2]
 refine hnx G' _ w' s1 (hrel.put (some d) s3) (fun i hi => ?_)
 refine (s5 (i, 0) (.inl fun hm => ?_)).1
 simp only [List.mem_map] at hm
 obtain ⟨p, hp, hpe⟩ := hm
 have := List.all_eq_true.1 hids p hp
 simp only [decide_eq_true_eq] at this
 have h5 : p.1 = i := hpe
 omega
theorem Nb_same {a : Act} {d : Nat} {v : Value} (h : d < a.tmps.size) : (a.put (some d) v).eval (.tmp d) = v := by
 simp only [Act.eval, Act.put, Array.getD_eq_getD_getElem?]
 rw [Array.getElem?_setIfInBounds_self_of_lt h]; rfl
def expZ : Value := .agg #[.map none, .map none, .map none, .int .i64 0]
theorem WO_exp {ops : Array Oper} {o1 o2 : Oper} {rest : List Oper} {Q : St → Prop} {S : St} {t m1 m2 m3 b1 b2 b3 d1 d2 bt : Nat}
  (ho1 : o1.op = .build t #[(0, .tmp m1), (1, .tmp m2), (2, .tmp m3)]) (hd1 : o1.dst = some d1) (hg1 : o1.guard = none) (ho2 : o2.op = .box t (.tmp d1)) (hd2 : o2.dst = some d2) (hg2 : o2.guard = none)
  (hi : tInfo P t = some (4, bt, some expZ)) (hpl : tPlaces P t = some [(0, 1), (1, 1), (2, 1), (3, 1)]) (hm1 : S.fr[m1]? = some (.mp b1)) (hm2 : S.fr[m2]? = some (.mp b2)) (hm3 : S.fr[m3]? = some (.mp b3)) (hl1 : d1 < S.fr.length) (hid : d2 < 1000) (hn : (S.put (some d1) .junk).names d2 = false)
  (hb1 : b1 ≠ d2) (hb2 : b2 ≠ d2) (hb3 : b3 ≠ d2)
  (h : WO P ops rest Q (((S.put (some d1) .junk).addBox d2 (.cells t [.mp b1, .mp b2, .mp b3, .av (.val (.int .i64 0))])).put (some d2) (.ptr d2 0))) : WO P ops (o1 :: o2 :: rest) Q S := by
 intro more Q' G w a hr hq
 have hsz : a.tmps.size = S.fr.length := hr.size.symm
 obtain ⟨k1, p1, q1⟩ := hr.fr m1 _ hm1
 obtain ⟨k2, p2, q2⟩ := hr.fr m2 _ hm2
 obtain ⟨k3, p3, q3⟩ := hr.fr m3 _ hm3
 have em1 : a.eval (.tmp m1) = .map (some k1) := q1
 have em2 : a.eval (.tmp m2) = .map (some k2) := q2
 have em3 : a.eval (.tmp m3) = .map (some k3) := q3
 have x1 : (execOp a.eval o1).run P w = .ok (.value (.agg #[.map (some k1), .map (some k2), .map (some k3), .int .i64 0])) w := by
  unfold tPlaces at hpl
  split at hpl
  ·rename_i fs hu
   have hmm := run_places w fs.toList _ hpl
   have hm2 : (fs.mapM (fun f => do pure (f.offset, ← sizeOf f.type)) : Sem (Array (Nat × Nat))).run P w = .ok #[(0, 1), (1, 1), (2, 1), (3, 1)] w := by
    rw [Array.mapM_eq_mapM_toList]
    simp only [Sem.run_map, hmm, Result.andThen_ok]
   simp only [bind_pure_comp] at hm2
   simp [execOp, ho1, Instr.build, run_zeroValue' hi, run_underlying' hu, hm2, em1, em2, em3, expZ]
   rfl
  ·simp at hpl
 simp only [List.cons_append, wpList]
 rw [if_pos (wanted_none hg1 a)]
 refine .inl ?_
 unfold Oper.wp
 rw [x1, Oper.upon_value, hd1]
 have hr1 : Rel G w (S.put (some d1) .junk) (a.put (some d1) (.agg #[.map (some k1), .map (some k2), .map (some k3), .int .i64 0])) := hr.put (some d1) trivial
 have ed1 : (a.put (some d1) (.agg #[.map (some k1), .map (some k2), .map (some k3), .int .i64 0])).eval (.tmp d1) = .agg #[.map (some k1), .map (some k2), .map (some k3), .int .i64 0] := Nb_same (by omega)
 generalize a.put (some d1) (.agg #[.map (some k1), .map (some k2), .map (some k3), .int .i64 0]) = a1 at hr1 ed1 ⊢
 rw [if_pos (wanted_none hg2 _)]
 refine .inl ?_
 try unfold Oper.wp
 have hs : RepSs G w [.mp b1, .mp b2, .mp b3, .av (.val (.int .i64 0))] [.map (some k1), .map (some k2), .map (some k3), .int .i64 0] :=
  ⟨_, _, rfl, ⟨k1, p1, rfl⟩, _, _, rfl, ⟨k2, p2, rfl⟩, _, _, rfl, ⟨k3, p3, rfl⟩, _, _, rfl, ⟨rfl, rfl⟩, rfl⟩
 obtain ⟨e1, e2, e3⟩ := hr1.newBox hn t hs (by intro s hs; simp only [List.mem_cons, List.not_mem_nil, or_false] at hs; rcases hs with rfl | rfl | rfl | rfl <;> simp [SV.names, hb1, hb2, hb3]) (by intro x hx; simp only [List.mem_cons, List.not_mem_nil, or_false] at hx; rcases hx with rfl | rfl | rfl | rfl <;> rfl)
 have x2 : (execOp a1.eval o2).run P w = .ok (.value (.pointer (some ⟨w.heap.size, 0, none⟩))) (w.alloc (.cells [Value.map (some k1), .map (some k2), .map (some k3), .int .i64 0].toArray t)) := by
  simp [execOp, ho2, ed1, Instr.box, newVar, newRow, Value.cells]
 rw [x2, Oper.upon_value, hd2]
 have hr2 := e2.put (some d2) e3
 exact h more Q' _ _ _ hr2 (fun S' G2 a2 w4 p1 p2 p3 p4 => hq S' G2 a2 w4 p1 (e1.trans p2) p3 (fun i hi' => (p4 i hi').trans (by simp only [Gh.bind]; rw [if_neg (by intro h; simp only [Prod.mk.injEq] at h; omega)])))
end
end Go.Eng
namespace Go.Eng
def okCb (gn : List (Key × Nat)) : CV → Bool
 | .own k g _ _ => gn.lookup k == some g
 | _ => true
def okSb (ids : List Nat) (gn : List (Key × Nat)) : SV → Bool
 | .own k g _ _ => gn.lookup k == some g
 | .ag l => l.all (okCb gn)
 | .tp l => l.all (fun x => match x with | .c x => okCb gn x | .a l => l.all (okCb gn))
 | s => s.keys.all (fun κ => ids.contains κ.1)
theorem okCb_ok {gn : List (Key × Nat)} {x : CV} (h : okCb gn x = true) : OkCV gn x := by
 cases x with
 | own k g sz l => simpa [okCb, OkCV] using h
 | _ => trivial
theorem okSb_ok {ids : List Nat} {gn : List (Key × Nat)} {s : SV} (h : okSb ids gn s = true) : OkSV ids gn s := by
 have key : ∀ l : List Key, l.all (fun κ => ids.contains κ.1) = true → ∀ κ ∈ l, κ.1 ∈ ids := fun l hl κ hκ => by
  have := List.all_eq_true.1 hl κ hκ
  simpa using this
 cases s with
 | own k g sz l => simpa [okSb, OkSV] using h
 | ag l => exact fun x hx => okCb_ok (List.all_eq_true.1 h x hx)
 | tp l =>
  intro x hx
  have h1 := List.all_eq_true.1 h x hx
  cases x with
  | c x => exact okCb_ok h1
  | a l => exact fun y hy => okCb_ok (List.all_eq_true.1 h1 y hy)
 | junk => exact key _ h
 | clo l => exact key _ h
 | nil => exact key _ h
 | av x => exact key _ h
 | ptr b o => exact key _ h
 | mp b => exact key _ h
 | fn f fs cs => exact key _ h
 | son b => exact key _ h
 | vs b n => exact key _ h
 | vp b sz i o => exact key _ h
def okB (ids : List Nat) (gn : List (Key × Nat)) (bx : List (Nat × ABox)) : Bool := bx.all (fun p => p.2.svs.all (okSb ids gn))
def okSpec (fn : Func) (args : List SV) (bx : List (Nat × ABox)) (gn : List (Key × Nat)) (res : SV) (bx' : List (Nat × ABox)) (gn' : List (Key × Nat)) : Bool :=
 fn.body.isSome && !(fn.name == "runtime.NumGoroutine") && decide (args.length ≤ fn.ntmps) && bx.all (fun p => decide (1000 ≤ p.1)) && gn.all (fun p => decide (1000 ≤ p.1.1) && decide (0 < p.1.2)) &&
  args.all (okSb (bx.map (·.1)) gn) && okB (bx.map (·.1)) gn bx && okSb (bx.map (·.1)) gn' res && okB (bx.map (·.1)) gn' bx' && (bx'.map (·.1) == bx.map (·.1)) && (gn'.map (·.1) == gn.map (·.1))
section
variable {P : Program}
theorem okB_ok {ids : List Nat} {gn : List (Key × Nat)} {bx : List (Nat × ABox)} (h : okB ids gn bx = true) : ∀ p ∈ bx, ∀ s ∈ p.2.svs, OkSV ids gn s :=
 fun p hp s hs => okSb_ok (List.all_eq_true.1 (List.all_eq_true.1 h p hp) s hs)
def KS (P : Program) (fn : Func) (res : SV) (bx' : List (Nat × ABox)) (gn' : List (Key × Nat)) (_ : Unit) : Exit → St → Prop := Ends P fn res bx' gn'
theorem BEGs {f : FuncId} {fn : Func} {args : List SV} {bx bx' : List (Nat × ABox)} {gn gn' : List (Key × Nat)} {res : SV} (hf : P.funcs[f]? = some fn) (hok : okSpec fn args bx gn res bx' gn' = true)
  (h : Nx P (KS P fn res bx' gn') () (start (bodyOf fn) ⟨args ++ List.replicate (fn.ntmps - args.length) .junk, bx, gn⟩)) : CallTo P f args bx gn res bx' gn' := by
 simp only [okSpec, Bool.and_eq_true, decide_eq_true_eq, Bool.not_eq_true', beq_iff_eq] at hok
 obtain ⟨⟨⟨⟨⟨⟨⟨⟨⟨⟨h1, h2⟩, h3⟩, h4⟩, h5⟩, h6⟩, h7⟩, h8⟩, h9⟩, h10⟩, h11⟩ := hok
 obtain ⟨c, hb⟩ := Option.isSome_iff_exists.1 h1
 have e : bodyOf fn = c := by simp [bodyOf, hb]
 refine CallTo_of_body hf hb h2 rfl h3 (fun p hp => ?_) (fun p hp => ?_) (fun s hs => okSb_ok (List.all_eq_true.1 h6 s hs)) (okB_ok h7) (okSb_ok h8) (okB_ok h9) h10 h11 ?_
 ·have := List.all_eq_true.1 h4 p hp; simpa using this
 ·have := List.all_eq_true.1 h5 p hp; simpa using this
 ·rw [← e]; exact h.x
theorem ENs {fn : Func} {res : SV} {bx' : List (Nat × ABox)} {gn' : List (Key × Nat)} {M : Unit} {X : Cf} (h : endOf P fn X = some res) (hb : bx'.map (fun p => (stOf X).bx.lookup p.1) = bx'.map (fun p => some p.2)) (hg : gn'.map (fun p => (stOf X).gen p.1) = gn'.map (·.2)) : Nx P (KS P fn res bx' gn') M X := by
 have hb' : ∀ p ∈ bx', (stOf X).bx.lookup p.1 = some p.2 := fun p hp => List.map_inj_left.1 hb p hp
 have hg' : ∀ p ∈ gn', (stOf X).gen p.1 = p.2 := fun p hp => List.map_inj_left.1 hg p hp
 unfold endOf at h
 split at h
 ·exact ⟨ends (.inl rfl) h rfl hb' hg'⟩
 ·exact ⟨ends (.inr rfl) h rfl hb' hg'⟩
 ·simp at h
def regAt (id : Nat) : Code → Option (Array Oper)
 | .region i ops _ => if i = id then some ops else none
 | .seq x y => (regAt id x).orElse (fun _ => regAt id y)
 | .cond _ x y => (regAt id x).orElse (fun _ => regAt id y)
 | .block _ c => regAt id c
 | .loop c => regAt id c
 | _ => none
def regOps (id : Nat) (fn : Func) : Array Oper := (regAt id (bodyOf fn)).getD #[]
def regO (id : Nat) (fn : Func) (i : Nat) : Oper := (regOps id fn).getD i ((regOps id fn).getD 0 default)
def KF (P : Program) (fn : Func) (res : SV) (_ : Unit) : Exit → St → Prop := fun e S => ∃ S2, Ghost S S2 ∧ Ends P fn res [] [] e S2
theorem BEGf {f : FuncId} {fn : Func} {args : List SV} {res : SV} (hf : P.funcs[f]? = some fn) (hok : okFn fn args res = true)
  (h : Nx P (KF P fn res) () (start (bodyOf fn) ⟨args ++ List.replicate (fn.ntmps - args.length) .junk, [], []⟩)) : CallTo P f args [] [] res [] [] := by
 simp only [okFn, Bool.and_eq_true, decide_eq_true_eq, Bool.not_eq_true'] at hok
 obtain ⟨⟨⟨⟨h1, h2⟩, h3⟩, h4⟩, h5⟩ := hok
 obtain ⟨c, hb⟩ := Option.isSome_iff_exists.1 h1
 have e : bodyOf fn = c := by simp [bodyOf, hb]
 refine CallTo_of_body hf hb h2 rfl h3 (by simp) (by simp) ?_ (by simp) (ok_av h5 _ _) (by simp) rfl rfl ?_
 ·intro s hs; rw [List.all_eq_true] at h4; exact ok_av (h4 s hs) _ _
 ·rw [← e]; exact W_gend h.x
theorem ENf {fn : Func} {res : SV} {M : Unit} {X : Cf} (id : Nat) {ks : List ByteArray} {vs : List AV} (hb : (stOf X).bx.lookup id = some (.map ks vs)) (he : finOf X = some .ret) (h : endOf P fn (some ([], [], .fin .ret ((stOf X).frozen id ks vs))) = some res) : Nx P (KF P fn res) M X := by
 unfold finOf at he
 split at he
 ·simp only [Option.some.injEq] at he; subst he
  exact ⟨⟨_, ghost_freeze hb, ends (.inl rfl) h rfl (by simp) (by simp)⟩⟩
 ·simp at he
def okNew (fn : Func) (args : List SV) (nb : List (Nat × ABox)) (res : SV) : Bool :=
 fn.body.isSome && !(fn.name == "runtime.NumGoroutine") && decide (args.length ≤ fn.ntmps) && args.all (okSb [] []) && okSb (nb.map (·.1)) [] res && okB (nb.map (·.1)) [] nb
theorem BEGn {f : FuncId} {fn : Func} {args : List SV} {nb : List (Nat × ABox)} {res : SV} (hf : P.funcs[f]? = some fn) (hok : okNew fn args nb res = true)
  (h : Nx P (KS P fn res nb []) () (start (bodyOf fn) ⟨args ++ List.replicate (fn.ntmps - args.length) .junk, [], []⟩)) : CallNew P f args nb res := by
 simp only [okNew, Bool.and_eq_true, decide_eq_true_eq, Bool.not_eq_true'] at hok
 obtain ⟨⟨⟨⟨⟨h1, h2⟩, h3⟩, h4⟩, h5⟩, h6⟩ := hok
 obtain ⟨c, hb⟩ := Option.isSome_iff_exists.1 h1
 have e : bodyOf fn = c := by simp [bodyOf, hb]
 refine CallNew_of_body hf hb h2 rfl h3 (fun s hs => okSb_ok (List.all_eq_true.1 h4 s hs)) (okSb_ok h5) (okB_ok h6) ?_
 rw [← e]; exact h.x
end
end Go.Eng
namespace Go.Proofs.YtkgflongbanbgaaGreatDoor
open Go Go.Eng
def wrdI (s : ByteArray) : Nat := Lib.leNat [s.get! 0, s.get! 1, s.get! 2, s.get! 3, s.get! 4, s.get! 5, s.get! 6, s.get! 7]
theorem word_to (s : ByteArray) (hs : 8 ≤ s.size) : CallTo Tryz.prog 111 [jS s] [] [] (.av (.val (.int .u64 ((wrdI s : Nat) : Int)))) [] [] := by
 refine CallTo_raw ⟨Tryz.f111, Tryz.func111, by kernel_rfl, by kernel_rfl⟩ (fun G w us h => args1 h) (fun G w => ⟨rfl, rfl⟩) (fun w => ?_)
 exact Any.utf8_word Tryz.lays259 s w hs
theorem wrd_mask (s : ByteArray) (hs : 8 ≤ s.size) (hc : Asc s) : IntKind.u64.wrap ((BitVec.ofInt IntKind.u64.bits ((wrdI s : Nat) : Int) &&& BitVec.ofInt IntKind.u64.bits 9259542123273814144).toNat : Int) = 0 := by
 have h1 : wrdI s &&& 9259542123273814144 = 0 := by
  refine (Lib.word_asc s hs).2 (fun b hb => ?_)
  obtain ⟨j, hj, e⟩ := byt_mem (List.mem_of_mem_take hb)
  have := hc j hj
  omega
 have h2 : wrdI s < 18446744073709551616 := Lib.word_lt s
 have e : (BitVec.ofInt IntKind.u64.bits ((wrdI s : Nat) : Int) &&& BitVec.ofInt IntKind.u64.bits 9259542123273814144).toNat = 0 := by
  rw [BitVec.toNat_and]
  have e1 : (BitVec.ofInt IntKind.u64.bits ((wrdI s : Nat) : Int)).toNat = wrdI s := by
   show (BitVec.ofInt 64 _).toNat = _
   rw [BitVec.toNat_ofInt]; omega
  rw [e1]; exact h1
 rw [e]; rfl
theorem asc_ext (s : ByteArray) (a b : Nat) (hc : Asc s) : Asc (s.extract a b) := by
 intro j hj
 rw [ByteArray.size_extract] at hj
 have e : byt (s.extract a b) j = byt s (a + j) := by
  simp only [byt, ByteArray.data_extract, Array.getD_eq_getD_getElem?, Array.getElem?_extract]
  rw [if_pos (by simpa using hj)]
 rw [e]
 exact hc _ (by omega)
theorem ext_sz (s : ByteArray) (a : Nat) : (s.extract a s.size).size = s.size - a := by rw [ByteArray.size_extract, Nat.min_self]
theorem vs_to (s : ByteArray) (hc : Asc s) (hs : s.size ≤ 21) : CallTo Tryz.prog 97 [jS s] [] [] (jB true) [] [] := by
 refine BEG (fun _ : Unit => jB true) () Tryz.func97 (by kernel_rfl) ?_
 refine GO (tn 1 z) (by kernel_rfl) ?_
 refine LP (n := s.size + 1) (fun N M S => ∃ x : ByteArray, Asc x ∧ x.size ≤ 21 ∧ x.size < N ∧ M = () ∧ S = sx 169 [(0, jS x)] [] []) (by kernel_rfl) ⟨s, hc, hs, by omega, rfl, rfl⟩ (WK (by kernel_rfl)) ?_
 rintro n M S ⟨x, hx, h21, hF, rfl, rfl⟩
 obtain ⟨n, rfl⟩ : ∃ k, n = k + 1 := ⟨n - 1, by omega⟩
 by_cases h0 : 0 < x.size
 ·have hd : decide (((ByteArray.size x : Nat) : Int) > 0) = true := decide_eq_true (by omega)
  have hb0 := hx 0 h0
  have hd2 : decide (((byt x 0 : Nat) : Int) < 128) = true := decide_eq_true (by omega)
  have e1 := ext_sz x 1
  have c1 := asc_ext x 1 x.size hx
  have hsl : 0 ≤ (1 : Int) ∧ (1 : Int) ≤ ((ByteArray.size x : Nat) : Int) ∧ ((ByteArray.size x : Nat) : Int) ≤ ((ByteArray.size x : Nat) : Int) := by omega
  by_cases h8 : 8 < (x.extract 1 x.size).size
  ·have hg : decide (((ByteArray.size (x.extract 1 x.size) : Nat) : Int) > 8) = true := decide_eq_true (by omega)
   have hm : ((IntKind.u64.wrap ((BitVec.ofInt IntKind.u64.bits ((wrdI (x.extract 1 x.size) : Nat) : Int) &&& BitVec.ofInt IntKind.u64.bits 9259542123273814144).toNat : Int)) == 0) = true := by rw [wrd_mask _ (by omega) c1]; rfl
   have hsl2 : 0 ≤ (8 : Int) ∧ (8 : Int) ≤ ((ByteArray.size (x.extract 1 x.size) : Nat) : Int) ∧ ((ByteArray.size (x.extract 1 x.size) : Nat) : Int) ≤ ((ByteArray.size (x.extract 1 x.size) : Nat) : Int) := by omega
   have e2 := ext_sz (x.extract 1 x.size) 8
   have c2 := asc_ext (x.extract 1 x.size) 8 (x.extract 1 x.size).size c1
   have hg2 : decide (((ByteArray.size ((x.extract 1 x.size).extract 8 (x.extract 1 x.size).size) : Nat) : Int) > 16) = false := decide_eq_false (by omega)
   refine GO (tn 3 (kb hd (tn 1 (kp (ib x 0 (by omega)) (tn 3 (kb hd2 (tn 1 (kp hsl (tn 5 (kb hg (tn 1 (kb hg (kc (word_to (x.extract 1 x.size) (by omega)) (kb hg (tn 1 (kb hg (tn 1 (kb hg (kb hm (tn 1 (kp hsl2 (tn 1 z)))))))))))))))))))))) (by kernel_rfl) ?_
   refine DR3 (tn 4 (ko (.b false) (kp hg2 (ko (.b false) (kp hg2 (ko (.b false) (kp hg2 (ko (.b false) (kp hg2 (ko (.b false) (kp hg2 (ko (.b false) (kp hg2 (ko (.b false) (kp hg2 (ko (.b false) (kp hg2 (ko (.b false) (kp hg2 z))))))))))))))))))) (by kernel_rfl) (by kernel_rfl) (by kernel_rfl) ?_
   refine GO (kb ff z) (by kernel_rfl) ?_
   exact AG ⟨(x.extract 1 x.size).extract 8 (x.extract 1 x.size).size, c2, by omega, by omega, rfl, rfl⟩ (WK (by kernel_rfl)) (by kernel_rfl) (Nat.lt_succ_self _)
  ·have hg : decide (((ByteArray.size (x.extract 1 x.size) : Nat) : Int) > 8) = false := decide_eq_false (by omega)
   refine GO (tn 3 (kb hd (tn 1 (kp (ib x 0 (by omega)) (tn 3 (kb hd2 (tn 1 (kp hsl (tn 5 (kb hg (kb hg (kb hg (kb hg (kb hg (kb ff z))))))))))))))) (by kernel_rfl) ?_
   exact AG ⟨x.extract 1 x.size, c1, by omega, by omega, rfl, rfl⟩ (WK (by kernel_rfl)) (by kernel_rfl) (Nat.lt_succ_self _)
 ·have hd : decide (((ByteArray.size x : Nat) : Int) > 0) = false := decide_eq_false (by omega)
  refine GO (tn 3 (kb hd z)) (by kernel_rfl) ?_
  refine OUT (tn 1 z) (by kernel_rfl) ?_
  exact EN (by kernel_rfl)
end Go.Proofs.YtkgflongbanbgaaGreatDoor
namespace Go.Eng
variable {P : Program}
section
variable {ev : Operand → Value} {o : Oper} {w : World}
end
end Go.Eng
namespace Go.Proofs.YtkgflongbanbgaaGreatDoor
open Go Go.Eng Go.RowKit Go.Shelf
def sp1 : ByteArray := ⟨#[32]⟩
def spl (s : ByteArray) : List ByteArray := Lib.splitB sp1 0 (Lib.countB s sp1) s
theorem count_sp (s : ByteArray) : ((Lib.countB s sp1 : Nat) : Int) = ((Lib.countByte s.data.toList 32 : Nat) : Int) := by
 show ((Lib.count s.data.toList [32] : Nat) : Int) = _
 rw [Lib.count_one]; rfl
theorem split_raw (s : ByteArray) (hs : s.size ≤ 1073741824) (w : World) :
  Calls Tryz.prog 81 #[.string s, .string sp1] w fun e w' => e = .returned (.slice (some ⟨w.heap.size, 0, none⟩) (Lib.countB s sp1 + 1) (Lib.countB s sp1 + 1)) ∧ w' = w.alloc (.cells ((spl s).map Value.string).toArray 9) := by
 have hle := Lib.countB_le sp1 (by decide) s.size s (Nat.le_refl _)
 have hlen := Lib.splitB_all sp1 (by decide) 0 _ s rfl
 have hI : ∀ (x : ByteArray) (c : Array Value), x.size ≤ s.size → Calls Tryz.prog 115 #[.string x, .string sp1] (w.alloc (.cells c 9)) fun e w' => e = .returned (.int .i64 (Lib.indexB x sp1)) ∧ w' = w.alloc (.cells c 9) :=
  fun x c _ => by
   refine (Any.strings_Index_one { Tryz.lays221 with } x 32 (w.alloc (.cells c 9))).mono fun e w' ⟨he, hw⟩ => ⟨?_, hw⟩
   rw [he, ← Lib.index_one]; rfl
 have hC : Calls Tryz.prog 114 #[.string s, .string sp1] w fun e w' => e = .returned (.int .i64 (Lib.countB s sp1)) ∧ w' = w := by
  refine (Any.strings_Count_one { Tryz.lays221 with } s 32 w).mono fun e w' ⟨he, hw⟩ => ⟨?_, hw⟩
  rw [he, count_sp]
 have c := Any.strings_genSplit_core Tryz.lays221 (by kernel_rfl) s sp1 0 (-1) (Lib.countB s sp1 + 1) w (by omega) (by decide) (Nat.zero_le _) hI hC (by decide) (by decide) (by rw [if_pos (by decide)]; omega)
 rw [Nat.add_sub_cancel, hlen] at c
 have e2 : Lib.cellsOf (Lib.splitB sp1 0 (Lib.countB s sp1) s) (Lib.countB s sp1 + 1) = ((spl s).map Value.string).toArray := by rw [← hlen]; exact Lib.cellsOf_full _
 rw [e2] at c
 have c' : Calls Tryz.prog 99 #[.string s, .string sp1, .int .i64 0, .int .i64 (-1)] w fun e w' => e = .returned (.slice (some ⟨w.heap.size, 0, none⟩) (Lib.countB s sp1 + 1) (Lib.countB s sp1 + 1)) ∧ w' = w.alloc (.cells ((spl s).map Value.string).toArray 9) := c
 refine (callsIn_wide (n := 0)).1 (callsIn_of_wp Tryz.func81 rfl trivial ?_ rfl)
 have c2 := (callsIn_wide (n := 0)).2 c'
 clear c c' hI hC e2 hle hlen
 simp only [Tryz.ntmps81, List.size_toArray, List.length_cons, List.length_nil, Nat.reduceAdd, Nat.reduceSub, Array.replicate_succ, Array.replicate_zero, List.push_toArray, List.append_toArray, List.nil_append, List.cons_append]
 gi_wp2
 refine ⟨trivial, rfl, c2.mono ?_⟩
 rintro e w' ⟨rfl, rfl⟩
 clear c2
 gi_wp2
 go_ret
 exact ⟨rfl, rfl⟩
theorem spl_len (s : ByteArray) : (spl s).length = Lib.countB s sp1 + 1 := Lib.splitB_all sp1 (by decide) 0 _ s rfl
theorem RepL_strs {U : Nat → Nat} {w : World} : ∀ l : List ByteArray, RepL U w (l.map strAV) (l.map Value.string)
 | [] => rfl
 | x :: l => ⟨.string x, _, rfl, ⟨rfl, rfl⟩, RepL_strs l⟩
theorem vcells_strs : ∀ l : List ByteArray, vcells (l.map Value.string) = l.map Value.string
 | [] => rfl
 | x :: l => by rw [List.map_cons, vcells, List.flatMap_cons, ← vcells, vcells_strs l]; rfl
theorem split_to (s : ByteArray) (hs : s.size ≤ 1073741824) : CallTo Tryz.prog 81 [(jS s), (jS sp1)] [] [] (jL ((spl s).map strAV)) [] [] := by
 refine ⟨⟨Tryz.f81, Tryz.func81, by kernel_rfl, by kernel_rfl⟩, ?_⟩
 intro G w vs hw hr _ _
 obtain ⟨u, l, rfl, hu, hr⟩ := hr
 obtain ⟨u2, l2, rfl, hu2, hr⟩ := hr
 have hr : l2 = [] := hr
 subst hr
 have e1 : u = .string s := hu.1
 have e2 : u2 = .string sp1 := hu2.1
 subst e1 e2
 have hU : ∀ k, 0 < G.U k → k < w.heap.size := fun k hk => by
  rcases Nat.lt_or_ge k w.heap.size with h | h
  ·exact h
  ·rw [hw.zero k h] at hk; omega
 refine (split_raw s hs w).mono ?_
 rintro e w' ⟨rfl, rfl⟩
 have hold : ∀ k, k < w.heap.size → (w.alloc (.cells ((spl s).map Value.string).toArray 9)).heap[k]? = w.heap[k]? := fun k hk => Below.heap_alloc _ _ _ hk
 let G' : Gh := { G with U := fun b => if b = w.heap.size then (spl s).length else G.U b }
 have hG' : ∀ b, b < w.heap.size → G'.U b = G.U b := fun b hb => by simp only [G']; rw [if_neg (by omega)]
 have hk : ∀ κ : Key, Keep G w G' (w.alloc (.cells ((spl s).map Value.string).toArray 9)) κ := fun κ => ⟨rfl, fun k h => ⟨hold k (hw.lt κ k h), hG' k (hw.lt κ k h)⟩⟩
 refine ⟨_, G', rfl, ⟨⟨fun b => ?_, ⟨fun k o ho => World.cell?_of_block (hold k (hU k (by omega))), fun k es c h1 h2 => (hold k (hU k (by omega))).trans h2⟩, by simp, rfl, rfl, rfl, fun _ _ => rfl, fun _ => Nat.le_refl _, fun κ _ _ => hk κ⟩, fun k h _ => ⟨hold k h, hG' k h⟩, fun κ k h => .inl ⟨κ, h⟩⟩,
  ⟨hw.inj, fun κ k h => by have := hw.lt κ k h; simp; omega, fun k h => ?_⟩, ?_, by simp, fun i _ => hk _, fun _ => rfl, fun κ => by simp [G']⟩
 ·by_cases hb : b = w.heap.size
  ·subst hb; rw [hw.zero _ (Nat.le_refl _)]; exact Nat.zero_le _
  ·simp only [G']; rw [if_neg hb]; exact Nat.le_refl _
 ·simp at h
  simp only [G']; rw [if_neg (by omega)]; exact hw.zero k (by omega)
 ·refine ⟨_, _, (spl s).map Value.string, 1, by rw [List.length_map, spl_len], RepL_strs _, ?_, by simp, ?_, ?_, ?_⟩
  ·intro e he
   obtain ⟨x, _, rfl⟩ := List.mem_map.1 he
   rfl
  ·rw [List.length_map, spl_len]; exact Nat.le_refl _
  ·intro _ ad h; cases h; rfl
  ·rw [vcells_strs]
   refine .inr ⟨w.heap.size, 0, rfl, ?_, fun j x hx => ?_⟩
   ·simp [G']
   ·have h := World.alloc_heap_new w (.cells ((spl s).map Value.string).toArray 9)
    refine ⟨?_, ?_⟩
    ·simp only [World.cell?, h, Nat.zero_add]
     simpa using hx
    ·obtain ⟨y, _, rfl⟩ := List.mem_map.1 (List.mem_of_getElem? hx)
     rfl
end Go.Proofs.YtkgflongbanbgaaGreatDoor
namespace Go.Proofs.YtkgflongbanbgaaGreatDoor
open Go Go.Eng
def clnM_L0 (s : ByteArray) : Nat → Nat → Bool
 | 0, _ => default
 | n0 + 1, v3 => cond (decide (((v3 : Nat) : Int) < ((ByteArray.size s : Nat) : Int))) (cond (cond (decide (((byt s v3 : Nat) : Int) < 32)) true (((byt s v3 : Nat) : Int) == 127)) false (clnM_L0 s n0 (v3 + 1))) true
def clnM (s : ByteArray) : Bool := clnM_L0 s ((ByteArray.size s - 0) + 1) 0
theorem clnM_to (s : ByteArray) (hs : s.size ≤ 21) (hc : Asc s) : CallTo Tryz.prog 77 [(jS s)] [] [] (jB (clnM s)) [] [] := by
 refine BEG (fun r : Bool => (jB r)) (clnM s) Tryz.func77 (by kernel_rfl) ?_
 refine UF (clnM.eq_1 ..) ?_
 refine GO (tn 2 z) (by kernel_rfl) ?_
 refine LP (fun N M S => ∃ v3 : Nat, (ByteArray.size s - v3 < N) ∧ M = clnM_L0 s N v3 ∧ S = (sx 22 [(0, (jS s)), (3, (jI ((v3 : Nat) : Int)))] [] [])) (by kernel_rfl) ⟨_, by omega, rfl, rfl⟩ (WK (by kernel_rfl)) ?_
 rintro n0 M S ⟨v3, hF0, rfl, rfl⟩
 obtain ⟨n0, rfl⟩ : ∃ k, n0 = k + 1 := ⟨n0 - 1, by omega⟩
 refine UF (clnM_L0.eq_2 ..) ?_
 refine GO (tn 4 z) (by kernel_rfl) ?_
 refine CSd (fun h1p h1 => ?_) (fun h1p h1 => ?_)
 ·refine GO (kb h1 (tn 2 (kp (ib s ((v3 : Nat) : Int) (by omega)) (tn 2 (kj (decide (((byt s v3 : Nat) : Int) < 32)) z (tn 2 (hp (fun h => by have j0 := h.2; have j0p := of_decide_eq_false j0; exact (ib s ((v3 : Nat) : Int) (by omega))) (tn 1 z))) z))))) (by kernel_rfl) ?_
  refine CS (fun h2 => ?_) (fun h2 => ?_)
  ·refine GO (kb h2 (tn 1 z)) (by kernel_rfl) ?_
   refine OUT z (by kernel_rfl) ?_
   exact EN (by kernel_rfl)
  ·obtain ⟨h2a, h2o⟩ := cond_tt h2
   have h2ap := of_decide_eq_false h2a
   have h2op := ne_of_beq_false h2o
   refine GO (kb h2 (tn 1 (kn (wrE (((v3 : Nat) : Int) + 1) ((v3 + 1 : Nat) : Int) (by omega)) (tn 1 z)))) (by kernel_rfl) ?_
   exact AG ⟨_, by omega, rfl, rfl⟩ (WK (by kernel_rfl)) (by kernel_rfl) (Nat.lt_succ_self _)
 ·refine GO (kb h1 z) (by kernel_rfl) ?_
  refine OUT (tn 1 (kc (vs_to s hc (by omega)) (tn 1 z))) (by kernel_rfl) ?_
  exact EN (by kernel_rfl)
theorem clnM_L0_true (s : ByteArray) (hc : Asc s) : ∀ (n : Nat) (v : Nat), s.size - v < n → clnM_L0 s n v = true
 | 0, v, h => by omega
 | n + 1, v, h => by
  rw [clnM_L0]
  by_cases hv : v < s.size
  ·have hq := hc v hv
   have ih := clnM_L0_true s hc n (v + 1) (by omega)
   rw [dT (p := ((v : Nat) : Int) < _) (by omega), cond_true]
   simp only [ih]
   rw [dF (p := ((byt s v : Nat) : Int) < 32) (by omega), show (((byt s v : Nat) : Int) == 127) = false by rw [beq_eq_false_iff_ne]; omega]
   rfl
  ·rw [dF (p := ((v : Nat) : Int) < _) (by omega)]; rfl
theorem clnM_true (s : ByteArray) (hc : Asc s) : clnM s = true := clnM_L0_true s hc _ _ (by omega)
theorem clnM_t (s : ByteArray) (hs : s.size ≤ 21) (hc : Asc s) : CallTo Tryz.prog 77 [(jS s)] [] [] (jB true) [] [] := by rw [← clnM_true s hc]; exact clnM_to s hs hc
theorem spl_e : spl ⟨#[]⟩ = [⟨#[]⟩] := by
 have h2 := Lib.countB_le sp1 (by decide) 0 ⟨#[]⟩ (by decide)
 have h4 : ByteArray.size ⟨#[]⟩ = 0 := rfl
 have h3 : Lib.countB ⟨#[]⟩ sp1 = 0 := by omega
 unfold spl
 rw [h3]
 rfl
theorem eqs_self (s : ByteArray) : eqs s s = true := by simp [eqs]
theorem split_e : CallTo Tryz.prog 81 [(jS (⟨#[]⟩)), (jS (⟨#[32]⟩))] [] [] (jL [(vS (⟨#[]⟩))]) [] [] := by
 have h := split_to ⟨#[]⟩ (by decide)
 rw [spl_e] at h; exact h
theorem szA : ByteArray.size ⟨#[111, 110, 101, 32]⟩ = 4 := rfl
theorem szB : ByteArray.size ⟨#[32, 116, 119, 111]⟩ = 4 := rfl
theorem szE : ByteArray.size ⟨#[]⟩ = 0 := rfl
theorem eqs_ne (s : ByteArray) : eqs s ((⟨#[]⟩) ++ s) = true := by
 have h : (⟨#[]⟩ : ByteArray) ++ s = s := ByteArray.ext (by simp)
 rw [h]; exact eqs_self s
end Go.Proofs.YtkgflongbanbgaaGreatDoor
namespace Go.Eng
open Go
section
variable {P : Program} {α : Type}
theorem gO {K : α → Exit → St → Prop} {M : α} {X : Cf} (oc : OC) (hn : Nx P K M (adv P X oc.o)) (h : csOf (adv P X oc.o) = some oc.c := by kernel_rfl) : Nx P K M X := GO oc h hn
theorem uN {K : α → Exit → St → Prop} {M : α} {X : Cf} (S0 : St) (n : Nat) (h : Nx P (KU P (lpC X) (lpK X) K n) M (start (lpC X) S0)) (hX : isLp X = true := by kernel_rfl) (hw : Weak (stOf X) S0 := by exact WK (by kernel_rfl)) : Nx P K M X := UN S0 n hX hw h
theorem uA {c : Code} {ks : List Fm} {K : α → Exit → St → Prop} {M : α} {X : Cf} {n : Nat} (S0 : St) (h : Nx P (KU P c ks K n) M (start c S0)) (hX : finOf X = some .normal := by kernel_rfl) (hw : Weak (stOf X) S0 := by exact WK (by kernel_rfl)) : Nx P (KU P c ks K (n + 1)) M X := UA S0 hX hw h
theorem uO {c : Code} {ks : List Fm} {K : α → Exit → St → Prop} {M : α} {X : Cf} {n : Nat} (oc : OC) (hn : Nx P K M (outX P ks X oc.o)) (h : csOf (outX P ks X oc.o) = some oc.c := by kernel_rfl) : Nx P (KU P c ks K n) M X := UO oc h hn
theorem bG {f : FuncId} {fn : Func} {args : List SV} {res : SV} (hf : P.funcs[f]? = some fn) (h : Nx P (KE P fn (fun _ : Unit => res) [] []) () (start (bodyOf fn) ⟨args ++ List.replicate (fn.ntmps - args.length) .junk, [], []⟩)) (hok : okFn fn args res = true := by kernel_rfl) : CallTo P f args [] [] res [] [] := BEG (fun _ : Unit => res) () hf hok h
theorem eN {fn : Func} {enc : α → SV} {M : α} {X : Cf} (h : endOf P fn X = some (enc M) := by kernel_rfl) : Nx P (KE P fn enc [] []) M X := EN h
theorem bGs {f : FuncId} {fn : Func} {args : List SV} {bx bx' : List (Nat × ABox)} {gn gn' : List (Key × Nat)} {res : SV} (hf : P.funcs[f]? = some fn)
  (h : Nx P (KS P fn res bx' gn') () (start (bodyOf fn) ⟨args ++ List.replicate (fn.ntmps - args.length) .junk, bx, gn⟩)) (hok : okSpec fn args bx gn res bx' gn' = true := by kernel_rfl) : CallTo P f args bx gn res bx' gn' := BEGs hf hok h
theorem eNs {fn : Func} {res : SV} {bx' : List (Nat × ABox)} {gn' : List (Key × Nat)} {M : Unit} {X : Cf} (h : endOf P fn X = some res := by kernel_rfl) (hb : bx'.map (fun p => (stOf X).bx.lookup p.1) = bx'.map (fun p => some p.2) := by kernel_rfl) (hg : gn'.map (fun p => (stOf X).gen p.1) = gn'.map (·.2) := by kernel_rfl) : Nx P (KS P fn res bx' gn') M X := ENs h hb hg
end
theorem el0 (y : AV) (l : List AV) : 0 ≤ (0 : Int) ∧ (y :: l)[(0 : Int).toNat]? = some y := ⟨by decide, rfl⟩
theorem el1 (x y : AV) (l : List AV) : 0 ≤ (1 : Int) ∧ (x :: y :: l)[(1 : Int).toNat]? = some y := ⟨by decide, rfl⟩
theorem el2 (w x y : AV) (l : List AV) : 0 ≤ (2 : Int) ∧ (w :: x :: y :: l)[(2 : Int).toNat]? = some y := ⟨by decide, rfl⟩
end Go.Eng
namespace Go.Proofs.YtkgflongbanbgaaGreatDoor
open Go Go.Eng
def Qs (s : ByteArray) : Prop := Asc s ∧ eqs s ⟨#[]⟩ = false ∧ s.size ≤ 21
def Qo (s : ByteArray) (o : List DPair) : Prop := Qs s ∧ o.length ≤ 1000
theorem Qs.a {s : ByteArray} (h : Qs s) : Asc s ∧ eqs s ⟨#[]⟩ = false ∧ s.size ≤ 21 ∧ 0 < s.size ∧ eqs s ((⟨#[]⟩) ++ s) = true := ⟨h.1, h.2.1, h.2.2, size_eqs_f h.2.1, eqs_ne s⟩
theorem Qo.a {s : ByteArray} {o : List DPair} (h : Qo s o) : Asc s ∧ eqs s ⟨#[]⟩ = false ∧ s.size ≤ 21 ∧ 0 < s.size ∧ eqs s ((⟨#[]⟩) ++ s) = true ∧ o.length ≤ 1000 := ⟨h.1.1, h.1.2.1, h.1.2.2, size_eqs_f h.1.2.1, eqs_ne s, h.2⟩
def zl1 (s : ByteArray) : List AV := [(vI 1), (vS s), (vS (⟨#[]⟩)), (vS (⟨#[]⟩)), (vS (⟨#[]⟩)), (.sl []), (.sl []), (.sl []), (.sl []), (.sl [])]
def zl2 (s : ByteArray) : List AV := [(vI 1), (vI 0), (vS (⟨#[]⟩)), (vS (⟨#[]⟩)), (vS (⟨#[]⟩)), (vS (⟨#[]⟩)), (vS (⟨#[]⟩)), (.sl []), (.sl []), (.sl [(.agg (zl1 s))]), (.sl [])]
def zl3 : List AV := [(vI 15), (vS (⟨#[118]⟩)), (vS (⟨#[]⟩)), (vS (⟨#[]⟩)), (vS (⟨#[]⟩)), (.sl []), (.sl []), (.sl []), (.sl []), (.sl [])]
def zl4 : List AV := [(vS (⟨#[110, 97, 109, 101]⟩)), (vS (⟨#[118]⟩))]
def zl5 : List AV := [(vS (⟨#[97, 114, 103, 115]⟩)), (vS (⟨#[]⟩))]
def zl6 (s : ByteArray) : List AV := [(vI 13), (vI 0), (vS (⟨#[109, 97, 99, 114, 111]⟩)), (vS (⟨#[]⟩)), (vS (⟨#[]⟩)), (vS (⟨#[]⟩)), (vS (⟨#[]⟩)), (.sl []), (.sl [(.agg zl4), (.agg zl5)]), (.sl []), (.sl [(.agg (zl2 s))])]
def zl7 : List AV := [(vI 1), (vI 0), (vS (⟨#[]⟩)), (vS (⟨#[]⟩)), (vS (⟨#[]⟩)), (vS (⟨#[]⟩)), (vS (⟨#[]⟩)), (.sl []), (.sl []), (.sl [(.agg zl3)]), (.sl [])]
def zl8 (s : ByteArray) : List AV := [(.sl []), (.sl [(.agg (zl6 s)), (.agg zl7)])]
def zl9 : List AV := [(vS (⟨#[]⟩)), (.sl []), (.sl [(.agg zl4), (.agg zl5)])]
def zl10 : List AV := [(vI 1), (vS (⟨#[32, 116, 119, 111]⟩)), (vS (⟨#[]⟩)), (vS (⟨#[]⟩)), (vS (⟨#[]⟩)), (.sl []), (.sl []), (.sl []), (.sl []), (.sl [])]
def zl11 : List AV := [(vI 1), (vI 0), (vS (⟨#[]⟩)), (vS (⟨#[]⟩)), (vS (⟨#[]⟩)), (vS (⟨#[]⟩)), (vS (⟨#[]⟩)), (.sl []), (.sl []), (.sl [(.agg zl3), (.agg zl10)]), (.sl [])]
def zl12 (s : ByteArray) : List AV := [(.sl []), (.sl [(.agg (zl6 s)), (.agg zl11)])]
def zl13 : List AV := [(vI 1), (vS (⟨#[111, 110, 101, 32]⟩)), (vS (⟨#[]⟩)), (vS (⟨#[]⟩)), (vS (⟨#[]⟩)), (.sl []), (.sl []), (.sl []), (.sl []), (.sl [])]
def zl14 : List AV := [(vI 1), (vI 0), (vS (⟨#[]⟩)), (vS (⟨#[]⟩)), (vS (⟨#[]⟩)), (vS (⟨#[]⟩)), (vS (⟨#[]⟩)), (.sl []), (.sl []), (.sl [(.agg zl13), (.agg zl3)]), (.sl [])]
def zl15 (s : ByteArray) : List AV := [(.sl []), (.sl [(.agg (zl6 s)), (.agg zl14)])]
def zl16 : List AV := [(vI 1), (vI 0), (vS (⟨#[]⟩)), (vS (⟨#[]⟩)), (vS (⟨#[]⟩)), (vS (⟨#[]⟩)), (vS (⟨#[]⟩)), (.sl []), (.sl []), (.sl [(.agg zl13), (.agg zl3), (.agg zl10)]), (.sl [])]
def zl17 (s : ByteArray) : List AV := [(.sl []), (.sl [(.agg (zl6 s)), (.agg zl16)])]
theorem q4_to {s : ByteArray} (hQ : Qs s) : CallTo Tryz.prog 62 [(jL [])] [] [] (jI 0) [] [] := by
 refine bG Tryz.func62 ?_
 refine gO (tn 7 z) ?_
 refine uN (sx 22 [(0, (jL [])), (3, (jI 0)), (8, (jI 0)), (9, (jI 0))] [] []) 60 ?_
 refine gO (tn 1 (kb ff z)) ?_
 refine uO (tn 2 z) ?_
 exact eN
theorem q6_to {s : ByteArray} (hQ : Qs s) : CallTo Tryz.prog 62 [(jL [(.agg (zl1 s))])] [] [] (jI 1) [] [] := by
 have ⟨hc, he, hs, hz, hes⟩ := hQ.a
 refine bG Tryz.func62 ?_
 refine gO (tn 7 z) ?_
 refine uN (sx 22 [(0, (jL [(.agg (zl1 s))])), (3, (jI 1)), (8, (jI 1)), (9, (jI 0))] [] []) 60 ?_
 refine gO (tn 1 (kb tt (tn 5 (ke (el0 (.agg (zl1 s)) []) (tn 2 (kc (q4_to hQ) (kn (wrE (1 + 0) 1 (by omega)) (tn 1 (kn (wrE (0 + 1) 1 (by omega)) (tn 1 z)))))))))) ?_
 refine uA (sx 22 [(0, (jL [(.agg (zl1 s))])), (3, (jI 1)), (8, (jI 1)), (9, (jI 1))] [] []) ?_
 refine gO (tn 1 (kb ff z)) ?_
 refine uO (tn 2 z) ?_
 exact eN
theorem q7_to {s : ByteArray} (hQ : Qs s) : CallTo Tryz.prog 40 [(jL [])] [] [] (jI 0) [] [] := by
 refine bG Tryz.func40 ?_
 refine gO (tn 7 z) ?_
 refine uN (sx 29 [(0, (jL [])), (3, (jI 0)), (8, (jI 0)), (9, (jI 0))] [] []) 60 ?_
 refine gO (tn 1 (kb ff z)) ?_
 refine uO (tn 2 z) ?_
 exact eN
theorem q5_to {s : ByteArray} (hQ : Qs s) : CallTo Tryz.prog 40 [(jL [(.agg (zl2 s))])] [] [] (jI 2) [] [] := by
 have ⟨hc, he, hs, hz, hes⟩ := hQ.a
 refine bG Tryz.func40 ?_
 refine gO (tn 7 z) ?_
 refine uN (sx 29 [(0, (jL [(.agg (zl2 s))])), (3, (jI 1)), (8, (jI 1)), (9, (jI 0))] [] []) 60 ?_
 refine gO (tn 1 (kb tt (tn 2 z))) ?_
 have d1 := (el0 (.agg (zl2 s)) [])
 have d2 := (q6_to hQ)
 have d3 := (el0 (.agg (zl2 s)) [])
 have d4 := (q7_to hQ)
 have d5 := wrE (1 + 0) 1 (by omega)
 have d6 := wrE (1 + 1) 2 (by omega)
 refine DR3 (tn 3 (ko (eO d1) (kp d1 (tn 2 (ko (cO d2) (kp d2 (tn 3 (ko (eO d3) (kp d3 (tn 2 (ko (cO d4) (kp d4 (tn 1 (ko (nO d5) (kp d5 (ko (nO d6) (kp d6 (tn 1 (kn (wrE (0 + 1) 1 (by omega)) (tn 1 z)))))))))))))))))))) (by kernel_rfl) (by kernel_rfl) (by kernel_rfl) ?_
 refine uA (sx 29 [(0, (jL [(.agg (zl2 s))])), (3, (jI 2)), (8, (jI 1)), (9, (jI 1)), (12, (jI 1)), (13, (jL [(.agg (zl2 s))])), (14, (jI 0)), (15, (.av (.ro (zl2 s) 0))), (16, (.av (.ro (zl2 s) 9))), (17, (jL [(.agg (zl1 s))])), (18, (jI 1)), (19, (jL [(.agg (zl2 s))])), (20, (jI 0)), (21, (.av (.ro (zl2 s) 0))), (22, (.av (.ro (zl2 s) 10))), (23, (jL [])), (24, (jI 0)), (25, (jI 1)), (26, (jI 2))] [] []) ?_
 refine gO (tn 1 (kb ff z)) ?_
 refine uO (tn 2 z) ?_
 exact eN
theorem q8_to {s : ByteArray} (hQ : Qs s) : CallTo Tryz.prog 62 [(jL [(.agg zl3)])] [] [] (jI 1) [] [] := by
 have ⟨hc, he, hs, hz, hes⟩ := hQ.a
 refine bG Tryz.func62 ?_
 refine gO (tn 7 z) ?_
 refine uN (sx 22 [(0, (jL [(.agg zl3)])), (3, (jI 1)), (8, (jI 1)), (9, (jI 0))] [] []) 60 ?_
 refine gO (tn 1 (kb tt (tn 5 (ke (el0 (.agg zl3) []) (tn 2 (kc (q4_to hQ) (kn (wrE (1 + 0) 1 (by omega)) (tn 1 (kn (wrE (0 + 1) 1 (by omega)) (tn 1 z)))))))))) ?_
 refine uA (sx 22 [(0, (jL [(.agg zl3)])), (3, (jI 1)), (8, (jI 1)), (9, (jI 1))] [] []) ?_
 refine gO (tn 1 (kb ff z)) ?_
 refine uO (tn 2 z) ?_
 exact eN
theorem q3_to {s : ByteArray} (hQ : Qs s) : CallTo Tryz.prog 40 [(jL [(.agg (zl6 s)), (.agg zl7)])] [] [] (jI 5) [] [] := by
 have ⟨hc, he, hs, hz, hes⟩ := hQ.a
 refine bG Tryz.func40 ?_
 refine gO (tn 7 z) ?_
 refine uN (sx 29 [(0, (jL [(.agg (zl6 s)), (.agg zl7)])), (3, (jI 2)), (8, (jI 2)), (9, (jI 0))] [] []) 60 ?_
 refine gO (tn 1 (kb tt (tn 2 z))) ?_
 have d1 := (el0 (.agg (zl6 s)) [(.agg zl7)])
 have d2 := (q4_to hQ)
 have d3 := (el0 (.agg (zl6 s)) [(.agg zl7)])
 have d4 := (q5_to hQ)
 have d5 := wrE (0 + 2) 2 (by omega)
 have d6 := wrE (2 + 2) 4 (by omega)
 refine DR3 (tn 3 (ko (eO d1) (kp d1 (tn 2 (ko (cO d2) (kp d2 (tn 3 (ko (eO d3) (kp d3 (tn 2 (ko (cO d4) (kp d4 (tn 1 (ko (nO d5) (kp d5 (ko (nO d6) (kp d6 (tn 1 (kn (wrE (0 + 1) 1 (by omega)) (tn 1 z)))))))))))))))))))) (by kernel_rfl) (by kernel_rfl) (by kernel_rfl) ?_
 refine uA (sx 29 [(0, (jL [(.agg (zl6 s)), (.agg zl7)])), (3, (jI 4)), (8, (jI 2)), (9, (jI 1)), (12, (jI 2)), (13, (jL [(.agg (zl6 s)), (.agg zl7)])), (14, (jI 0)), (15, (.av (.ro (zl6 s) 0))), (16, (.av (.ro (zl6 s) 9))), (17, (jL [])), (18, (jI 0)), (19, (jL [(.agg (zl6 s)), (.agg zl7)])), (20, (jI 0)), (21, (.av (.ro (zl6 s) 0))), (22, (.av (.ro (zl6 s) 10))), (23, (jL [(.agg (zl2 s))])), (24, (jI 2)), (25, (jI 2)), (26, (jI 4))] [] []) ?_
 refine gO (tn 1 (kb tt (tn 2 z))) ?_
 have d7 := (el1 (.agg (zl6 s)) (.agg zl7) [])
 have d8 := (q8_to hQ)
 have d9 := (el1 (.agg (zl6 s)) (.agg zl7) [])
 have d10 := (q7_to hQ)
 have d11 := wrE (1 + 0) 1 (by omega)
 have d12 := wrE (4 + 1) 5 (by omega)
 refine DR3 (tn 3 (ko (eO d7) (kp d7 (tn 2 (ko (cO d8) (kp d8 (tn 3 (ko (eO d9) (kp d9 (tn 2 (ko (cO d10) (kp d10 (tn 1 (ko (nO d11) (kp d11 (ko (nO d12) (kp d12 (tn 1 (kn (wrE (1 + 1) 2 (by omega)) (tn 1 z)))))))))))))))))))) (by kernel_rfl) (by kernel_rfl) (by kernel_rfl) ?_
 refine uA (sx 29 [(0, (jL [(.agg (zl6 s)), (.agg zl7)])), (3, (jI 5)), (8, (jI 2)), (9, (jI 2)), (12, (jI 4)), (13, (jL [(.agg (zl6 s)), (.agg zl7)])), (14, (jI 1)), (15, (.av (.ro zl7 0))), (16, (.av (.ro zl7 9))), (17, (jL [(.agg zl3)])), (18, (jI 1)), (19, (jL [(.agg (zl6 s)), (.agg zl7)])), (20, (jI 1)), (21, (.av (.ro zl7 0))), (22, (.av (.ro zl7 10))), (23, (jL [])), (24, (jI 0)), (25, (jI 1)), (26, (jI 5))] [] []) ?_
 refine gO (tn 1 (kb ff z)) ?_
 refine uO (tn 2 z) ?_
 exact eN
theorem q2_to {s : ByteArray} (hQ : Qs s) : CallTo Tryz.prog 19 [(.av (.agg (zl8 s)))] [] [] (jI 5) [] [] := by
 refine bG Tryz.func19 ?_
 refine gO (tn 4 (kc (q3_to hQ) (tn 1 z))) ?_
 exact eN
theorem q11_to {s : ByteArray} (hQ : Qs s) : CallTo Tryz.prog 72 [(.av (.ro (zl6 s) 0))] [] [] (jB true) [] [] := by
 refine bG Tryz.func72 ?_
 refine gO (tn 15 (kb ff (tn 2 (kb ff (tn 2 (kb ff (tn 2 (kb ff (tn 2 (kb ff (tn 2 (kb ff (tn 2 (kb ff (tn 2 (kb ff (tn 2 (kb ff (tn 2 (kb ff (tn 2 (kb ff (tn 2 (kb ff (tn 2 (kb ff (tn 2 (kb tt (tn 5 (kb ff (tn 1 (kb ff (tn 1 (kb ff (tn 1 (kb ff (tn 1 (kb ff (tn 1 (kb ff (tn 1 (kb tt (tn 1 (kb tt (tn 1 (kb tt (kb tt (kb tt (kb tt (kb tt (kb tt (kb tt (kb tt (tn 1 (kb tt (tn 1 (kb tt (tn 1 (kb ff (tn 1 (kb ff (tn 1 (kb ff (tn 1 (kb ff (tn 1 (kb ff (tn 1 (kb tt (kb ff (kb tt (tn 1 (kb (show eqs (⟨#[]⟩) (⟨#[]⟩) = true from (by kernel_rfl)) (tn 1 (kb (show eqs (⟨#[]⟩) (⟨#[]⟩) = true from (by kernel_rfl)) (tn 1 (kb ff (tn 1 (kb ff (tn 1 (kb ff (tn 1 (kb ff (tn 1 (kb ff (tn 1 (kb (show eqs (⟨#[]⟩) (⟨#[]⟩) = true from (by kernel_rfl)) (kb ff (kb (show eqs (⟨#[]⟩) (⟨#[]⟩) = true from (by kernel_rfl)) (tn 1 (kb (show eqs (⟨#[]⟩) (⟨#[]⟩) = true from (by kernel_rfl)) (tn 1 (kb (show eqs (⟨#[]⟩) (⟨#[]⟩) = true from (by kernel_rfl)) (tn 1 (kb ff (tn 1 (kb ff (tn 1 (kb ff (tn 1 (kb ff (tn 1 (kb ff (tn 1 (kb (show eqs (⟨#[]⟩) (⟨#[]⟩) = true from (by kernel_rfl)) (kb ff (kb (show eqs (⟨#[]⟩) (⟨#[]⟩) = true from (by kernel_rfl)) (tn 1 (kb (show eqs (⟨#[]⟩) (⟨#[]⟩) = true from (by kernel_rfl)) (tn 1 (kb (show eqs (⟨#[]⟩) (⟨#[]⟩) = true from (by kernel_rfl)) (tn 1 (kb tt (kb tt (kb tt (kb tt (kb tt (kb (show eqs (⟨#[]⟩) (⟨#[]⟩) = true from (by kernel_rfl)) (kb tt (kb (show eqs (⟨#[]⟩) (⟨#[]⟩) = true from (by kernel_rfl)) (tn 1 (kb tt (tn 1 (kb tt (tn 1 (kb ff (tn 1 (kb ff (tn 1 (kb ff (tn 1 (kb ff (tn 1 (kb ff (tn 1 (kb ff (tn 1 (kb tt (kb ff (kb tt (tn 1 (kb tt (tn 1 (kb tt (tn 1 (kb tt (kb tt (kb tt (kb tt (kb tt (kb tt (kb tt (kb tt (kb tt (tn 1 z))))))))))))))))))))))))))))))))))))))))))))))))))))))))))))))))))))))))))))))))))))))))))))))))))))))))))))))))))))))))))))))))))))))))))))))))))))))))))) ?_
 exact eN
theorem q13_to {s : ByteArray} (hQ : Qs s) : CallTo Tryz.prog 87 [(jI 13), (jL [(vI 9), (vI 11), (vI 12)])] [] [] (jB false) [] [] := by
 have ⟨hc, he, hs, hz, hes⟩ := hQ.a
 refine bG Tryz.func87 ?_
 refine gO (tn 4 z) ?_
 refine uN (sx 17 [(0, (jI 13)), (7, (jL [(vI 9), (vI 11), (vI 12)])), (8, (jI 3)), (9, (jI 0))] [] []) 60 ?_
 refine gO (tn 1 (kb tt (ke (el0 (vI 9) [(vI 11), (vI 12)]) (tn 5 (kb ff (kn (wrE (0 + 1) 1 (by omega)) (tn 1 z))))))) ?_
 refine uA (sx 17 [(0, (jI 13)), (7, (jL [(vI 9), (vI 11), (vI 12)])), (8, (jI 3)), (9, (jI 1))] [] []) ?_
 refine gO (tn 1 (kb tt (ke (el1 (vI 9) (vI 11) [(vI 12)]) (tn 5 (kb ff (kn (wrE (1 + 1) 2 (by omega)) (tn 1 z))))))) ?_
 refine uA (sx 17 [(0, (jI 13)), (7, (jL [(vI 9), (vI 11), (vI 12)])), (8, (jI 3)), (9, (jI 2))] [] []) ?_
 refine gO (tn 1 (kb tt (ke (el2 (vI 9) (vI 11) (vI 12) []) (tn 5 (kb ff (kn (wrE (2 + 1) 3 (by omega)) (tn 1 z))))))) ?_
 refine uA (sx 17 [(0, (jI 13)), (7, (jL [(vI 9), (vI 11), (vI 12)])), (8, (jI 3)), (9, (jI 3))] [] []) ?_
 refine gO (tn 1 (kb ff z)) ?_
 refine uO (tn 1 z) ?_
 exact eN
theorem q12_to {s : ByteArray} (hQ : Qs s) : CallTo Tryz.prog 73 [(jI 13), (jI 0)] [] [] (jB true) [] [] := by
 refine bG Tryz.func73 ?_
 refine gO (tn 4 (kb ff (tn 2 (kb ff (tn 2 (kb ff (tn 2 (kb ff (tn 1 (kp (show Uni 1 [(vI 9), (vI 11), (vI 12)] from (by simp [Uni, AV.cells, AV.isTup])) (kc (q13_to hQ) (tn 2 z)))))))))))) ?_
 exact eN
theorem q16_to {s : ByteArray} (hQ : Qs s) : CallTo Tryz.prog 50 [(.av (.val (.int .u8 109)))] [] [] (jB true) [] [] := by
 refine bG Tryz.func50 ?_
 refine gO (tn 4 (kb tt (tn 1 (kb tt (tn 1 (kb tt (tn 1 (kb tt (kb tt (kb tt (kb tt (kb tt (tn 1 z))))))))))))) ?_
 exact eN
theorem q18_to {s : ByteArray} (hQ : Qs s) : CallTo Tryz.prog 68 [(.av (.val (.int .u8 109)))] [] [] (jB true) [] [] := by
 refine bG Tryz.func68 ?_
 refine gO (tn 4 (kb ff (tn 2 (kb ff (tn 2 (kb ff (tn 2 (kb ff (tn 1 (kc (q16_to hQ) (tn 1 (kb tt (kb tt (kb tt (kb tt (kb tt (tn 1 z))))))))))))))))) ?_
 exact eN
theorem q20_to {s : ByteArray} (hQ : Qs s) : CallTo Tryz.prog 50 [(.av (.val (.int .u8 97)))] [] [] (jB true) [] [] := by
 refine bG Tryz.func50 ?_
 refine gO (tn 4 (kb tt (tn 1 (kb tt (tn 1 (kb tt (tn 1 (kb tt (kb tt (kb tt (kb tt (kb tt (tn 1 z))))))))))))) ?_
 exact eN
theorem q19_to {s : ByteArray} (hQ : Qs s) : CallTo Tryz.prog 68 [(.av (.val (.int .u8 97)))] [] [] (jB true) [] [] := by
 refine bG Tryz.func68 ?_
 refine gO (tn 4 (kb ff (tn 2 (kb ff (tn 2 (kb ff (tn 2 (kb ff (tn 1 (kc (q20_to hQ) (tn 1 (kb tt (kb tt (kb tt (kb tt (kb tt (tn 1 z))))))))))))))))) ?_
 exact eN
theorem q22_to {s : ByteArray} (hQ : Qs s) : CallTo Tryz.prog 50 [(.av (.val (.int .u8 99)))] [] [] (jB true) [] [] := by
 refine bG Tryz.func50 ?_
 refine gO (tn 4 (kb tt (tn 1 (kb tt (tn 1 (kb tt (tn 1 (kb tt (kb tt (kb tt (kb tt (kb tt (tn 1 z))))))))))))) ?_
 exact eN
theorem q21_to {s : ByteArray} (hQ : Qs s) : CallTo Tryz.prog 68 [(.av (.val (.int .u8 99)))] [] [] (jB true) [] [] := by
 refine bG Tryz.func68 ?_
 refine gO (tn 4 (kb ff (tn 2 (kb ff (tn 2 (kb ff (tn 2 (kb ff (tn 1 (kc (q22_to hQ) (tn 1 (kb tt (kb tt (kb tt (kb tt (kb tt (tn 1 z))))))))))))))))) ?_
 exact eN
theorem q24_to {s : ByteArray} (hQ : Qs s) : CallTo Tryz.prog 50 [(.av (.val (.int .u8 114)))] [] [] (jB true) [] [] := by
 refine bG Tryz.func50 ?_
 refine gO (tn 4 (kb tt (tn 1 (kb tt (tn 1 (kb tt (tn 1 (kb tt (kb tt (kb tt (kb tt (kb tt (tn 1 z))))))))))))) ?_
 exact eN
theorem q23_to {s : ByteArray} (hQ : Qs s) : CallTo Tryz.prog 68 [(.av (.val (.int .u8 114)))] [] [] (jB true) [] [] := by
 refine bG Tryz.func68 ?_
 refine gO (tn 4 (kb ff (tn 2 (kb ff (tn 2 (kb ff (tn 2 (kb ff (tn 1 (kc (q24_to hQ) (tn 1 (kb tt (kb tt (kb tt (kb tt (kb tt (tn 1 z))))))))))))))))) ?_
 exact eN
theorem q26_to {s : ByteArray} (hQ : Qs s) : CallTo Tryz.prog 50 [(.av (.val (.int .u8 111)))] [] [] (jB true) [] [] := by
 refine bG Tryz.func50 ?_
 refine gO (tn 4 (kb tt (tn 1 (kb tt (tn 1 (kb tt (tn 1 (kb tt (kb tt (kb tt (kb tt (kb tt (tn 1 z))))))))))))) ?_
 exact eN
theorem q25_to {s : ByteArray} (hQ : Qs s) : CallTo Tryz.prog 68 [(.av (.val (.int .u8 111)))] [] [] (jB true) [] [] := by
 refine bG Tryz.func68 ?_
 refine gO (tn 4 (kb ff (tn 2 (kb ff (tn 2 (kb ff (tn 2 (kb ff (tn 1 (kc (q26_to hQ) (tn 1 (kb tt (kb tt (kb tt (kb tt (kb tt (tn 1 z))))))))))))))))) ?_
 exact eN
theorem q17_to {s : ByteArray} (hQ : Qs s) : CallTo Tryz.prog 51 [(jS (⟨#[109, 97, 99, 114, 111]⟩)), (jI 0)] [] [] (jI 5) [] [] := by
 have ⟨hc, he, hs, hz, hes⟩ := hQ.a
 refine bG Tryz.func51 ?_
 refine gO (tn 1 z) ?_
 refine uN (sx 18 [(0, (jS (⟨#[109, 97, 99, 114, 111]⟩))), (1, (jI 0))] [] []) 60 ?_
 refine gO (tn 5 (kb tt (tn 1 (kb tt (tn 1 (kb tt (kp (ib (⟨#[109, 97, 99, 114, 111]⟩) 0 (by decide)) (kb tt (kc (q18_to hQ) (kb tt (kb tt (tn 1 (kn (wrE (0 + 1) 1 (by omega)) (tn 1 z)))))))))))))) ?_
 refine uA (sx 18 [(0, (jS (⟨#[109, 97, 99, 114, 111]⟩))), (1, (jI 1))] [] []) ?_
 refine gO (tn 5 (kb tt (tn 1 (kb tt (tn 1 (kb tt (kp (ib (⟨#[109, 97, 99, 114, 111]⟩) 1 (by decide)) (kb tt (kc (q19_to hQ) (kb tt (kb tt (tn 1 (kn (wrE (1 + 1) 2 (by omega)) (tn 1 z)))))))))))))) ?_
 refine uA (sx 18 [(0, (jS (⟨#[109, 97, 99, 114, 111]⟩))), (1, (jI 2))] [] []) ?_
 refine gO (tn 5 (kb tt (tn 1 (kb tt (tn 1 (kb tt (kp (ib (⟨#[109, 97, 99, 114, 111]⟩) 2 (by decide)) (kb tt (kc (q21_to hQ) (kb tt (kb tt (tn 1 (kn (wrE (2 + 1) 3 (by omega)) (tn 1 z)))))))))))))) ?_
 refine uA (sx 18 [(0, (jS (⟨#[109, 97, 99, 114, 111]⟩))), (1, (jI 3))] [] []) ?_
 refine gO (tn 5 (kb tt (tn 1 (kb tt (tn 1 (kb tt (kp (ib (⟨#[109, 97, 99, 114, 111]⟩) 3 (by decide)) (kb tt (kc (q23_to hQ) (kb tt (kb tt (tn 1 (kn (wrE (3 + 1) 4 (by omega)) (tn 1 z)))))))))))))) ?_
 refine uA (sx 18 [(0, (jS (⟨#[109, 97, 99, 114, 111]⟩))), (1, (jI 4))] [] []) ?_
 refine gO (tn 5 (kb tt (tn 1 (kb tt (tn 1 (kb tt (kp (ib (⟨#[109, 97, 99, 114, 111]⟩) 4 (by decide)) (kb tt (kc (q25_to hQ) (kb tt (kb tt (tn 1 (kn (wrE (4 + 1) 5 (by omega)) (tn 1 z)))))))))))))) ?_
 refine uA (sx 18 [(0, (jS (⟨#[109, 97, 99, 114, 111]⟩))), (1, (jI 5))] [] []) ?_
 refine gO (tn 5 (kb ff (kb ff (kb ff (kb ff (kb ff (kb ff z))))))) ?_
 refine uO (tn 2 z) ?_
 exact eN
theorem q15_to {s : ByteArray} (hQ : Qs s) : CallTo Tryz.prog 29 [(jS (⟨#[109, 97, 99, 114, 111]⟩))] [] [] (jB true) [] [] := by
 refine bG Tryz.func29 ?_
 refine gO (tn 5 (kb ff (tn 1 (kb ff (tn 1 (kb ff (tn 1 (kb ff (tn 1 (kb ff (tn 1 (kb ff (kp (ib (⟨#[109, 97, 99, 114, 111]⟩) 0 (by decide)) (kb ff (kc (q16_to hQ) (kb ff (tn 1 (kb ff (kb ff (tn 1 (kc (q17_to hQ) (tn 4 z)))))))))))))))))))))) ?_
 exact eN
theorem q29_to {s : ByteArray} (hQ : Qs s) : CallTo Tryz.prog 50 [(.av (.val (.int .u8 110)))] [] [] (jB true) [] [] := by
 refine bG Tryz.func50 ?_
 refine gO (tn 4 (kb tt (tn 1 (kb tt (tn 1 (kb tt (tn 1 (kb tt (kb tt (kb tt (kb tt (kb tt (tn 1 z))))))))))))) ?_
 exact eN
theorem q31_to {s : ByteArray} (hQ : Qs s) : CallTo Tryz.prog 68 [(.av (.val (.int .u8 110)))] [] [] (jB true) [] [] := by
 refine bG Tryz.func68 ?_
 refine gO (tn 4 (kb ff (tn 2 (kb ff (tn 2 (kb ff (tn 2 (kb ff (tn 1 (kc (q29_to hQ) (tn 1 (kb tt (kb tt (kb tt (kb tt (kb tt (tn 1 z))))))))))))))))) ?_
 exact eN
theorem q33_to {s : ByteArray} (hQ : Qs s) : CallTo Tryz.prog 50 [(.av (.val (.int .u8 101)))] [] [] (jB true) [] [] := by
 refine bG Tryz.func50 ?_
 refine gO (tn 4 (kb tt (tn 1 (kb tt (tn 1 (kb tt (tn 1 (kb tt (kb tt (kb tt (kb tt (kb tt (tn 1 z))))))))))))) ?_
 exact eN
theorem q32_to {s : ByteArray} (hQ : Qs s) : CallTo Tryz.prog 68 [(.av (.val (.int .u8 101)))] [] [] (jB true) [] [] := by
 refine bG Tryz.func68 ?_
 refine gO (tn 4 (kb ff (tn 2 (kb ff (tn 2 (kb ff (tn 2 (kb ff (tn 1 (kc (q33_to hQ) (tn 1 (kb tt (kb tt (kb tt (kb tt (kb tt (tn 1 z))))))))))))))))) ?_
 exact eN
theorem q30_to {s : ByteArray} (hQ : Qs s) : CallTo Tryz.prog 51 [(jS (⟨#[110, 97, 109, 101]⟩)), (jI 0)] [] [] (jI 4) [] [] := by
 have ⟨hc, he, hs, hz, hes⟩ := hQ.a
 refine bG Tryz.func51 ?_
 refine gO (tn 1 z) ?_
 refine uN (sx 18 [(0, (jS (⟨#[110, 97, 109, 101]⟩))), (1, (jI 0))] [] []) 60 ?_
 refine gO (tn 5 (kb tt (tn 1 (kb tt (tn 1 (kb tt (kp (ib (⟨#[110, 97, 109, 101]⟩) 0 (by decide)) (kb tt (kc (q31_to hQ) (kb tt (kb tt (tn 1 (kn (wrE (0 + 1) 1 (by omega)) (tn 1 z)))))))))))))) ?_
 refine uA (sx 18 [(0, (jS (⟨#[110, 97, 109, 101]⟩))), (1, (jI 1))] [] []) ?_
 refine gO (tn 5 (kb tt (tn 1 (kb tt (tn 1 (kb tt (kp (ib (⟨#[110, 97, 109, 101]⟩) 1 (by decide)) (kb tt (kc (q19_to hQ) (kb tt (kb tt (tn 1 (kn (wrE (1 + 1) 2 (by omega)) (tn 1 z)))))))))))))) ?_
 refine uA (sx 18 [(0, (jS (⟨#[110, 97, 109, 101]⟩))), (1, (jI 2))] [] []) ?_
 refine gO (tn 5 (kb tt (tn 1 (kb tt (tn 1 (kb tt (kp (ib (⟨#[110, 97, 109, 101]⟩) 2 (by decide)) (kb tt (kc (q18_to hQ) (kb tt (kb tt (tn 1 (kn (wrE (2 + 1) 3 (by omega)) (tn 1 z)))))))))))))) ?_
 refine uA (sx 18 [(0, (jS (⟨#[110, 97, 109, 101]⟩))), (1, (jI 3))] [] []) ?_
 refine gO (tn 5 (kb tt (tn 1 (kb tt (tn 1 (kb tt (kp (ib (⟨#[110, 97, 109, 101]⟩) 3 (by decide)) (kb tt (kc (q32_to hQ) (kb tt (kb tt (tn 1 (kn (wrE (3 + 1) 4 (by omega)) (tn 1 z)))))))))))))) ?_
 refine uA (sx 18 [(0, (jS (⟨#[110, 97, 109, 101]⟩))), (1, (jI 4))] [] []) ?_
 refine gO (tn 5 (kb ff (kb ff (kb ff (kb ff (kb ff (kb ff z))))))) ?_
 refine uO (tn 2 z) ?_
 exact eN
theorem q28_to {s : ByteArray} (hQ : Qs s) : CallTo Tryz.prog 29 [(jS (⟨#[110, 97, 109, 101]⟩))] [] [] (jB true) [] [] := by
 refine bG Tryz.func29 ?_
 refine gO (tn 5 (kb ff (tn 1 (kb ff (tn 1 (kb ff (tn 1 (kb ff (tn 1 (kb ff (tn 1 (kb ff (kp (ib (⟨#[110, 97, 109, 101]⟩) 0 (by decide)) (kb ff (kc (q29_to hQ) (kb ff (tn 1 (kb ff (kb ff (tn 1 (kc (q30_to hQ) (tn 4 z)))))))))))))))))))))) ?_
 exact eN
theorem q37_to {s : ByteArray} (hQ : Qs s) : CallTo Tryz.prog 50 [(.av (.val (.int .u8 103)))] [] [] (jB true) [] [] := by
 refine bG Tryz.func50 ?_
 refine gO (tn 4 (kb tt (tn 1 (kb tt (tn 1 (kb tt (tn 1 (kb tt (kb tt (kb tt (kb tt (kb tt (tn 1 z))))))))))))) ?_
 exact eN
theorem q36_to {s : ByteArray} (hQ : Qs s) : CallTo Tryz.prog 68 [(.av (.val (.int .u8 103)))] [] [] (jB true) [] [] := by
 refine bG Tryz.func68 ?_
 refine gO (tn 4 (kb ff (tn 2 (kb ff (tn 2 (kb ff (tn 2 (kb ff (tn 1 (kc (q37_to hQ) (tn 1 (kb tt (kb tt (kb tt (kb tt (kb tt (tn 1 z))))))))))))))))) ?_
 exact eN
theorem q39_to {s : ByteArray} (hQ : Qs s) : CallTo Tryz.prog 50 [(.av (.val (.int .u8 115)))] [] [] (jB true) [] [] := by
 refine bG Tryz.func50 ?_
 refine gO (tn 4 (kb tt (tn 1 (kb tt (tn 1 (kb tt (tn 1 (kb tt (kb tt (kb tt (kb tt (kb tt (tn 1 z))))))))))))) ?_
 exact eN
theorem q38_to {s : ByteArray} (hQ : Qs s) : CallTo Tryz.prog 68 [(.av (.val (.int .u8 115)))] [] [] (jB true) [] [] := by
 refine bG Tryz.func68 ?_
 refine gO (tn 4 (kb ff (tn 2 (kb ff (tn 2 (kb ff (tn 2 (kb ff (tn 1 (kc (q39_to hQ) (tn 1 (kb tt (kb tt (kb tt (kb tt (kb tt (tn 1 z))))))))))))))))) ?_
 exact eN
theorem q35_to {s : ByteArray} (hQ : Qs s) : CallTo Tryz.prog 51 [(jS (⟨#[97, 114, 103, 115]⟩)), (jI 0)] [] [] (jI 4) [] [] := by
 have ⟨hc, he, hs, hz, hes⟩ := hQ.a
 refine bG Tryz.func51 ?_
 refine gO (tn 1 z) ?_
 refine uN (sx 18 [(0, (jS (⟨#[97, 114, 103, 115]⟩))), (1, (jI 0))] [] []) 60 ?_
 refine gO (tn 5 (kb tt (tn 1 (kb tt (tn 1 (kb tt (kp (ib (⟨#[97, 114, 103, 115]⟩) 0 (by decide)) (kb tt (kc (q19_to hQ) (kb tt (kb tt (tn 1 (kn (wrE (0 + 1) 1 (by omega)) (tn 1 z)))))))))))))) ?_
 refine uA (sx 18 [(0, (jS (⟨#[97, 114, 103, 115]⟩))), (1, (jI 1))] [] []) ?_
 refine gO (tn 5 (kb tt (tn 1 (kb tt (tn 1 (kb tt (kp (ib (⟨#[97, 114, 103, 115]⟩) 1 (by decide)) (kb tt (kc (q23_to hQ) (kb tt (kb tt (tn 1 (kn (wrE (1 + 1) 2 (by omega)) (tn 1 z)))))))))))))) ?_
 refine uA (sx 18 [(0, (jS (⟨#[97, 114, 103, 115]⟩))), (1, (jI 2))] [] []) ?_
 refine gO (tn 5 (kb tt (tn 1 (kb tt (tn 1 (kb tt (kp (ib (⟨#[97, 114, 103, 115]⟩) 2 (by decide)) (kb tt (kc (q36_to hQ) (kb tt (kb tt (tn 1 (kn (wrE (2 + 1) 3 (by omega)) (tn 1 z)))))))))))))) ?_
 refine uA (sx 18 [(0, (jS (⟨#[97, 114, 103, 115]⟩))), (1, (jI 3))] [] []) ?_
 refine gO (tn 5 (kb tt (tn 1 (kb tt (tn 1 (kb tt (kp (ib (⟨#[97, 114, 103, 115]⟩) 3 (by decide)) (kb tt (kc (q38_to hQ) (kb tt (kb tt (tn 1 (kn (wrE (3 + 1) 4 (by omega)) (tn 1 z)))))))))))))) ?_
 refine uA (sx 18 [(0, (jS (⟨#[97, 114, 103, 115]⟩))), (1, (jI 4))] [] []) ?_
 refine gO (tn 5 (kb ff (kb ff (kb ff (kb ff (kb ff (kb ff z))))))) ?_
 refine uO (tn 2 z) ?_
 exact eN
theorem q34_to {s : ByteArray} (hQ : Qs s) : CallTo Tryz.prog 29 [(jS (⟨#[97, 114, 103, 115]⟩))] [] [] (jB true) [] [] := by
 refine bG Tryz.func29 ?_
 refine gO (tn 5 (kb ff (tn 1 (kb ff (tn 1 (kb ff (tn 1 (kb ff (tn 1 (kb ff (tn 1 (kb ff (kp (ib (⟨#[97, 114, 103, 115]⟩) 0 (by decide)) (kb ff (kc (q20_to hQ) (kb ff (tn 1 (kb ff (kb ff (tn 1 (kc (q35_to hQ) (tn 4 z)))))))))))))))))))))) ?_
 exact eN
theorem q27_to {s : ByteArray} (hQ : Qs s) : CallTo Tryz.prog 94 [(.av (.agg zl9))] [] [] (jI 0) [] [] := by
 have ⟨hc, he, hs, hz, hes⟩ := hQ.a
 refine bG Tryz.func94 ?_
 refine gO (tn 6 (kb (show (!eqs (⟨#[]⟩) (⟨#[]⟩)) = false from (by rw [show eqs (⟨#[]⟩) (⟨#[]⟩) = true from (by kernel_rfl)]; rfl)) (kb (show (!eqs (⟨#[]⟩) (⟨#[]⟩)) = false from (by rw [show eqs (⟨#[]⟩) (⟨#[]⟩) = true from (by kernel_rfl)]; rfl)) (kb (show (!eqs (⟨#[]⟩) (⟨#[]⟩)) = false from (by rw [show eqs (⟨#[]⟩) (⟨#[]⟩) = true from (by kernel_rfl)]; rfl)) (kb (show (!eqs (⟨#[]⟩) (⟨#[]⟩)) = false from (by rw [show eqs (⟨#[]⟩) (⟨#[]⟩) = true from (by kernel_rfl)]; rfl)) (kb (show (!eqs (⟨#[]⟩) (⟨#[]⟩)) = false from (by rw [show eqs (⟨#[]⟩) (⟨#[]⟩) = true from (by kernel_rfl)]; rfl)) (kb ff (tn 6 z)))))))) ?_
 refine uN (sx 68 [(1, (.ptr 1 0)), (3, (.mp 17)), (19, (jL [])), (20, (jI 0)), (21, (jI 0))] [(17, (.map ([]) ([]))), (1, (.cells 30 [(jS (⟨#[]⟩)), (jL []), (jL [(.agg zl4), (.agg zl5)])]))] []) 60 ?_
 refine gO (tn 1 (kb ff z)) ?_
 refine uO (tn 6 z) ?_
 refine uN (sx 68 [(1, (.ptr 1 0)), (3, (.mp 17)), (36, (jL [(.agg zl4), (.agg zl5)])), (37, (jI 2)), (38, (jI 0))] [(17, (.map ([]) ([]))), (1, (.cells 30 [(jS (⟨#[]⟩)), (jL []), (jL [(.agg zl4), (.agg zl5)])]))] []) 60 ?_
 refine gO (tn 1 (kb tt (ke (el0 (.agg zl4) [(.agg zl5)]) (tn 5 (kc (q28_to hQ) (tn 1 (kb ff (tn 2 (kc (clnA_t (⟨#[118]⟩) (by first | omega | (simp only [ByteArray.size_append]; show _ ≤ _; omega) | (show _ ≤ 1073741824; decide)) (asc_lit (s := ⟨#[118]⟩) (by kernel_rfl))) (tn 1 (kb ff (tn 3 (kl (show mgetT false (vB false) ([]) ([]) (⟨#[110, 97, 109, 101]⟩) = (vB false) from (by kernel_rfl)) (kb ff (tn 4 (kn (wrE (0 + 1) 1 (by omega)) (tn 1 z))))))))))))))))) ?_
 refine uA (sx 68 [(1, (.ptr 1 0)), (3, (.mp 17)), (36, (jL [(.agg zl4), (.agg zl5)])), (37, (jI 2)), (38, (jI 1))] [(17, (.map ([⟨#[110, 97, 109, 101]⟩]) ([(vB true)]))), (1, (.cells 30 [(jS (⟨#[]⟩)), (jL []), (jL [(.agg zl4), (.agg zl5)])]))] []) ?_
 refine gO (tn 1 (kb tt (ke (el1 (.agg zl4) (.agg zl5) []) (tn 5 (kc (q34_to hQ) (tn 1 (kb ff (tn 2 (kc (clnA_t (⟨#[]⟩) (by first | omega | (simp only [ByteArray.size_append]; show _ ≤ _; omega) | (show _ ≤ 1073741824; decide)) (asc_lit (s := ⟨#[]⟩) (by kernel_rfl))) (tn 1 (kb ff (tn 3 (kl (show mgetT false (vB false) ([⟨#[110, 97, 109, 101]⟩]) ([(vB true)]) (⟨#[97, 114, 103, 115]⟩) = (vB false) from (by kernel_rfl)) (kb ff (tn 4 (kn (wrE (1 + 1) 2 (by omega)) (tn 1 z))))))))))))))))) ?_
 refine uA (sx 68 [(1, (.ptr 1 0)), (3, (.mp 17)), (36, (jL [(.agg zl4), (.agg zl5)])), (37, (jI 2)), (38, (jI 2))] [(17, (.map ([⟨#[110, 97, 109, 101]⟩, ⟨#[97, 114, 103, 115]⟩]) ([(vB true), (vB true)]))), (1, (.cells 30 [(jS (⟨#[]⟩)), (jL []), (jL [(.agg zl4), (.agg zl5)])]))] []) ?_
 refine gO (tn 1 (kb ff z)) ?_
 refine uO (tn 5 (kb ff (tn 1 (kb ff (tn 1 (kb ff (tn 1 (kb ff (tn 1 (kb ff (kb ff (tn 1 z)))))))))))) ?_
 exact eN
theorem q14_to {s : ByteArray} (hQ : Qs s) : CallTo Tryz.prog 74 [(.av (.ro (zl6 s) 0))] [] [] (jI 0) [] [] := by
 refine bG Tryz.func74 ?_
 refine gO (tn 7 (kb ff (tn 2 (kb ff (tn 2 (kb ff (tn 2 (kb ff (tn 2 (kb ff (tn 2 (kb ff (tn 2 (kb ff (tn 2 (kb ff (tn 2 (kb tt (kb tt (tn 4 (kc (q15_to hQ) (tn 1 (kb ff (tn 4 (kc (q27_to hQ) (tn 1 z)))))))))))))))))))))))))) ?_
 exact eN
theorem q42_to {s : ByteArray} (hQ : Qs s) : CallTo Tryz.prog 86 [(.av (.agg [(vS (⟨#[]⟩)), (.sl []), (.sl [])]))] [] [] (jB true) [] [] := by
 refine bG Tryz.func86 ?_
 refine gO (tn 6 (kb (show eqs (⟨#[]⟩) (⟨#[]⟩) = true from (by kernel_rfl)) (tn 1 (kb (show eqs (⟨#[]⟩) (⟨#[]⟩) = true from (by kernel_rfl)) (tn 1 (kb (show eqs (⟨#[]⟩) (⟨#[]⟩) = true from (by kernel_rfl)) (tn 1 (kb (show eqs (⟨#[]⟩) (⟨#[]⟩) = true from (by kernel_rfl)) (tn 1 (kb (show eqs (⟨#[]⟩) (⟨#[]⟩) = true from (by kernel_rfl)) (tn 1 (kb tt (tn 1 (kb tt (tn 1 (kb tt (tn 1 (kb tt (tn 1 (kb tt (tn 1 z))))))))))))))))))))) ?_
 exact eN
theorem q41_to {s : ByteArray} (hQ : Qs s) : CallTo Tryz.prog 72 [(.av (.ro (zl2 s) 0))] [] [] (jB true) [] [] := by
 refine bG Tryz.func72 ?_
 refine gO (tn 15 (kb tt (kb tt (tn 3 (kb ff (tn 1 (kb ff (tn 1 (kb ff (tn 1 (kb ff (tn 1 (kb ff (tn 1 (kb ff (tn 1 (kb tt (tn 1 (kb tt (tn 1 (kb ff (tn 1 (kb ff (tn 1 (kb ff (tn 1 (kb ff (tn 1 (kb ff (tn 1 (kb tt (kb ff (kb tt (tn 1 (kb (show eqs (⟨#[]⟩) (⟨#[]⟩) = true from (by kernel_rfl)) (tn 1 (kb (show eqs (⟨#[]⟩) (⟨#[]⟩) = true from (by kernel_rfl)) (tn 1 (kb ff (tn 1 (kb ff (tn 1 (kb ff (tn 1 (kb ff (tn 1 (kb ff (tn 1 (kb (show eqs (⟨#[]⟩) (⟨#[]⟩) = true from (by kernel_rfl)) (kb ff (kb (show eqs (⟨#[]⟩) (⟨#[]⟩) = true from (by kernel_rfl)) (tn 1 (kb (show eqs (⟨#[]⟩) (⟨#[]⟩) = true from (by kernel_rfl)) (tn 1 (kb (show eqs (⟨#[]⟩) (⟨#[]⟩) = true from (by kernel_rfl)) (tn 1 (kb ff (tn 1 (kb ff (tn 1 (kb ff (tn 1 (kb ff (tn 1 (kb ff (tn 1 (kb (show eqs (⟨#[]⟩) (⟨#[]⟩) = true from (by kernel_rfl)) (kb ff (kb (show eqs (⟨#[]⟩) (⟨#[]⟩) = true from (by kernel_rfl)) (tn 1 (kb (show eqs (⟨#[]⟩) (⟨#[]⟩) = true from (by kernel_rfl)) (tn 1 (kb (show eqs (⟨#[]⟩) (⟨#[]⟩) = true from (by kernel_rfl)) (tn 1 (kb ff (tn 1 (kb ff (tn 1 (kb ff (tn 1 (kb ff (tn 1 (kb ff (tn 1 (kb (show eqs (⟨#[]⟩) (⟨#[]⟩) = true from (by kernel_rfl)) (kb ff (kb (show eqs (⟨#[]⟩) (⟨#[]⟩) = true from (by kernel_rfl)) (tn 1 (kb (show eqs (⟨#[]⟩) (⟨#[]⟩) = true from (by kernel_rfl)) (tn 1 (kb (show eqs (⟨#[]⟩) (⟨#[]⟩) = true from (by kernel_rfl)) (tn 1 (kb ff (tn 1 (kb ff (tn 1 (kb ff (tn 1 (kb ff (tn 1 (kb ff (kc (q42_to hQ) (kb (show eqs (⟨#[]⟩) (⟨#[]⟩) = true from (by kernel_rfl)) (kb ff (kb (show eqs (⟨#[]⟩) (⟨#[]⟩) = true from (by kernel_rfl)) (tn 1 (kb tt (tn 1 (kb tt (tn 1 (kb tt (kb tt (kb tt (kb tt (kb tt (kb tt (kb tt (kb tt (kb tt (tn 1 (kb tt (tn 1 (kb tt (tn 1 (kb ff (tn 1 (kb ff (tn 1 (kb ff (tn 1 (kb ff (tn 1 (kb ff (tn 1 (kb ff (tn 1 (kb tt (kb ff (kb tt (tn 1 z)))))))))))))))))))))))))))))))))))))))))))))))))))))))))))))))))))))))))))))))))))))))))))))))))))))))))))))))))))))))))))))))))))))))))))) ?_
 exact eN
theorem q44_to {s : ByteArray} (hQ : Qs s) : CallTo Tryz.prog 87 [(jI 1), (jL [(vI 9), (vI 11), (vI 12)])] [] [] (jB false) [] [] := by
 have ⟨hc, he, hs, hz, hes⟩ := hQ.a
 refine bG Tryz.func87 ?_
 refine gO (tn 4 z) ?_
 refine uN (sx 17 [(0, (jI 1)), (7, (jL [(vI 9), (vI 11), (vI 12)])), (8, (jI 3)), (9, (jI 0))] [] []) 60 ?_
 refine gO (tn 1 (kb tt (ke (el0 (vI 9) [(vI 11), (vI 12)]) (tn 5 (kb ff (kn (wrE (0 + 1) 1 (by omega)) (tn 1 z))))))) ?_
 refine uA (sx 17 [(0, (jI 1)), (7, (jL [(vI 9), (vI 11), (vI 12)])), (8, (jI 3)), (9, (jI 1))] [] []) ?_
 refine gO (tn 1 (kb tt (ke (el1 (vI 9) (vI 11) [(vI 12)]) (tn 5 (kb ff (kn (wrE (1 + 1) 2 (by omega)) (tn 1 z))))))) ?_
 refine uA (sx 17 [(0, (jI 1)), (7, (jL [(vI 9), (vI 11), (vI 12)])), (8, (jI 3)), (9, (jI 2))] [] []) ?_
 refine gO (tn 1 (kb tt (ke (el2 (vI 9) (vI 11) (vI 12) []) (tn 5 (kb ff (kn (wrE (2 + 1) 3 (by omega)) (tn 1 z))))))) ?_
 refine uA (sx 17 [(0, (jI 1)), (7, (jL [(vI 9), (vI 11), (vI 12)])), (8, (jI 3)), (9, (jI 3))] [] []) ?_
 refine gO (tn 1 (kb ff z)) ?_
 refine uO (tn 1 z) ?_
 exact eN
theorem q43_to {s : ByteArray} (hQ : Qs s) : CallTo Tryz.prog 73 [(jI 1), (jI 13)] [] [] (jB true) [] [] := by
 refine bG Tryz.func73 ?_
 refine gO (tn 4 (kb ff (tn 2 (kb ff (tn 2 (kb ff (tn 2 (kb ff (tn 1 (kp (show Uni 1 [(vI 9), (vI 11), (vI 12)] from (by simp [Uni, AV.cells, AV.isTup])) (kc (q44_to hQ) (tn 2 z)))))))))))) ?_
 exact eN
theorem q48_to {s : ByteArray} (hQ : Qs s) : CallTo Tryz.prog 116 [(.av (.ro (zl1 s) 0))] [] [] (jB true) [] [] := by
 refine bG Tryz.func116 ?_
 refine gO (tn 14 (kb tt (kb tt (tn 3 (kb tt (kb tt (kb tt (kb tt (kb tt (kb tt (tn 1 (kb tt (tn 1 (kb tt (tn 1 (kb ff (tn 1 (kb ff (tn 1 (kb ff (tn 1 (kb ff (tn 1 (kb ff (tn 1 (kb tt (kb ff (kb tt (tn 1 (kb (show eqs (⟨#[]⟩) (⟨#[]⟩) = true from (by kernel_rfl)) (tn 1 (kb (show eqs (⟨#[]⟩) (⟨#[]⟩) = true from (by kernel_rfl)) (tn 1 (kb ff (tn 1 (kb ff (tn 1 (kb ff (tn 1 (kb ff (tn 1 (kb ff (tn 1 (kb (show eqs (⟨#[]⟩) (⟨#[]⟩) = true from (by kernel_rfl)) (kb ff (kb (show eqs (⟨#[]⟩) (⟨#[]⟩) = true from (by kernel_rfl)) (tn 1 (kb (show eqs (⟨#[]⟩) (⟨#[]⟩) = true from (by kernel_rfl)) (tn 1 (kb (show eqs (⟨#[]⟩) (⟨#[]⟩) = true from (by kernel_rfl)) (tn 1 (kb ff (tn 1 (kb ff (tn 1 (kb ff (tn 1 (kb ff (tn 1 (kb ff (kc (q42_to hQ) (kb (show eqs (⟨#[]⟩) (⟨#[]⟩) = true from (by kernel_rfl)) (kb ff (kb (show eqs (⟨#[]⟩) (⟨#[]⟩) = true from (by kernel_rfl)) (tn 1 (kb tt (tn 1 (kb tt (tn 1 (kb ff (tn 1 (kb ff (tn 1 (kb ff (tn 1 (kb ff (tn 1 (kb ff (tn 1 (kb ff (tn 1 (kb tt (kb ff (kb tt (tn 1 (kb tt (tn 1 (kb tt (tn 1 (kb ff (tn 1 (kb ff (tn 1 (kb ff (tn 1 (kb ff (tn 1 (kb ff (tn 1 (kb ff (tn 1 (kb tt (kb ff (kb tt (tn 1 (kb tt (tn 1 (kb tt (tn 1 (kb ff (tn 1 (kb ff (tn 1 (kb ff (tn 1 (kb ff (tn 1 (kb ff (tn 1 (kb ff (tn 1 (kb tt (kb ff (kb tt (tn 1 z))))))))))))))))))))))))))))))))))))))))))))))))))))))))))))))))))))))))))))))))))))))))))))))))))))))))))))))))))))))))))))) ?_
 exact eN
theorem q49_to {s : ByteArray} (hQ : Qs s) : CallTo Tryz.prog 87 [(jI 1), (jL [(vI 2), (vI 3)])] [] [] (jB false) [] [] := by
 have ⟨hc, he, hs, hz, hes⟩ := hQ.a
 refine bG Tryz.func87 ?_
 refine gO (tn 4 z) ?_
 refine uN (sx 17 [(0, (jI 1)), (7, (jL [(vI 2), (vI 3)])), (8, (jI 2)), (9, (jI 0))] [] []) 60 ?_
 refine gO (tn 1 (kb tt (ke (el0 (vI 2) [(vI 3)]) (tn 5 (kb ff (kn (wrE (0 + 1) 1 (by omega)) (tn 1 z))))))) ?_
 refine uA (sx 17 [(0, (jI 1)), (7, (jL [(vI 2), (vI 3)])), (8, (jI 2)), (9, (jI 1))] [] []) ?_
 refine gO (tn 1 (kb tt (ke (el1 (vI 2) (vI 3) []) (tn 5 (kb ff (kn (wrE (1 + 1) 2 (by omega)) (tn 1 z))))))) ?_
 refine uA (sx 17 [(0, (jI 1)), (7, (jL [(vI 2), (vI 3)])), (8, (jI 2)), (9, (jI 2))] [] []) ?_
 refine gO (tn 1 (kb ff z)) ?_
 refine uO (tn 1 z) ?_
 exact eN
theorem q50_to {s : ByteArray} (hQ : Qs s) : CallTo Tryz.prog 117 [(.av (.ro (zl1 s) 0)), (jI 0)] [] [] (jI 0) [] [] := by
 have ⟨hc, he, hs, hz, hes⟩ := hQ.a
 refine bG Tryz.func117 ?_
 refine gO (tn 7 (kb tt (kb tt (tn 6 (kb he (tn 1 (kb he (tn 1 (kb he (tn 1 (kb he (tn 1 (kb he (kc (clnT_t s (by first | omega | (simp only [ByteArray.size_append]; show _ ≤ _; omega) | (show _ ≤ 1073741824; decide)) hc) (kb he (tn 1 (kb he (kb ff (tn 6 (kb tt (tn 1 (kb tt (tn 1 (kb tt (tn 1 (kb tt (tn 1 (kb tt (tn 1 (kb tt (tn 1 (kb tt (kb ff (tn 1 z)))))))))))))))))))))))))))))))))) ?_
 exact eN
theorem q51_to {s : ByteArray} (hQ : Qs s) : CallTo Tryz.prog 100 [(jL []), (jI 1)] [] [] (jI 0) [] [] := by
 refine bG Tryz.func100 ?_
 refine gO (tn 4 z) ?_
 refine uN (sx 76 [(0, (jL [])), (1, (jI 1)), (11, (jI 0)), (12, (jI 0))] [] []) 60 ?_
 refine gO (tn 1 (kb ff z)) ?_
 refine uO (tn 1 z) ?_
 exact eN
theorem q47_to {s : ByteArray} (hQ : Qs s) : CallTo Tryz.prog 100 [(jL [(.agg (zl1 s))]), (jI 0)] [] [] (jI 0) [] [] := by
 have ⟨hc, he, hs, hz, hes⟩ := hQ.a
 refine bG Tryz.func100 ?_
 refine gO (tn 4 z) ?_
 refine uN (sx 76 [(0, (jL [(.agg (zl1 s))])), (1, (jI 0)), (11, (jI 1)), (12, (jI 0))] [] []) 60 ?_
 refine gO (tn 1 (kb tt (tn 4 (kb ff (tn 3 (kb ff (tn 2 (ke (el0 (.agg (zl1 s)) []) (tn 2 (kc (q48_to hQ) (tn 1 (kb ff (tn 3 (kb tt (tn 1 (kb tt (tn 1 (kb tt (tn 1 (kb tt (tn 1 (kb tt (tn 1 (kb tt (tn 1 (kb ff (kb ff (kb tt (kb ff (kb tt (tn 1 (kb ff (tn 1 (kb ff (tn 1 (kb ff (tn 1 (kb ff (tn 1 (kb ff (kp (show Uni 1 [(vI 2), (vI 3)] from (by simp [Uni, AV.cells, AV.isTup])) (kb ff (kc (q49_to hQ) (kb ff (tn 1 (kb ff (kb ff (kb ff (kb ff (kb ff (kb ff (kb ff (kb tt (kb ff (kb tt (kb ff (tn 2 (kc (q50_to hQ) (tn 3 (kb ff (tn 5 (kn (wrE (0 + 1) 1 (by omega)) (kc (q51_to hQ) (tn 3 (kb ff (kn (wrE (0 + 1) 1 (by omega)) (tn 1 z))))))))))))))))))))))))))))))))))))))))))))))))))))))))))))))))))) ?_
 refine uA (sx 76 [(0, (jL [(.agg (zl1 s))])), (1, (jI 0)), (11, (jI 1)), (12, (jI 1))] [] []) ?_
 refine gO (tn 1 (kb ff z)) ?_
 refine uO (tn 1 z) ?_
 exact eN
theorem q46_to {s : ByteArray} (hQ : Qs s) : CallTo Tryz.prog 88 [(jL [(.agg (zl1 s))])] [] [] (jI 0) [] [] := by
 refine bG Tryz.func88 ?_
 refine gO (tn 2 (kc (q47_to hQ) (tn 1 z))) ?_
 exact eN
theorem q45_to {s : ByteArray} (hQ : Qs s) : CallTo Tryz.prog 74 [(.av (.ro (zl2 s) 0))] [] [] (jI 0) [] [] := by
 refine bG Tryz.func74 ?_
 refine gO (tn 7 (kb tt (tn 6 (kb ff (tn 4 (kc (q46_to hQ) (tn 1 z))))))) ?_
 exact eN
theorem q52_to {s : ByteArray} (hQ : Qs s) : CallTo Tryz.prog 54 [(jL []), (jI 1), (jI 2)] [] [] (jI 0) [] [] := by
 refine bG Tryz.func54 ?_
 refine gO (tn 4 z) ?_
 refine uN (sx 53 [(0, (jL [])), (1, (jI 1)), (2, (jI 2)), (12, (jI 0)), (13, (jI 0))] [] []) 60 ?_
 refine gO (tn 1 (kb ff z)) ?_
 refine uO (tn 1 z) ?_
 exact eN
theorem q40_to {s : ByteArray} (hQ : Qs s) : CallTo Tryz.prog 54 [(jL [(.agg (zl2 s))]), (jI 13), (jI 1)] [] [] (jI 0) [] [] := by
 have ⟨hc, he, hs, hz, hes⟩ := hQ.a
 refine bG Tryz.func54 ?_
 refine gO (tn 4 z) ?_
 refine uN (sx 53 [(0, (jL [(.agg (zl2 s))])), (1, (jI 13)), (2, (jI 1)), (12, (jI 1)), (13, (jI 0))] [] []) 60 ?_
 refine gO (tn 1 (kb tt (tn 4 (kb ff (tn 2 (ke (el0 (.agg (zl2 s)) []) (tn 2 (kc (q41_to hQ) (tn 2 (kb ff (tn 1 (kb ff (tn 1 (kb ff (tn 1 (kb ff (tn 1 (kb ff (tn 1 (kb ff (kc (q43_to hQ) (kb ff (tn 1 (kb ff (kb ff (tn 1 (kc (q45_to hQ) (tn 3 (kb ff z))))))))))))))))))))))))))))) ?_
 have d1 := wrE (1 + 1) 2 (by omega)
 have d2 := (q52_to hQ)
 refine DR3 (tn 9 (ko (nO d1) (kp d1 (ko (cO d2) (kp d2 (tn 4 (kb ff (kn (wrE (0 + 1) 1 (by omega)) (tn 1 z))))))))) (by kernel_rfl) (by kernel_rfl) (by kernel_rfl) ?_
 refine uA (sx 53 [(0, (jL [(.agg (zl2 s))])), (1, (jI 13)), (2, (jI 1)), (10, (jI 0)), (12, (jI 1)), (13, (jI 1)), (38, (.av (.ro (zl2 s) 0))), (39, (.av (.ro (zl2 s) 0))), (40, (.av (.ro (zl2 s) 10))), (41, (jL [])), (42, (.av (.ro (zl2 s) 0))), (43, (.av (.ro (zl2 s) 0))), (44, (.av (.ro (zl2 s) 0))), (45, (jI 1)), (46, (jI 1)), (47, (jI 2)), (48, (jI 0))] [] []) ?_
 refine gO (tn 1 (kb ff z)) ?_
 refine uO (tn 1 z) ?_
 exact eN
theorem q53_to {s : ByteArray} (hQ : Qs s) : CallTo Tryz.prog 72 [(.av (.ro zl7 0))] [] [] (jB true) [] [] := by
 refine bG Tryz.func72 ?_
 refine gO (tn 15 (kb tt (kb tt (tn 3 (kb ff (tn 1 (kb ff (tn 1 (kb ff (tn 1 (kb ff (tn 1 (kb ff (tn 1 (kb ff (tn 1 (kb tt (tn 1 (kb tt (tn 1 (kb ff (tn 1 (kb ff (tn 1 (kb ff (tn 1 (kb ff (tn 1 (kb ff (tn 1 (kb tt (kb ff (kb tt (tn 1 (kb (show eqs (⟨#[]⟩) (⟨#[]⟩) = true from (by kernel_rfl)) (tn 1 (kb (show eqs (⟨#[]⟩) (⟨#[]⟩) = true from (by kernel_rfl)) (tn 1 (kb ff (tn 1 (kb ff (tn 1 (kb ff (tn 1 (kb ff (tn 1 (kb ff (tn 1 (kb (show eqs (⟨#[]⟩) (⟨#[]⟩) = true from (by kernel_rfl)) (kb ff (kb (show eqs (⟨#[]⟩) (⟨#[]⟩) = true from (by kernel_rfl)) (tn 1 (kb (show eqs (⟨#[]⟩) (⟨#[]⟩) = true from (by kernel_rfl)) (tn 1 (kb (show eqs (⟨#[]⟩) (⟨#[]⟩) = true from (by kernel_rfl)) (tn 1 (kb ff (tn 1 (kb ff (tn 1 (kb ff (tn 1 (kb ff (tn 1 (kb ff (tn 1 (kb (show eqs (⟨#[]⟩) (⟨#[]⟩) = true from (by kernel_rfl)) (kb ff (kb (show eqs (⟨#[]⟩) (⟨#[]⟩) = true from (by kernel_rfl)) (tn 1 (kb (show eqs (⟨#[]⟩) (⟨#[]⟩) = true from (by kernel_rfl)) (tn 1 (kb (show eqs (⟨#[]⟩) (⟨#[]⟩) = true from (by kernel_rfl)) (tn 1 (kb ff (tn 1 (kb ff (tn 1 (kb ff (tn 1 (kb ff (tn 1 (kb ff (tn 1 (kb (show eqs (⟨#[]⟩) (⟨#[]⟩) = true from (by kernel_rfl)) (kb ff (kb (show eqs (⟨#[]⟩) (⟨#[]⟩) = true from (by kernel_rfl)) (tn 1 (kb (show eqs (⟨#[]⟩) (⟨#[]⟩) = true from (by kernel_rfl)) (tn 1 (kb (show eqs (⟨#[]⟩) (⟨#[]⟩) = true from (by kernel_rfl)) (tn 1 (kb ff (tn 1 (kb ff (tn 1 (kb ff (tn 1 (kb ff (tn 1 (kb ff (kc (q42_to hQ) (kb (show eqs (⟨#[]⟩) (⟨#[]⟩) = true from (by kernel_rfl)) (kb ff (kb (show eqs (⟨#[]⟩) (⟨#[]⟩) = true from (by kernel_rfl)) (tn 1 (kb tt (tn 1 (kb tt (tn 1 (kb tt (kb tt (kb tt (kb tt (kb tt (kb tt (kb tt (kb tt (kb tt (tn 1 (kb tt (tn 1 (kb tt (tn 1 (kb ff (tn 1 (kb ff (tn 1 (kb ff (tn 1 (kb ff (tn 1 (kb ff (tn 1 (kb ff (tn 1 (kb tt (kb ff (kb tt (tn 1 z)))))))))))))))))))))))))))))))))))))))))))))))))))))))))))))))))))))))))))))))))))))))))))))))))))))))))))))))))))))))))))))))))))))))))))) ?_
 exact eN
theorem q54_to {s : ByteArray} (hQ : Qs s) : CallTo Tryz.prog 73 [(jI 1), (jI 0)] [] [] (jB true) [] [] := by
 refine bG Tryz.func73 ?_
 refine gO (tn 4 (kb ff (tn 2 (kb ff (tn 2 (kb ff (tn 2 (kb ff (tn 1 (kp (show Uni 1 [(vI 9), (vI 11), (vI 12)] from (by simp [Uni, AV.cells, AV.isTup])) (kc (q44_to hQ) (tn 2 z)))))))))))) ?_
 exact eN
theorem q58_to {s : ByteArray} (hQ : Qs s) : CallTo Tryz.prog 116 [(.av (.ro zl3 0))] [] [] (jB true) [] [] := by
 refine bG Tryz.func116 ?_
 refine gO (tn 14 (kb ff (tn 2 (kb ff (tn 2 (kb ff (tn 2 (kb ff (tn 2 (kb ff (tn 2 (kb ff (tn 2 (kb ff (tn 2 (kb ff (tn 2 (kb ff (tn 2 (kb ff (tn 2 (kb ff (tn 2 (kb ff (tn 2 (kb ff (tn 2 (kb ff (tn 2 (kb tt (tn 4 (kb tt (kb tt (kb tt (kb tt (kb tt (kb tt (tn 1 (kb tt (tn 1 (kb tt (tn 1 (kb ff (tn 1 (kb ff (tn 1 (kb ff (tn 1 (kb ff (tn 1 (kb ff (tn 1 (kb tt (kb ff (kb tt (tn 1 (kb (show eqs (⟨#[]⟩) (⟨#[]⟩) = true from (by kernel_rfl)) (tn 1 (kb (show eqs (⟨#[]⟩) (⟨#[]⟩) = true from (by kernel_rfl)) (tn 1 (kb ff (tn 1 (kb ff (tn 1 (kb ff (tn 1 (kb ff (tn 1 (kb ff (tn 1 (kb (show eqs (⟨#[]⟩) (⟨#[]⟩) = true from (by kernel_rfl)) (kb ff (kb (show eqs (⟨#[]⟩) (⟨#[]⟩) = true from (by kernel_rfl)) (tn 1 (kb (show eqs (⟨#[]⟩) (⟨#[]⟩) = true from (by kernel_rfl)) (tn 1 (kb (show eqs (⟨#[]⟩) (⟨#[]⟩) = true from (by kernel_rfl)) (tn 1 (kb ff (tn 1 (kb ff (tn 1 (kb ff (tn 1 (kb ff (tn 1 (kb ff (kc (q42_to hQ) (kb (show eqs (⟨#[]⟩) (⟨#[]⟩) = true from (by kernel_rfl)) (kb ff (kb (show eqs (⟨#[]⟩) (⟨#[]⟩) = true from (by kernel_rfl)) (tn 1 (kb tt (tn 1 (kb tt (tn 1 (kb tt (kb tt (kb tt (kb tt (kb tt (kb tt (kb tt (kb tt (kb tt (tn 1 (kb tt (tn 1 (kb tt (tn 1 (kb ff (tn 1 (kb ff (tn 1 (kb ff (tn 1 (kb ff (tn 1 (kb ff (tn 1 (kb ff (tn 1 (kb tt (kb ff (kb tt (tn 1 (kb tt (tn 1 (kb tt (tn 1 (kb ff (tn 1 (kb ff (tn 1 (kb ff (tn 1 (kb ff (tn 1 (kb ff (tn 1 (kb ff (tn 1 (kb tt (kb ff (kb tt (tn 1 z)))))))))))))))))))))))))))))))))))))))))))))))))))))))))))))))))))))))))))))))))))))))))))))))))))))))))))))))))))))))))))))))))))))))))))))))))) ?_
 exact eN
theorem q59_to {s : ByteArray} (hQ : Qs s) : CallTo Tryz.prog 87 [(jI 15), (jL [(vI 2), (vI 3)])] [] [] (jB false) [] [] := by
 have ⟨hc, he, hs, hz, hes⟩ := hQ.a
 refine bG Tryz.func87 ?_
 refine gO (tn 4 z) ?_
 refine uN (sx 17 [(0, (jI 15)), (7, (jL [(vI 2), (vI 3)])), (8, (jI 2)), (9, (jI 0))] [] []) 60 ?_
 refine gO (tn 1 (kb tt (ke (el0 (vI 2) [(vI 3)]) (tn 5 (kb ff (kn (wrE (0 + 1) 1 (by omega)) (tn 1 z))))))) ?_
 refine uA (sx 17 [(0, (jI 15)), (7, (jL [(vI 2), (vI 3)])), (8, (jI 2)), (9, (jI 1))] [] []) ?_
 refine gO (tn 1 (kb tt (ke (el1 (vI 2) (vI 3) []) (tn 5 (kb ff (kn (wrE (1 + 1) 2 (by omega)) (tn 1 z))))))) ?_
 refine uA (sx 17 [(0, (jI 15)), (7, (jL [(vI 2), (vI 3)])), (8, (jI 2)), (9, (jI 2))] [] []) ?_
 refine gO (tn 1 (kb ff z)) ?_
 refine uO (tn 1 z) ?_
 exact eN
theorem q63_to {s : ByteArray} (hQ : Qs s) : CallTo Tryz.prog 50 [(.av (.val (.int .u8 118)))] [] [] (jB true) [] [] := by
 refine bG Tryz.func50 ?_
 refine gO (tn 4 (kb tt (tn 1 (kb tt (tn 1 (kb tt (tn 1 (kb tt (kb tt (kb tt (kb tt (kb tt (tn 1 z))))))))))))) ?_
 exact eN
theorem q65_to {s : ByteArray} (hQ : Qs s) : CallTo Tryz.prog 68 [(.av (.val (.int .u8 118)))] [] [] (jB true) [] [] := by
 refine bG Tryz.func68 ?_
 refine gO (tn 4 (kb ff (tn 2 (kb ff (tn 2 (kb ff (tn 2 (kb ff (tn 1 (kc (q63_to hQ) (tn 1 (kb tt (kb tt (kb tt (kb tt (kb tt (tn 1 z))))))))))))))))) ?_
 exact eN
theorem q64_to {s : ByteArray} (hQ : Qs s) : CallTo Tryz.prog 51 [(jS (⟨#[118]⟩)), (jI 0)] [] [] (jI 1) [] [] := by
 have ⟨hc, he, hs, hz, hes⟩ := hQ.a
 refine bG Tryz.func51 ?_
 refine gO (tn 1 z) ?_
 refine uN (sx 18 [(0, (jS (⟨#[118]⟩))), (1, (jI 0))] [] []) 60 ?_
 refine gO (tn 5 (kb tt (tn 1 (kb tt (tn 1 (kb tt (kp (ib (⟨#[118]⟩) 0 (by decide)) (kb tt (kc (q65_to hQ) (kb tt (kb tt (tn 1 (kn (wrE (0 + 1) 1 (by omega)) (tn 1 z)))))))))))))) ?_
 refine uA (sx 18 [(0, (jS (⟨#[118]⟩))), (1, (jI 1))] [] []) ?_
 refine gO (tn 5 (kb ff (kb ff (kb ff (kb ff (kb ff (kb ff z))))))) ?_
 refine uO (tn 2 z) ?_
 exact eN
theorem q62_to {s : ByteArray} (hQ : Qs s) : CallTo Tryz.prog 29 [(jS (⟨#[118]⟩))] [] [] (jB true) [] [] := by
 refine bG Tryz.func29 ?_
 refine gO (tn 5 (kb ff (tn 1 (kb ff (tn 1 (kb ff (tn 1 (kb ff (tn 1 (kb ff (tn 1 (kb ff (kp (ib (⟨#[118]⟩) 0 (by decide)) (kb ff (kc (q63_to hQ) (kb ff (tn 1 (kb ff (kb ff (tn 1 (kc (q64_to hQ) (tn 4 z)))))))))))))))))))))) ?_
 exact eN
theorem q61_to {s : ByteArray} (hQ : Qs s) : CallTo Tryz.prog 146 [(.av (.ro zl3 0))] [] [] (jI 0) [] [] := by
 refine bG Tryz.func146 ?_
 refine gO (tn 5 (kc (q62_to hQ) (tn 1 (kb ff (tn 6 (kb ff (kb ff (kb ff (kb ff (kb ff (kb ff (tn 1 (kb ff (kb ff (kb ff (kb ff (kb ff (kb ff (kb ff (tn 6 (kb tt (tn 1 (kb tt (tn 1 (kb tt (tn 1 (kb tt (tn 1 (kb tt (tn 1 (kb tt (tn 1 (kb tt (kb ff (tn 6 z))))))))))))))))))))))))))))))))))) ?_
 refine uN (sx 60 [(46, (jL [])), (47, (jI 0)), (48, (jI 0))] [] []) 60 ?_
 refine gO (tn 1 (kb ff z)) ?_
 refine uO (tn 1 z) ?_
 exact eN
theorem q60_to {s : ByteArray} (hQ : Qs s) : CallTo Tryz.prog 117 [(.av (.ro zl3 0)), (jI 0)] [] [] (jI 0) [] [] := by
 refine bG Tryz.func117 ?_
 refine gO (tn 7 (kb ff (tn 2 (kb ff (tn 2 (kb ff (tn 2 (kb ff (tn 2 (kb ff (tn 2 (kb ff (tn 2 (kb ff (tn 2 (kb ff (tn 2 (kb ff (tn 2 (kb ff (tn 2 (kb ff (tn 2 (kb ff (tn 2 (kb tt (tn 1 (kc (q61_to hQ) (tn 1 z))))))))))))))))))))))))))))) ?_
 exact eN
theorem q57_to {s : ByteArray} (hQ : Qs s) : CallTo Tryz.prog 100 [(jL [(.agg zl3)]), (jI 0)] [] [] (jI 0) [] [] := by
 have ⟨hc, he, hs, hz, hes⟩ := hQ.a
 refine bG Tryz.func100 ?_
 refine gO (tn 4 z) ?_
 refine uN (sx 76 [(0, (jL [(.agg zl3)])), (1, (jI 0)), (11, (jI 1)), (12, (jI 0))] [] []) 60 ?_
 refine gO (tn 1 (kb tt (tn 4 (kb ff (tn 3 (kb ff (tn 2 (ke (el0 (.agg zl3) []) (tn 2 (kc (q58_to hQ) (tn 1 (kb ff (tn 3 (kb tt (tn 1 (kb tt (tn 1 (kb tt (tn 1 (kb tt (tn 1 (kb tt (tn 1 (kb tt (tn 1 (kb ff (kb ff (kb tt (kb ff (kb tt (tn 1 (kb ff (tn 1 (kb ff (tn 1 (kb ff (tn 1 (kb ff (tn 1 (kb ff (kp (show Uni 1 [(vI 2), (vI 3)] from (by simp [Uni, AV.cells, AV.isTup])) (kb ff (kc (q59_to hQ) (kb ff (tn 1 (kb ff (kb ff (kb ff (kb ff (kb ff (kb ff (kb ff (kb tt (kb ff (kb tt (kb ff (tn 2 (kc (q60_to hQ) (tn 3 (kb ff (tn 5 (kn (wrE (0 + 1) 1 (by omega)) (kc (q51_to hQ) (tn 3 (kb ff (kn (wrE (0 + 1) 1 (by omega)) (tn 1 z))))))))))))))))))))))))))))))))))))))))))))))))))))))))))))))))))) ?_
 refine uA (sx 76 [(0, (jL [(.agg zl3)])), (1, (jI 0)), (11, (jI 1)), (12, (jI 1))] [] []) ?_
 refine gO (tn 1 (kb ff z)) ?_
 refine uO (tn 1 z) ?_
 exact eN
theorem q56_to {s : ByteArray} (hQ : Qs s) : CallTo Tryz.prog 88 [(jL [(.agg zl3)])] [] [] (jI 0) [] [] := by
 refine bG Tryz.func88 ?_
 refine gO (tn 2 (kc (q57_to hQ) (tn 1 z))) ?_
 exact eN
theorem q55_to {s : ByteArray} (hQ : Qs s) : CallTo Tryz.prog 74 [(.av (.ro zl7 0))] [] [] (jI 0) [] [] := by
 refine bG Tryz.func74 ?_
 refine gO (tn 7 (kb tt (tn 6 (kb ff (tn 4 (kc (q56_to hQ) (tn 1 z))))))) ?_
 exact eN
theorem q66_to {s : ByteArray} (hQ : Qs s) : CallTo Tryz.prog 54 [(jL []), (jI 1), (jI 1)] [] [] (jI 0) [] [] := by
 refine bG Tryz.func54 ?_
 refine gO (tn 4 z) ?_
 refine uN (sx 53 [(0, (jL [])), (1, (jI 1)), (2, (jI 1)), (12, (jI 0)), (13, (jI 0))] [] []) 60 ?_
 refine gO (tn 1 (kb ff z)) ?_
 refine uO (tn 1 z) ?_
 exact eN
theorem q10_to {s : ByteArray} (hQ : Qs s) : CallTo Tryz.prog 54 [(jL [(.agg (zl6 s)), (.agg zl7)]), (jI 0), (jI 0)] [] [] (jI 0) [] [] := by
 have ⟨hc, he, hs, hz, hes⟩ := hQ.a
 refine bG Tryz.func54 ?_
 refine gO (tn 4 z) ?_
 refine uN (sx 53 [(0, (jL [(.agg (zl6 s)), (.agg zl7)])), (1, (jI 0)), (2, (jI 0)), (12, (jI 2)), (13, (jI 0))] [] []) 60 ?_
 refine gO (tn 1 (kb tt (tn 4 (kb ff (tn 2 (ke (el0 (.agg (zl6 s)) [(.agg zl7)]) (tn 2 (kc (q11_to hQ) (tn 2 (kb ff (tn 1 (kb ff (tn 1 (kb ff (tn 1 (kb ff (tn 1 (kb ff (tn 1 (kb ff (kc (q12_to hQ) (kb ff (tn 1 (kb ff (kb ff (tn 1 (kc (q14_to hQ) (tn 3 (kb ff z))))))))))))))))))))))))))))) ?_
 have d1 := wrE (0 + 1) 1 (by omega)
 have d2 := (q40_to hQ)
 refine DR3 (tn 9 (ko (nO d1) (kp d1 (ko (cO d2) (kp d2 (tn 4 (kb ff (kn (wrE (0 + 1) 1 (by omega)) (tn 1 z))))))))) (by kernel_rfl) (by kernel_rfl) (by kernel_rfl) ?_
 refine uA (sx 53 [(0, (jL [(.agg (zl6 s)), (.agg zl7)])), (1, (jI 0)), (2, (jI 0)), (10, (jI 0)), (12, (jI 2)), (13, (jI 1)), (38, (.av (.ro (zl6 s) 0))), (39, (.av (.ro (zl6 s) 0))), (40, (.av (.ro (zl6 s) 10))), (41, (jL [(.agg (zl2 s))])), (42, (.av (.ro (zl6 s) 0))), (43, (.av (.ro (zl6 s) 0))), (44, (.av (.ro (zl6 s) 0))), (45, (jI 13)), (46, (jI 0)), (47, (jI 1)), (48, (jI 0))] [] []) ?_
 refine gO (tn 1 (kb tt (tn 4 (kb ff (tn 2 (ke (el1 (.agg (zl6 s)) (.agg zl7) []) (tn 2 (kc (q53_to hQ) (tn 2 (kb ff (tn 1 (kb ff (tn 1 (kb ff (tn 1 (kb ff (tn 1 (kb ff (tn 1 (kb ff (kc (q54_to hQ) (kb ff (tn 1 (kb ff (kb ff (tn 1 (kc (q55_to hQ) (tn 3 (kb ff z))))))))))))))))))))))))))))) ?_
 have d3 := wrE (0 + 1) 1 (by omega)
 have d4 := (q66_to hQ)
 refine DR3 (tn 9 (ko (nO d3) (kp d3 (ko (cO d4) (kp d4 (tn 4 (kb ff (kn (wrE (1 + 1) 2 (by omega)) (tn 1 z))))))))) (by kernel_rfl) (by kernel_rfl) (by kernel_rfl) ?_
 refine uA (sx 53 [(0, (jL [(.agg (zl6 s)), (.agg zl7)])), (1, (jI 0)), (2, (jI 0)), (10, (jI 0)), (12, (jI 2)), (13, (jI 2)), (38, (.av (.ro zl7 0))), (39, (.av (.ro zl7 0))), (40, (.av (.ro zl7 10))), (41, (jL [])), (42, (.av (.ro zl7 0))), (43, (.av (.ro zl7 0))), (44, (.av (.ro zl7 0))), (45, (jI 1)), (46, (jI 0)), (47, (jI 1)), (48, (jI 0))] [] []) ?_
 refine gO (tn 1 (kb ff z)) ?_
 refine uO (tn 1 z) ?_
 exact eN
theorem q9_to {s : ByteArray} (hQ : Qs s) : CallTo Tryz.prog 32 [(jL [(.agg (zl6 s)), (.agg zl7)])] [] [] (jI 0) [] [] := by
 refine bG Tryz.func32 ?_
 refine gO (tn 2 (kc (q10_to hQ) (tn 1 z))) ?_
 exact eN
theorem q1_to {s : ByteArray} (hQ : Qs s) : CallTo Tryz.prog 16 [(.av (.agg (zl8 s)))] [] [] (jI 0) [] [] := by
 refine bG Tryz.func16 ?_
 refine gO (tn 3 (kc (q2_to hQ) (tn 2 (kb ff (tn 1 (kb ff (tn 1 (kb ff (tn 1 (kb ff (tn 1 (kb ff (kb ff (tn 6 z)))))))))))))) ?_
 refine uN (sx 48 [(1, (.ptr 1 0)), (3, (.mp 15)), (17, (jL [])), (18, (jI 0)), (19, (jI 0))] [(15, (.map ([]) ([]))), (1, (.cells 42 [(jL []), (jL [(.agg (zl6 s)), (.agg zl7)])]))] []) 60 ?_
 refine gO (tn 1 (kb ff z)) ?_
 refine uO (tn 2 (kc (q9_to hQ) (tn 1 z))) ?_
 exact eN
theorem q69_to {s : ByteArray} (hQ : Qs s) : CallTo Tryz.prog 40 [(jL [(.agg zl7)])] [] [] (jI 2) [] [] := by
 have ⟨hc, he, hs, hz, hes⟩ := hQ.a
 refine bG Tryz.func40 ?_
 refine gO (tn 7 z) ?_
 refine uN (sx 29 [(0, (jL [(.agg zl7)])), (3, (jI 1)), (8, (jI 1)), (9, (jI 0))] [] []) 60 ?_
 refine gO (tn 1 (kb tt (tn 2 z))) ?_
 have d1 := (el0 (.agg zl7) [])
 have d2 := (q8_to hQ)
 have d3 := (el0 (.agg zl7) [])
 have d4 := (q7_to hQ)
 have d5 := wrE (1 + 0) 1 (by omega)
 have d6 := wrE (1 + 1) 2 (by omega)
 refine DR3 (tn 3 (ko (eO d1) (kp d1 (tn 2 (ko (cO d2) (kp d2 (tn 3 (ko (eO d3) (kp d3 (tn 2 (ko (cO d4) (kp d4 (tn 1 (ko (nO d5) (kp d5 (ko (nO d6) (kp d6 (tn 1 (kn (wrE (0 + 1) 1 (by omega)) (tn 1 z)))))))))))))))))))) (by kernel_rfl) (by kernel_rfl) (by kernel_rfl) ?_
 refine uA (sx 29 [(0, (jL [(.agg zl7)])), (3, (jI 2)), (8, (jI 1)), (9, (jI 1)), (12, (jI 1)), (13, (jL [(.agg zl7)])), (14, (jI 0)), (15, (.av (.ro zl7 0))), (16, (.av (.ro zl7 9))), (17, (jL [(.agg zl3)])), (18, (jI 1)), (19, (jL [(.agg zl7)])), (20, (jI 0)), (21, (.av (.ro zl7 0))), (22, (.av (.ro zl7 10))), (23, (jL [])), (24, (jI 0)), (25, (jI 1)), (26, (jI 2))] [] []) ?_
 refine gO (tn 1 (kb ff z)) ?_
 refine uO (tn 2 z) ?_
 exact eN
theorem q68_to {s : ByteArray} (hQ : Qs s) : CallTo Tryz.prog 19 [(.av (.agg [(.sl []), (.sl [(.agg zl7)])]))] [] [] (jI 2) [] [] := by
 refine bG Tryz.func19 ?_
 refine gO (tn 4 (kc (q69_to hQ) (tn 1 z))) ?_
 exact eN
theorem q71_to {s : ByteArray} (hQ : Qs s) : CallTo Tryz.prog 54 [(jL [(.agg zl7)]), (jI 0), (jI 0)] [] [] (jI 0) [] [] := by
 have ⟨hc, he, hs, hz, hes⟩ := hQ.a
 refine bG Tryz.func54 ?_
 refine gO (tn 4 z) ?_
 refine uN (sx 53 [(0, (jL [(.agg zl7)])), (1, (jI 0)), (2, (jI 0)), (12, (jI 1)), (13, (jI 0))] [] []) 60 ?_
 refine gO (tn 1 (kb tt (tn 4 (kb ff (tn 2 (ke (el0 (.agg zl7) []) (tn 2 (kc (q53_to hQ) (tn 2 (kb ff (tn 1 (kb ff (tn 1 (kb ff (tn 1 (kb ff (tn 1 (kb ff (tn 1 (kb ff (kc (q54_to hQ) (kb ff (tn 1 (kb ff (kb ff (tn 1 (kc (q55_to hQ) (tn 3 (kb ff z))))))))))))))))))))))))))))) ?_
 have d1 := wrE (0 + 1) 1 (by omega)
 have d2 := (q66_to hQ)
 refine DR3 (tn 9 (ko (nO d1) (kp d1 (ko (cO d2) (kp d2 (tn 4 (kb ff (kn (wrE (0 + 1) 1 (by omega)) (tn 1 z))))))))) (by kernel_rfl) (by kernel_rfl) (by kernel_rfl) ?_
 refine uA (sx 53 [(0, (jL [(.agg zl7)])), (1, (jI 0)), (2, (jI 0)), (10, (jI 0)), (12, (jI 1)), (13, (jI 1)), (38, (.av (.ro zl7 0))), (39, (.av (.ro zl7 0))), (40, (.av (.ro zl7 10))), (41, (jL [])), (42, (.av (.ro zl7 0))), (43, (.av (.ro zl7 0))), (44, (.av (.ro zl7 0))), (45, (jI 1)), (46, (jI 0)), (47, (jI 1)), (48, (jI 0))] [] []) ?_
 refine gO (tn 1 (kb ff z)) ?_
 refine uO (tn 1 z) ?_
 exact eN
theorem q70_to {s : ByteArray} (hQ : Qs s) : CallTo Tryz.prog 32 [(jL [(.agg zl7)])] [] [] (jI 0) [] [] := by
 refine bG Tryz.func32 ?_
 refine gO (tn 2 (kc (q71_to hQ) (tn 1 z))) ?_
 exact eN
theorem q67_to {s : ByteArray} (hQ : Qs s) : CallTo Tryz.prog 16 [(.av (.agg [(.sl []), (.sl [(.agg zl7)])]))] [] [] (jI 0) [] [] := by
 refine bG Tryz.func16 ?_
 refine gO (tn 3 (kc (q68_to hQ) (tn 2 (kb ff (tn 1 (kb ff (tn 1 (kb ff (tn 1 (kb ff (tn 1 (kb ff (kb ff (tn 6 z)))))))))))))) ?_
 refine uN (sx 48 [(1, (.ptr 1 0)), (3, (.mp 15)), (17, (jL [])), (18, (jI 0)), (19, (jI 0))] [(15, (.map ([]) ([]))), (1, (.cells 42 [(jL []), (jL [(.agg zl7)])]))] []) 60 ?_
 refine gO (tn 1 (kb ff z)) ?_
 refine uO (tn 2 (kc (q70_to hQ) (tn 1 z))) ?_
 exact eN
theorem q75_to {s : ByteArray} (hQ : Qs s) : CallTo Tryz.prog 62 [(jL [(.agg zl3), (.agg zl10)])] [] [] (jI 2) [] [] := by
 have ⟨hc, he, hs, hz, hes⟩ := hQ.a
 refine bG Tryz.func62 ?_
 refine gO (tn 7 z) ?_
 refine uN (sx 22 [(0, (jL [(.agg zl3), (.agg zl10)])), (3, (jI 2)), (8, (jI 2)), (9, (jI 0))] [] []) 60 ?_
 refine gO (tn 1 (kb tt (tn 5 (ke (el0 (.agg zl3) [(.agg zl10)]) (tn 2 (kc (q4_to hQ) (kn (wrE (2 + 0) 2 (by omega)) (tn 1 (kn (wrE (0 + 1) 1 (by omega)) (tn 1 z)))))))))) ?_
 refine uA (sx 22 [(0, (jL [(.agg zl3), (.agg zl10)])), (3, (jI 2)), (8, (jI 2)), (9, (jI 1))] [] []) ?_
 refine gO (tn 1 (kb tt (tn 5 (ke (el1 (.agg zl3) (.agg zl10) []) (tn 2 (kc (q4_to hQ) (kn (wrE (2 + 0) 2 (by omega)) (tn 1 (kn (wrE (1 + 1) 2 (by omega)) (tn 1 z)))))))))) ?_
 refine uA (sx 22 [(0, (jL [(.agg zl3), (.agg zl10)])), (3, (jI 2)), (8, (jI 2)), (9, (jI 2))] [] []) ?_
 refine gO (tn 1 (kb ff z)) ?_
 refine uO (tn 2 z) ?_
 exact eN
theorem q74_to {s : ByteArray} (hQ : Qs s) : CallTo Tryz.prog 40 [(jL [(.agg (zl6 s)), (.agg zl11)])] [] [] (jI 6) [] [] := by
 have ⟨hc, he, hs, hz, hes⟩ := hQ.a
 refine bG Tryz.func40 ?_
 refine gO (tn 7 z) ?_
 refine uN (sx 29 [(0, (jL [(.agg (zl6 s)), (.agg zl11)])), (3, (jI 2)), (8, (jI 2)), (9, (jI 0))] [] []) 60 ?_
 refine gO (tn 1 (kb tt (tn 2 z))) ?_
 have d1 := (el0 (.agg (zl6 s)) [(.agg zl11)])
 have d2 := (q4_to hQ)
 have d3 := (el0 (.agg (zl6 s)) [(.agg zl11)])
 have d4 := (q5_to hQ)
 have d5 := wrE (0 + 2) 2 (by omega)
 have d6 := wrE (2 + 2) 4 (by omega)
 refine DR3 (tn 3 (ko (eO d1) (kp d1 (tn 2 (ko (cO d2) (kp d2 (tn 3 (ko (eO d3) (kp d3 (tn 2 (ko (cO d4) (kp d4 (tn 1 (ko (nO d5) (kp d5 (ko (nO d6) (kp d6 (tn 1 (kn (wrE (0 + 1) 1 (by omega)) (tn 1 z)))))))))))))))))))) (by kernel_rfl) (by kernel_rfl) (by kernel_rfl) ?_
 refine uA (sx 29 [(0, (jL [(.agg (zl6 s)), (.agg zl11)])), (3, (jI 4)), (8, (jI 2)), (9, (jI 1)), (12, (jI 2)), (13, (jL [(.agg (zl6 s)), (.agg zl11)])), (14, (jI 0)), (15, (.av (.ro (zl6 s) 0))), (16, (.av (.ro (zl6 s) 9))), (17, (jL [])), (18, (jI 0)), (19, (jL [(.agg (zl6 s)), (.agg zl11)])), (20, (jI 0)), (21, (.av (.ro (zl6 s) 0))), (22, (.av (.ro (zl6 s) 10))), (23, (jL [(.agg (zl2 s))])), (24, (jI 2)), (25, (jI 2)), (26, (jI 4))] [] []) ?_
 refine gO (tn 1 (kb tt (tn 2 z))) ?_
 have d7 := (el1 (.agg (zl6 s)) (.agg zl11) [])
 have d8 := (q75_to hQ)
 have d9 := (el1 (.agg (zl6 s)) (.agg zl11) [])
 have d10 := (q7_to hQ)
 have d11 := wrE (2 + 0) 2 (by omega)
 have d12 := wrE (4 + 2) 6 (by omega)
 refine DR3 (tn 3 (ko (eO d7) (kp d7 (tn 2 (ko (cO d8) (kp d8 (tn 3 (ko (eO d9) (kp d9 (tn 2 (ko (cO d10) (kp d10 (tn 1 (ko (nO d11) (kp d11 (ko (nO d12) (kp d12 (tn 1 (kn (wrE (1 + 1) 2 (by omega)) (tn 1 z)))))))))))))))))))) (by kernel_rfl) (by kernel_rfl) (by kernel_rfl) ?_
 refine uA (sx 29 [(0, (jL [(.agg (zl6 s)), (.agg zl11)])), (3, (jI 6)), (8, (jI 2)), (9, (jI 2)), (12, (jI 4)), (13, (jL [(.agg (zl6 s)), (.agg zl11)])), (14, (jI 1)), (15, (.av (.ro zl11 0))), (16, (.av (.ro zl11 9))), (17, (jL [(.agg zl3), (.agg zl10)])), (18, (jI 2)), (19, (jL [(.agg (zl6 s)), (.agg zl11)])), (20, (jI 1)), (21, (.av (.ro zl11 0))), (22, (.av (.ro zl11 10))), (23, (jL [])), (24, (jI 0)), (25, (jI 2)), (26, (jI 6))] [] []) ?_
 refine gO (tn 1 (kb ff z)) ?_
 refine uO (tn 2 z) ?_
 exact eN
theorem q73_to {s : ByteArray} (hQ : Qs s) : CallTo Tryz.prog 19 [(.av (.agg (zl12 s)))] [] [] (jI 6) [] [] := by
 refine bG Tryz.func19 ?_
 refine gO (tn 4 (kc (q74_to hQ) (tn 1 z))) ?_
 exact eN
theorem q78_to {s : ByteArray} (hQ : Qs s) : CallTo Tryz.prog 72 [(.av (.ro zl11 0))] [] [] (jB true) [] [] := by
 refine bG Tryz.func72 ?_
 refine gO (tn 15 (kb tt (kb tt (tn 3 (kb ff (tn 1 (kb ff (tn 1 (kb ff (tn 1 (kb ff (tn 1 (kb ff (tn 1 (kb ff (tn 1 (kb tt (tn 1 (kb tt (tn 1 (kb ff (tn 1 (kb ff (tn 1 (kb ff (tn 1 (kb ff (tn 1 (kb ff (tn 1 (kb tt (kb ff (kb tt (tn 1 (kb (show eqs (⟨#[]⟩) (⟨#[]⟩) = true from (by kernel_rfl)) (tn 1 (kb (show eqs (⟨#[]⟩) (⟨#[]⟩) = true from (by kernel_rfl)) (tn 1 (kb ff (tn 1 (kb ff (tn 1 (kb ff (tn 1 (kb ff (tn 1 (kb ff (tn 1 (kb (show eqs (⟨#[]⟩) (⟨#[]⟩) = true from (by kernel_rfl)) (kb ff (kb (show eqs (⟨#[]⟩) (⟨#[]⟩) = true from (by kernel_rfl)) (tn 1 (kb (show eqs (⟨#[]⟩) (⟨#[]⟩) = true from (by kernel_rfl)) (tn 1 (kb (show eqs (⟨#[]⟩) (⟨#[]⟩) = true from (by kernel_rfl)) (tn 1 (kb ff (tn 1 (kb ff (tn 1 (kb ff (tn 1 (kb ff (tn 1 (kb ff (tn 1 (kb (show eqs (⟨#[]⟩) (⟨#[]⟩) = true from (by kernel_rfl)) (kb ff (kb (show eqs (⟨#[]⟩) (⟨#[]⟩) = true from (by kernel_rfl)) (tn 1 (kb (show eqs (⟨#[]⟩) (⟨#[]⟩) = true from (by kernel_rfl)) (tn 1 (kb (show eqs (⟨#[]⟩) (⟨#[]⟩) = true from (by kernel_rfl)) (tn 1 (kb ff (tn 1 (kb ff (tn 1 (kb ff (tn 1 (kb ff (tn 1 (kb ff (tn 1 (kb (show eqs (⟨#[]⟩) (⟨#[]⟩) = true from (by kernel_rfl)) (kb ff (kb (show eqs (⟨#[]⟩) (⟨#[]⟩) = true from (by kernel_rfl)) (tn 1 (kb (show eqs (⟨#[]⟩) (⟨#[]⟩) = true from (by kernel_rfl)) (tn 1 (kb (show eqs (⟨#[]⟩) (⟨#[]⟩) = true from (by kernel_rfl)) (tn 1 (kb ff (tn 1 (kb ff (tn 1 (kb ff (tn 1 (kb ff (tn 1 (kb ff (kc (q42_to hQ) (kb (show eqs (⟨#[]⟩) (⟨#[]⟩) = true from (by kernel_rfl)) (kb ff (kb (show eqs (⟨#[]⟩) (⟨#[]⟩) = true from (by kernel_rfl)) (tn 1 (kb tt (tn 1 (kb tt (tn 1 (kb tt (kb tt (kb tt (kb tt (kb tt (kb tt (kb tt (kb tt (kb tt (tn 1 (kb tt (tn 1 (kb tt (tn 1 (kb ff (tn 1 (kb ff (tn 1 (kb ff (tn 1 (kb ff (tn 1 (kb ff (tn 1 (kb ff (tn 1 (kb tt (kb ff (kb tt (tn 1 z)))))))))))))))))))))))))))))))))))))))))))))))))))))))))))))))))))))))))))))))))))))))))))))))))))))))))))))))))))))))))))))))))))))))))))) ?_
 exact eN
theorem q82_to {s : ByteArray} (hQ : Qs s) : CallTo Tryz.prog 116 [(.av (.ro zl10 0))] [] [] (jB true) [] [] := by
 refine bG Tryz.func116 ?_
 refine gO (tn 14 (kb tt (kb tt (tn 3 (kb tt (kb tt (kb tt (kb tt (kb tt (kb tt (tn 1 (kb tt (tn 1 (kb tt (tn 1 (kb ff (tn 1 (kb ff (tn 1 (kb ff (tn 1 (kb ff (tn 1 (kb ff (tn 1 (kb tt (kb ff (kb tt (tn 1 (kb (show eqs (⟨#[]⟩) (⟨#[]⟩) = true from (by kernel_rfl)) (tn 1 (kb (show eqs (⟨#[]⟩) (⟨#[]⟩) = true from (by kernel_rfl)) (tn 1 (kb ff (tn 1 (kb ff (tn 1 (kb ff (tn 1 (kb ff (tn 1 (kb ff (tn 1 (kb (show eqs (⟨#[]⟩) (⟨#[]⟩) = true from (by kernel_rfl)) (kb ff (kb (show eqs (⟨#[]⟩) (⟨#[]⟩) = true from (by kernel_rfl)) (tn 1 (kb (show eqs (⟨#[]⟩) (⟨#[]⟩) = true from (by kernel_rfl)) (tn 1 (kb (show eqs (⟨#[]⟩) (⟨#[]⟩) = true from (by kernel_rfl)) (tn 1 (kb ff (tn 1 (kb ff (tn 1 (kb ff (tn 1 (kb ff (tn 1 (kb ff (kc (q42_to hQ) (kb (show eqs (⟨#[]⟩) (⟨#[]⟩) = true from (by kernel_rfl)) (kb ff (kb (show eqs (⟨#[]⟩) (⟨#[]⟩) = true from (by kernel_rfl)) (tn 1 (kb tt (tn 1 (kb tt (tn 1 (kb ff (tn 1 (kb ff (tn 1 (kb ff (tn 1 (kb ff (tn 1 (kb ff (tn 1 (kb ff (tn 1 (kb tt (kb ff (kb tt (tn 1 (kb tt (tn 1 (kb tt (tn 1 (kb ff (tn 1 (kb ff (tn 1 (kb ff (tn 1 (kb ff (tn 1 (kb ff (tn 1 (kb ff (tn 1 (kb tt (kb ff (kb tt (tn 1 (kb tt (tn 1 (kb tt (tn 1 (kb ff (tn 1 (kb ff (tn 1 (kb ff (tn 1 (kb ff (tn 1 (kb ff (tn 1 (kb ff (tn 1 (kb tt (kb ff (kb tt (tn 1 z))))))))))))))))))))))))))))))))))))))))))))))))))))))))))))))))))))))))))))))))))))))))))))))))))))))))))))))))))))))))))))) ?_
 exact eN
theorem q83_to {s : ByteArray} (hQ : Qs s) : CallTo Tryz.prog 117 [(.av (.ro zl10 0)), (jI 15)] [] [] (jI 0) [] [] := by
 have ⟨hc, he, hs, hz, hes⟩ := hQ.a
 refine bG Tryz.func117 ?_
 refine gO (tn 7 (kb tt (kb tt (tn 6 (kb (show eqs (⟨#[32, 116, 119, 111]⟩) (⟨#[]⟩) = false from (by kernel_rfl)) (tn 1 (kb (show eqs (⟨#[32, 116, 119, 111]⟩) (⟨#[]⟩) = false from (by kernel_rfl)) (tn 1 (kb (show eqs (⟨#[32, 116, 119, 111]⟩) (⟨#[]⟩) = false from (by kernel_rfl)) (tn 1 (kb (show eqs (⟨#[32, 116, 119, 111]⟩) (⟨#[]⟩) = false from (by kernel_rfl)) (tn 1 (kb (show eqs (⟨#[32, 116, 119, 111]⟩) (⟨#[]⟩) = false from (by kernel_rfl)) (kc (clnT_t (⟨#[32, 116, 119, 111]⟩) (by first | omega | (simp only [ByteArray.size_append]; show _ ≤ _; omega) | (show _ ≤ 1073741824; decide)) (asc_lit (s := ⟨#[32, 116, 119, 111]⟩) (by kernel_rfl))) (kb (show eqs (⟨#[32, 116, 119, 111]⟩) (⟨#[]⟩) = false from (by kernel_rfl)) (tn 1 (kb (show eqs (⟨#[32, 116, 119, 111]⟩) (⟨#[]⟩) = false from (by kernel_rfl)) (kb ff (tn 6 (kb tt (tn 1 (kb tt (tn 1 (kb tt (tn 1 (kb tt (tn 1 (kb tt (tn 1 (kb tt (tn 1 (kb tt (kb ff (tn 1 z)))))))))))))))))))))))))))))))))) ?_
 exact eN
theorem q81_to {s : ByteArray} (hQ : Qs s) : CallTo Tryz.prog 100 [(jL [(.agg zl3), (.agg zl10)]), (jI 0)] [] [] (jI 0) [] [] := by
 have ⟨hc, he, hs, hz, hes⟩ := hQ.a
 refine bG Tryz.func100 ?_
 refine gO (tn 4 z) ?_
 refine uN (sx 76 [(0, (jL [(.agg zl3), (.agg zl10)])), (1, (jI 0)), (11, (jI 2)), (12, (jI 0))] [] []) 60 ?_
 refine gO (tn 1 (kb tt (tn 4 (kb ff (tn 3 (kb ff (tn 2 (ke (el0 (.agg zl3) [(.agg zl10)]) (tn 2 (kc (q58_to hQ) (tn 1 (kb ff (tn 3 (kb tt (tn 1 (kb tt (tn 1 (kb tt (tn 1 (kb tt (tn 1 (kb tt (tn 1 (kb tt (tn 1 (kb ff (kb ff (kb tt (kb ff (kb tt (tn 1 (kb ff (tn 1 (kb ff (tn 1 (kb ff (tn 1 (kb ff (tn 1 (kb ff (kp (show Uni 1 [(vI 2), (vI 3)] from (by simp [Uni, AV.cells, AV.isTup])) (kb ff (kc (q59_to hQ) (kb ff (tn 1 (kb ff (kb ff (kb ff (kb ff (kb ff (kb ff (kb ff (kb tt (kb ff (kb tt (kb ff (tn 2 (kc (q60_to hQ) (tn 3 (kb ff (tn 5 (kn (wrE (0 + 1) 1 (by omega)) (kc (q51_to hQ) (tn 3 (kb ff (kn (wrE (0 + 1) 1 (by omega)) (tn 1 z))))))))))))))))))))))))))))))))))))))))))))))))))))))))))))))))))) ?_
 refine uA (sx 76 [(0, (jL [(.agg zl3), (.agg zl10)])), (1, (jI 0)), (11, (jI 2)), (12, (jI 1))] [] []) ?_
 refine gO (tn 1 (kb tt (tn 4 (kb ff (tn 3 (kb tt (tn 2 (kn (wrE (1 - 1) 0 (by omega)) (ke (el0 (.agg zl3) [(.agg zl10)]) (tn 5 (ke (el1 (.agg zl3) (.agg zl10) []) (tn 2 (kc (q82_to hQ) (tn 1 (kb ff (tn 3 (kb tt (tn 1 (kb tt (tn 1 (kb tt (tn 1 (kb tt (tn 1 (kb tt (tn 1 (kb tt (tn 1 (kb ff (kb ff (kb tt (kb ff (kb tt (tn 1 (kb ff (tn 1 (kb ff (tn 1 (kb ff (tn 1 (kb ff (tn 1 (kb ff (kp (show Uni 1 [(vI 2), (vI 3)] from (by simp [Uni, AV.cells, AV.isTup])) (kb ff (kc (q49_to hQ) (kb ff (tn 1 (kb ff (kb ff (kb ff (kb ff (kb ff (kb ff (kb ff (kb tt (kb ff (kb tt (kb ff (tn 2 (kc (q83_to hQ) (tn 3 (kb ff (tn 5 (kn (wrE (0 + 1) 1 (by omega)) (kc (q51_to hQ) (tn 3 (kb ff (kn (wrE (1 + 1) 2 (by omega)) (tn 1 z)))))))))))))))))))))))))))))))))))))))))))))))))))))))))))))))))))))) ?_
 refine uA (sx 76 [(0, (jL [(.agg zl3), (.agg zl10)])), (1, (jI 0)), (11, (jI 2)), (12, (jI 2))] [] []) ?_
 refine gO (tn 1 (kb ff z)) ?_
 refine uO (tn 1 z) ?_
 exact eN
theorem q80_to {s : ByteArray} (hQ : Qs s) : CallTo Tryz.prog 88 [(jL [(.agg zl3), (.agg zl10)])] [] [] (jI 0) [] [] := by
 refine bG Tryz.func88 ?_
 refine gO (tn 2 (kc (q81_to hQ) (tn 1 z))) ?_
 exact eN
theorem q79_to {s : ByteArray} (hQ : Qs s) : CallTo Tryz.prog 74 [(.av (.ro zl11 0))] [] [] (jI 0) [] [] := by
 refine bG Tryz.func74 ?_
 refine gO (tn 7 (kb tt (tn 6 (kb ff (tn 4 (kc (q80_to hQ) (tn 1 z))))))) ?_
 exact eN
theorem q77_to {s : ByteArray} (hQ : Qs s) : CallTo Tryz.prog 54 [(jL [(.agg (zl6 s)), (.agg zl11)]), (jI 0), (jI 0)] [] [] (jI 0) [] [] := by
 have ⟨hc, he, hs, hz, hes⟩ := hQ.a
 refine bG Tryz.func54 ?_
 refine gO (tn 4 z) ?_
 refine uN (sx 53 [(0, (jL [(.agg (zl6 s)), (.agg zl11)])), (1, (jI 0)), (2, (jI 0)), (12, (jI 2)), (13, (jI 0))] [] []) 60 ?_
 refine gO (tn 1 (kb tt (tn 4 (kb ff (tn 2 (ke (el0 (.agg (zl6 s)) [(.agg zl11)]) (tn 2 (kc (q11_to hQ) (tn 2 (kb ff (tn 1 (kb ff (tn 1 (kb ff (tn 1 (kb ff (tn 1 (kb ff (tn 1 (kb ff (kc (q12_to hQ) (kb ff (tn 1 (kb ff (kb ff (tn 1 (kc (q14_to hQ) (tn 3 (kb ff z))))))))))))))))))))))))))))) ?_
 have d1 := wrE (0 + 1) 1 (by omega)
 have d2 := (q40_to hQ)
 refine DR3 (tn 9 (ko (nO d1) (kp d1 (ko (cO d2) (kp d2 (tn 4 (kb ff (kn (wrE (0 + 1) 1 (by omega)) (tn 1 z))))))))) (by kernel_rfl) (by kernel_rfl) (by kernel_rfl) ?_
 refine uA (sx 53 [(0, (jL [(.agg (zl6 s)), (.agg zl11)])), (1, (jI 0)), (2, (jI 0)), (10, (jI 0)), (12, (jI 2)), (13, (jI 1)), (38, (.av (.ro (zl6 s) 0))), (39, (.av (.ro (zl6 s) 0))), (40, (.av (.ro (zl6 s) 10))), (41, (jL [(.agg (zl2 s))])), (42, (.av (.ro (zl6 s) 0))), (43, (.av (.ro (zl6 s) 0))), (44, (.av (.ro (zl6 s) 0))), (45, (jI 13)), (46, (jI 0)), (47, (jI 1)), (48, (jI 0))] [] []) ?_
 refine gO (tn 1 (kb tt (tn 4 (kb ff (tn 2 (ke (el1 (.agg (zl6 s)) (.agg zl11) []) (tn 2 (kc (q78_to hQ) (tn 2 (kb ff (tn 1 (kb ff (tn 1 (kb ff (tn 1 (kb ff (tn 1 (kb ff (tn 1 (kb ff (kc (q54_to hQ) (kb ff (tn 1 (kb ff (kb ff (tn 1 (kc (q79_to hQ) (tn 3 (kb ff z))))))))))))))))))))))))))))) ?_
 have d3 := wrE (0 + 1) 1 (by omega)
 have d4 := (q66_to hQ)
 refine DR3 (tn 9 (ko (nO d3) (kp d3 (ko (cO d4) (kp d4 (tn 4 (kb ff (kn (wrE (1 + 1) 2 (by omega)) (tn 1 z))))))))) (by kernel_rfl) (by kernel_rfl) (by kernel_rfl) ?_
 refine uA (sx 53 [(0, (jL [(.agg (zl6 s)), (.agg zl11)])), (1, (jI 0)), (2, (jI 0)), (10, (jI 0)), (12, (jI 2)), (13, (jI 2)), (38, (.av (.ro zl11 0))), (39, (.av (.ro zl11 0))), (40, (.av (.ro zl11 10))), (41, (jL [])), (42, (.av (.ro zl11 0))), (43, (.av (.ro zl11 0))), (44, (.av (.ro zl11 0))), (45, (jI 1)), (46, (jI 0)), (47, (jI 1)), (48, (jI 0))] [] []) ?_
 refine gO (tn 1 (kb ff z)) ?_
 refine uO (tn 1 z) ?_
 exact eN
theorem q76_to {s : ByteArray} (hQ : Qs s) : CallTo Tryz.prog 32 [(jL [(.agg (zl6 s)), (.agg zl11)])] [] [] (jI 0) [] [] := by
 refine bG Tryz.func32 ?_
 refine gO (tn 2 (kc (q77_to hQ) (tn 1 z))) ?_
 exact eN
theorem q72_to {s : ByteArray} (hQ : Qs s) : CallTo Tryz.prog 16 [(.av (.agg (zl12 s)))] [] [] (jI 0) [] [] := by
 refine bG Tryz.func16 ?_
 refine gO (tn 3 (kc (q73_to hQ) (tn 2 (kb ff (tn 1 (kb ff (tn 1 (kb ff (tn 1 (kb ff (tn 1 (kb ff (kb ff (tn 6 z)))))))))))))) ?_
 refine uN (sx 48 [(1, (.ptr 1 0)), (3, (.mp 15)), (17, (jL [])), (18, (jI 0)), (19, (jI 0))] [(15, (.map ([]) ([]))), (1, (.cells 42 [(jL []), (jL [(.agg (zl6 s)), (.agg zl11)])]))] []) 60 ?_
 refine gO (tn 1 (kb ff z)) ?_
 refine uO (tn 2 (kc (q76_to hQ) (tn 1 z))) ?_
 exact eN
theorem q86_to {s : ByteArray} (hQ : Qs s) : CallTo Tryz.prog 40 [(jL [(.agg zl11)])] [] [] (jI 3) [] [] := by
 have ⟨hc, he, hs, hz, hes⟩ := hQ.a
 refine bG Tryz.func40 ?_
 refine gO (tn 7 z) ?_
 refine uN (sx 29 [(0, (jL [(.agg zl11)])), (3, (jI 1)), (8, (jI 1)), (9, (jI 0))] [] []) 60 ?_
 refine gO (tn 1 (kb tt (tn 2 z))) ?_
 have d1 := (el0 (.agg zl11) [])
 have d2 := (q75_to hQ)
 have d3 := (el0 (.agg zl11) [])
 have d4 := (q7_to hQ)
 have d5 := wrE (2 + 0) 2 (by omega)
 have d6 := wrE (1 + 2) 3 (by omega)
 refine DR3 (tn 3 (ko (eO d1) (kp d1 (tn 2 (ko (cO d2) (kp d2 (tn 3 (ko (eO d3) (kp d3 (tn 2 (ko (cO d4) (kp d4 (tn 1 (ko (nO d5) (kp d5 (ko (nO d6) (kp d6 (tn 1 (kn (wrE (0 + 1) 1 (by omega)) (tn 1 z)))))))))))))))))))) (by kernel_rfl) (by kernel_rfl) (by kernel_rfl) ?_
 refine uA (sx 29 [(0, (jL [(.agg zl11)])), (3, (jI 3)), (8, (jI 1)), (9, (jI 1)), (12, (jI 1)), (13, (jL [(.agg zl11)])), (14, (jI 0)), (15, (.av (.ro zl11 0))), (16, (.av (.ro zl11 9))), (17, (jL [(.agg zl3), (.agg zl10)])), (18, (jI 2)), (19, (jL [(.agg zl11)])), (20, (jI 0)), (21, (.av (.ro zl11 0))), (22, (.av (.ro zl11 10))), (23, (jL [])), (24, (jI 0)), (25, (jI 2)), (26, (jI 3))] [] []) ?_
 refine gO (tn 1 (kb ff z)) ?_
 refine uO (tn 2 z) ?_
 exact eN
theorem q85_to {s : ByteArray} (hQ : Qs s) : CallTo Tryz.prog 19 [(.av (.agg [(.sl []), (.sl [(.agg zl11)])]))] [] [] (jI 3) [] [] := by
 refine bG Tryz.func19 ?_
 refine gO (tn 4 (kc (q86_to hQ) (tn 1 z))) ?_
 exact eN
theorem q88_to {s : ByteArray} (hQ : Qs s) : CallTo Tryz.prog 54 [(jL [(.agg zl11)]), (jI 0), (jI 0)] [] [] (jI 0) [] [] := by
 have ⟨hc, he, hs, hz, hes⟩ := hQ.a
 refine bG Tryz.func54 ?_
 refine gO (tn 4 z) ?_
 refine uN (sx 53 [(0, (jL [(.agg zl11)])), (1, (jI 0)), (2, (jI 0)), (12, (jI 1)), (13, (jI 0))] [] []) 60 ?_
 refine gO (tn 1 (kb tt (tn 4 (kb ff (tn 2 (ke (el0 (.agg zl11) []) (tn 2 (kc (q78_to hQ) (tn 2 (kb ff (tn 1 (kb ff (tn 1 (kb ff (tn 1 (kb ff (tn 1 (kb ff (tn 1 (kb ff (kc (q54_to hQ) (kb ff (tn 1 (kb ff (kb ff (tn 1 (kc (q79_to hQ) (tn 3 (kb ff z))))))))))))))))))))))))))))) ?_
 have d1 := wrE (0 + 1) 1 (by omega)
 have d2 := (q66_to hQ)
 refine DR3 (tn 9 (ko (nO d1) (kp d1 (ko (cO d2) (kp d2 (tn 4 (kb ff (kn (wrE (0 + 1) 1 (by omega)) (tn 1 z))))))))) (by kernel_rfl) (by kernel_rfl) (by kernel_rfl) ?_
 refine uA (sx 53 [(0, (jL [(.agg zl11)])), (1, (jI 0)), (2, (jI 0)), (10, (jI 0)), (12, (jI 1)), (13, (jI 1)), (38, (.av (.ro zl11 0))), (39, (.av (.ro zl11 0))), (40, (.av (.ro zl11 10))), (41, (jL [])), (42, (.av (.ro zl11 0))), (43, (.av (.ro zl11 0))), (44, (.av (.ro zl11 0))), (45, (jI 1)), (46, (jI 0)), (47, (jI 1)), (48, (jI 0))] [] []) ?_
 refine gO (tn 1 (kb ff z)) ?_
 refine uO (tn 1 z) ?_
 exact eN
theorem q87_to {s : ByteArray} (hQ : Qs s) : CallTo Tryz.prog 32 [(jL [(.agg zl11)])] [] [] (jI 0) [] [] := by
 refine bG Tryz.func32 ?_
 refine gO (tn 2 (kc (q88_to hQ) (tn 1 z))) ?_
 exact eN
theorem q84_to {s : ByteArray} (hQ : Qs s) : CallTo Tryz.prog 16 [(.av (.agg [(.sl []), (.sl [(.agg zl11)])]))] [] [] (jI 0) [] [] := by
 refine bG Tryz.func16 ?_
 refine gO (tn 3 (kc (q85_to hQ) (tn 2 (kb ff (tn 1 (kb ff (tn 1 (kb ff (tn 1 (kb ff (tn 1 (kb ff (kb ff (tn 6 z)))))))))))))) ?_
 refine uN (sx 48 [(1, (.ptr 1 0)), (3, (.mp 15)), (17, (jL [])), (18, (jI 0)), (19, (jI 0))] [(15, (.map ([]) ([]))), (1, (.cells 42 [(jL []), (jL [(.agg zl11)])]))] []) 60 ?_
 refine gO (tn 1 (kb ff z)) ?_
 refine uO (tn 2 (kc (q87_to hQ) (tn 1 z))) ?_
 exact eN
theorem q92_to {s : ByteArray} (hQ : Qs s) : CallTo Tryz.prog 62 [(jL [(.agg zl13), (.agg zl3)])] [] [] (jI 2) [] [] := by
 have ⟨hc, he, hs, hz, hes⟩ := hQ.a
 refine bG Tryz.func62 ?_
 refine gO (tn 7 z) ?_
 refine uN (sx 22 [(0, (jL [(.agg zl13), (.agg zl3)])), (3, (jI 2)), (8, (jI 2)), (9, (jI 0))] [] []) 60 ?_
 refine gO (tn 1 (kb tt (tn 5 (ke (el0 (.agg zl13) [(.agg zl3)]) (tn 2 (kc (q4_to hQ) (kn (wrE (2 + 0) 2 (by omega)) (tn 1 (kn (wrE (0 + 1) 1 (by omega)) (tn 1 z)))))))))) ?_
 refine uA (sx 22 [(0, (jL [(.agg zl13), (.agg zl3)])), (3, (jI 2)), (8, (jI 2)), (9, (jI 1))] [] []) ?_
 refine gO (tn 1 (kb tt (tn 5 (ke (el1 (.agg zl13) (.agg zl3) []) (tn 2 (kc (q4_to hQ) (kn (wrE (2 + 0) 2 (by omega)) (tn 1 (kn (wrE (1 + 1) 2 (by omega)) (tn 1 z)))))))))) ?_
 refine uA (sx 22 [(0, (jL [(.agg zl13), (.agg zl3)])), (3, (jI 2)), (8, (jI 2)), (9, (jI 2))] [] []) ?_
 refine gO (tn 1 (kb ff z)) ?_
 refine uO (tn 2 z) ?_
 exact eN
theorem q91_to {s : ByteArray} (hQ : Qs s) : CallTo Tryz.prog 40 [(jL [(.agg (zl6 s)), (.agg zl14)])] [] [] (jI 6) [] [] := by
 have ⟨hc, he, hs, hz, hes⟩ := hQ.a
 refine bG Tryz.func40 ?_
 refine gO (tn 7 z) ?_
 refine uN (sx 29 [(0, (jL [(.agg (zl6 s)), (.agg zl14)])), (3, (jI 2)), (8, (jI 2)), (9, (jI 0))] [] []) 60 ?_
 refine gO (tn 1 (kb tt (tn 2 z))) ?_
 have d1 := (el0 (.agg (zl6 s)) [(.agg zl14)])
 have d2 := (q4_to hQ)
 have d3 := (el0 (.agg (zl6 s)) [(.agg zl14)])
 have d4 := (q5_to hQ)
 have d5 := wrE (0 + 2) 2 (by omega)
 have d6 := wrE (2 + 2) 4 (by omega)
 refine DR3 (tn 3 (ko (eO d1) (kp d1 (tn 2 (ko (cO d2) (kp d2 (tn 3 (ko (eO d3) (kp d3 (tn 2 (ko (cO d4) (kp d4 (tn 1 (ko (nO d5) (kp d5 (ko (nO d6) (kp d6 (tn 1 (kn (wrE (0 + 1) 1 (by omega)) (tn 1 z)))))))))))))))))))) (by kernel_rfl) (by kernel_rfl) (by kernel_rfl) ?_
 refine uA (sx 29 [(0, (jL [(.agg (zl6 s)), (.agg zl14)])), (3, (jI 4)), (8, (jI 2)), (9, (jI 1)), (12, (jI 2)), (13, (jL [(.agg (zl6 s)), (.agg zl14)])), (14, (jI 0)), (15, (.av (.ro (zl6 s) 0))), (16, (.av (.ro (zl6 s) 9))), (17, (jL [])), (18, (jI 0)), (19, (jL [(.agg (zl6 s)), (.agg zl14)])), (20, (jI 0)), (21, (.av (.ro (zl6 s) 0))), (22, (.av (.ro (zl6 s) 10))), (23, (jL [(.agg (zl2 s))])), (24, (jI 2)), (25, (jI 2)), (26, (jI 4))] [] []) ?_
 refine gO (tn 1 (kb tt (tn 2 z))) ?_
 have d7 := (el1 (.agg (zl6 s)) (.agg zl14) [])
 have d8 := (q92_to hQ)
 have d9 := (el1 (.agg (zl6 s)) (.agg zl14) [])
 have d10 := (q7_to hQ)
 have d11 := wrE (2 + 0) 2 (by omega)
 have d12 := wrE (4 + 2) 6 (by omega)
 refine DR3 (tn 3 (ko (eO d7) (kp d7 (tn 2 (ko (cO d8) (kp d8 (tn 3 (ko (eO d9) (kp d9 (tn 2 (ko (cO d10) (kp d10 (tn 1 (ko (nO d11) (kp d11 (ko (nO d12) (kp d12 (tn 1 (kn (wrE (1 + 1) 2 (by omega)) (tn 1 z)))))))))))))))))))) (by kernel_rfl) (by kernel_rfl) (by kernel_rfl) ?_
 refine uA (sx 29 [(0, (jL [(.agg (zl6 s)), (.agg zl14)])), (3, (jI 6)), (8, (jI 2)), (9, (jI 2)), (12, (jI 4)), (13, (jL [(.agg (zl6 s)), (.agg zl14)])), (14, (jI 1)), (15, (.av (.ro zl14 0))), (16, (.av (.ro zl14 9))), (17, (jL [(.agg zl13), (.agg zl3)])), (18, (jI 2)), (19, (jL [(.agg (zl6 s)), (.agg zl14)])), (20, (jI 1)), (21, (.av (.ro zl14 0))), (22, (.av (.ro zl14 10))), (23, (jL [])), (24, (jI 0)), (25, (jI 2)), (26, (jI 6))] [] []) ?_
 refine gO (tn 1 (kb ff z)) ?_
 refine uO (tn 2 z) ?_
 exact eN
theorem q90_to {s : ByteArray} (hQ : Qs s) : CallTo Tryz.prog 19 [(.av (.agg (zl15 s)))] [] [] (jI 6) [] [] := by
 refine bG Tryz.func19 ?_
 refine gO (tn 4 (kc (q91_to hQ) (tn 1 z))) ?_
 exact eN
theorem q95_to {s : ByteArray} (hQ : Qs s) : CallTo Tryz.prog 72 [(.av (.ro zl14 0))] [] [] (jB true) [] [] := by
 refine bG Tryz.func72 ?_
 refine gO (tn 15 (kb tt (kb tt (tn 3 (kb ff (tn 1 (kb ff (tn 1 (kb ff (tn 1 (kb ff (tn 1 (kb ff (tn 1 (kb ff (tn 1 (kb tt (tn 1 (kb tt (tn 1 (kb ff (tn 1 (kb ff (tn 1 (kb ff (tn 1 (kb ff (tn 1 (kb ff (tn 1 (kb tt (kb ff (kb tt (tn 1 (kb (show eqs (⟨#[]⟩) (⟨#[]⟩) = true from (by kernel_rfl)) (tn 1 (kb (show eqs (⟨#[]⟩) (⟨#[]⟩) = true from (by kernel_rfl)) (tn 1 (kb ff (tn 1 (kb ff (tn 1 (kb ff (tn 1 (kb ff (tn 1 (kb ff (tn 1 (kb (show eqs (⟨#[]⟩) (⟨#[]⟩) = true from (by kernel_rfl)) (kb ff (kb (show eqs (⟨#[]⟩) (⟨#[]⟩) = true from (by kernel_rfl)) (tn 1 (kb (show eqs (⟨#[]⟩) (⟨#[]⟩) = true from (by kernel_rfl)) (tn 1 (kb (show eqs (⟨#[]⟩) (⟨#[]⟩) = true from (by kernel_rfl)) (tn 1 (kb ff (tn 1 (kb ff (tn 1 (kb ff (tn 1 (kb ff (tn 1 (kb ff (tn 1 (kb (show eqs (⟨#[]⟩) (⟨#[]⟩) = true from (by kernel_rfl)) (kb ff (kb (show eqs (⟨#[]⟩) (⟨#[]⟩) = true from (by kernel_rfl)) (tn 1 (kb (show eqs (⟨#[]⟩) (⟨#[]⟩) = true from (by kernel_rfl)) (tn 1 (kb (show eqs (⟨#[]⟩) (⟨#[]⟩) = true from (by kernel_rfl)) (tn 1 (kb ff (tn 1 (kb ff (tn 1 (kb ff (tn 1 (kb ff (tn 1 (kb ff (tn 1 (kb (show eqs (⟨#[]⟩) (⟨#[]⟩) = true from (by kernel_rfl)) (kb ff (kb (show eqs (⟨#[]⟩) (⟨#[]⟩) = true from (by kernel_rfl)) (tn 1 (kb (show eqs (⟨#[]⟩) (⟨#[]⟩) = true from (by kernel_rfl)) (tn 1 (kb (show eqs (⟨#[]⟩) (⟨#[]⟩) = true from (by kernel_rfl)) (tn 1 (kb ff (tn 1 (kb ff (tn 1 (kb ff (tn 1 (kb ff (tn 1 (kb ff (kc (q42_to hQ) (kb (show eqs (⟨#[]⟩) (⟨#[]⟩) = true from (by kernel_rfl)) (kb ff (kb (show eqs (⟨#[]⟩) (⟨#[]⟩) = true from (by kernel_rfl)) (tn 1 (kb tt (tn 1 (kb tt (tn 1 (kb tt (kb tt (kb tt (kb tt (kb tt (kb tt (kb tt (kb tt (kb tt (tn 1 (kb tt (tn 1 (kb tt (tn 1 (kb ff (tn 1 (kb ff (tn 1 (kb ff (tn 1 (kb ff (tn 1 (kb ff (tn 1 (kb ff (tn 1 (kb tt (kb ff (kb tt (tn 1 z)))))))))))))))))))))))))))))))))))))))))))))))))))))))))))))))))))))))))))))))))))))))))))))))))))))))))))))))))))))))))))))))))))))))))))) ?_
 exact eN
theorem q99_to {s : ByteArray} (hQ : Qs s) : CallTo Tryz.prog 116 [(.av (.ro zl13 0))] [] [] (jB true) [] [] := by
 refine bG Tryz.func116 ?_
 refine gO (tn 14 (kb tt (kb tt (tn 3 (kb tt (kb tt (kb tt (kb tt (kb tt (kb tt (tn 1 (kb tt (tn 1 (kb tt (tn 1 (kb ff (tn 1 (kb ff (tn 1 (kb ff (tn 1 (kb ff (tn 1 (kb ff (tn 1 (kb tt (kb ff (kb tt (tn 1 (kb (show eqs (⟨#[]⟩) (⟨#[]⟩) = true from (by kernel_rfl)) (tn 1 (kb (show eqs (⟨#[]⟩) (⟨#[]⟩) = true from (by kernel_rfl)) (tn 1 (kb ff (tn 1 (kb ff (tn 1 (kb ff (tn 1 (kb ff (tn 1 (kb ff (tn 1 (kb (show eqs (⟨#[]⟩) (⟨#[]⟩) = true from (by kernel_rfl)) (kb ff (kb (show eqs (⟨#[]⟩) (⟨#[]⟩) = true from (by kernel_rfl)) (tn 1 (kb (show eqs (⟨#[]⟩) (⟨#[]⟩) = true from (by kernel_rfl)) (tn 1 (kb (show eqs (⟨#[]⟩) (⟨#[]⟩) = true from (by kernel_rfl)) (tn 1 (kb ff (tn 1 (kb ff (tn 1 (kb ff (tn 1 (kb ff (tn 1 (kb ff (kc (q42_to hQ) (kb (show eqs (⟨#[]⟩) (⟨#[]⟩) = true from (by kernel_rfl)) (kb ff (kb (show eqs (⟨#[]⟩) (⟨#[]⟩) = true from (by kernel_rfl)) (tn 1 (kb tt (tn 1 (kb tt (tn 1 (kb ff (tn 1 (kb ff (tn 1 (kb ff (tn 1 (kb ff (tn 1 (kb ff (tn 1 (kb ff (tn 1 (kb tt (kb ff (kb tt (tn 1 (kb tt (tn 1 (kb tt (tn 1 (kb ff (tn 1 (kb ff (tn 1 (kb ff (tn 1 (kb ff (tn 1 (kb ff (tn 1 (kb ff (tn 1 (kb tt (kb ff (kb tt (tn 1 (kb tt (tn 1 (kb tt (tn 1 (kb ff (tn 1 (kb ff (tn 1 (kb ff (tn 1 (kb ff (tn 1 (kb ff (tn 1 (kb ff (tn 1 (kb tt (kb ff (kb tt (tn 1 z))))))))))))))))))))))))))))))))))))))))))))))))))))))))))))))))))))))))))))))))))))))))))))))))))))))))))))))))))))))))))))) ?_
 exact eN
theorem q100_to {s : ByteArray} (hQ : Qs s) : CallTo Tryz.prog 117 [(.av (.ro zl13 0)), (jI 0)] [] [] (jI 0) [] [] := by
 have ⟨hc, he, hs, hz, hes⟩ := hQ.a
 refine bG Tryz.func117 ?_
 refine gO (tn 7 (kb tt (kb tt (tn 6 (kb (show eqs (⟨#[111, 110, 101, 32]⟩) (⟨#[]⟩) = false from (by kernel_rfl)) (tn 1 (kb (show eqs (⟨#[111, 110, 101, 32]⟩) (⟨#[]⟩) = false from (by kernel_rfl)) (tn 1 (kb (show eqs (⟨#[111, 110, 101, 32]⟩) (⟨#[]⟩) = false from (by kernel_rfl)) (tn 1 (kb (show eqs (⟨#[111, 110, 101, 32]⟩) (⟨#[]⟩) = false from (by kernel_rfl)) (tn 1 (kb (show eqs (⟨#[111, 110, 101, 32]⟩) (⟨#[]⟩) = false from (by kernel_rfl)) (kc (clnT_t (⟨#[111, 110, 101, 32]⟩) (by first | omega | (simp only [ByteArray.size_append]; show _ ≤ _; omega) | (show _ ≤ 1073741824; decide)) (asc_lit (s := ⟨#[111, 110, 101, 32]⟩) (by kernel_rfl))) (kb (show eqs (⟨#[111, 110, 101, 32]⟩) (⟨#[]⟩) = false from (by kernel_rfl)) (tn 1 (kb (show eqs (⟨#[111, 110, 101, 32]⟩) (⟨#[]⟩) = false from (by kernel_rfl)) (kb ff (tn 6 (kb tt (tn 1 (kb tt (tn 1 (kb tt (tn 1 (kb tt (tn 1 (kb tt (tn 1 (kb tt (tn 1 (kb tt (kb ff (tn 1 z)))))))))))))))))))))))))))))))))) ?_
 exact eN
theorem q101_to {s : ByteArray} (hQ : Qs s) : CallTo Tryz.prog 117 [(.av (.ro zl3 0)), (jI 1)] [] [] (jI 0) [] [] := by
 refine bG Tryz.func117 ?_
 refine gO (tn 7 (kb ff (tn 2 (kb ff (tn 2 (kb ff (tn 2 (kb ff (tn 2 (kb ff (tn 2 (kb ff (tn 2 (kb ff (tn 2 (kb ff (tn 2 (kb ff (tn 2 (kb ff (tn 2 (kb ff (tn 2 (kb ff (tn 2 (kb tt (tn 1 (kc (q61_to hQ) (tn 1 z))))))))))))))))))))))))))))) ?_
 exact eN
theorem q98_to {s : ByteArray} (hQ : Qs s) : CallTo Tryz.prog 100 [(jL [(.agg zl13), (.agg zl3)]), (jI 0)] [] [] (jI 0) [] [] := by
 have ⟨hc, he, hs, hz, hes⟩ := hQ.a
 refine bG Tryz.func100 ?_
 refine gO (tn 4 z) ?_
 refine uN (sx 76 [(0, (jL [(.agg zl13), (.agg zl3)])), (1, (jI 0)), (11, (jI 2)), (12, (jI 0))] [] []) 60 ?_
 refine gO (tn 1 (kb tt (tn 4 (kb ff (tn 3 (kb ff (tn 2 (ke (el0 (.agg zl13) [(.agg zl3)]) (tn 2 (kc (q99_to hQ) (tn 1 (kb ff (tn 3 (kb tt (tn 1 (kb tt (tn 1 (kb tt (tn 1 (kb tt (tn 1 (kb tt (tn 1 (kb tt (tn 1 (kb ff (kb ff (kb tt (kb ff (kb tt (tn 1 (kb ff (tn 1 (kb ff (tn 1 (kb ff (tn 1 (kb ff (tn 1 (kb ff (kp (show Uni 1 [(vI 2), (vI 3)] from (by simp [Uni, AV.cells, AV.isTup])) (kb ff (kc (q49_to hQ) (kb ff (tn 1 (kb ff (kb ff (kb ff (kb ff (kb ff (kb ff (kb ff (kb tt (kb ff (kb tt (kb ff (tn 2 (kc (q100_to hQ) (tn 3 (kb ff (tn 5 (kn (wrE (0 + 1) 1 (by omega)) (kc (q51_to hQ) (tn 3 (kb ff (kn (wrE (0 + 1) 1 (by omega)) (tn 1 z))))))))))))))))))))))))))))))))))))))))))))))))))))))))))))))))))) ?_
 refine uA (sx 76 [(0, (jL [(.agg zl13), (.agg zl3)])), (1, (jI 0)), (11, (jI 2)), (12, (jI 1))] [] []) ?_
 refine gO (tn 1 (kb tt (tn 4 (kb ff (tn 3 (kb tt (tn 2 (kn (wrE (1 - 1) 0 (by omega)) (ke (el0 (.agg zl13) [(.agg zl3)]) (tn 5 (ke (el1 (.agg zl13) (.agg zl3) []) (tn 2 (kc (q58_to hQ) (tn 1 (kb ff (tn 3 (kb tt (tn 1 (kb tt (tn 1 (kb tt (tn 1 (kb tt (tn 1 (kb tt (tn 1 (kb tt (tn 1 (kb ff (kb ff (kb tt (kb ff (kb tt (tn 1 (kb ff (tn 1 (kb ff (tn 1 (kb ff (tn 1 (kb ff (tn 1 (kb ff (kp (show Uni 1 [(vI 2), (vI 3)] from (by simp [Uni, AV.cells, AV.isTup])) (kb ff (kc (q59_to hQ) (kb ff (tn 1 (kb ff (kb ff (kb ff (kb ff (kb ff (kb ff (kb ff (kb tt (kb ff (kb tt (kb ff (tn 2 (kc (q101_to hQ) (tn 3 (kb ff (tn 5 (kn (wrE (0 + 1) 1 (by omega)) (kc (q51_to hQ) (tn 3 (kb ff (kn (wrE (1 + 1) 2 (by omega)) (tn 1 z)))))))))))))))))))))))))))))))))))))))))))))))))))))))))))))))))))))) ?_
 refine uA (sx 76 [(0, (jL [(.agg zl13), (.agg zl3)])), (1, (jI 0)), (11, (jI 2)), (12, (jI 2))] [] []) ?_
 refine gO (tn 1 (kb ff z)) ?_
 refine uO (tn 1 z) ?_
 exact eN
theorem q97_to {s : ByteArray} (hQ : Qs s) : CallTo Tryz.prog 88 [(jL [(.agg zl13), (.agg zl3)])] [] [] (jI 0) [] [] := by
 refine bG Tryz.func88 ?_
 refine gO (tn 2 (kc (q98_to hQ) (tn 1 z))) ?_
 exact eN
theorem q96_to {s : ByteArray} (hQ : Qs s) : CallTo Tryz.prog 74 [(.av (.ro zl14 0))] [] [] (jI 0) [] [] := by
 refine bG Tryz.func74 ?_
 refine gO (tn 7 (kb tt (tn 6 (kb ff (tn 4 (kc (q97_to hQ) (tn 1 z))))))) ?_
 exact eN
theorem q94_to {s : ByteArray} (hQ : Qs s) : CallTo Tryz.prog 54 [(jL [(.agg (zl6 s)), (.agg zl14)]), (jI 0), (jI 0)] [] [] (jI 0) [] [] := by
 have ⟨hc, he, hs, hz, hes⟩ := hQ.a
 refine bG Tryz.func54 ?_
 refine gO (tn 4 z) ?_
 refine uN (sx 53 [(0, (jL [(.agg (zl6 s)), (.agg zl14)])), (1, (jI 0)), (2, (jI 0)), (12, (jI 2)), (13, (jI 0))] [] []) 60 ?_
 refine gO (tn 1 (kb tt (tn 4 (kb ff (tn 2 (ke (el0 (.agg (zl6 s)) [(.agg zl14)]) (tn 2 (kc (q11_to hQ) (tn 2 (kb ff (tn 1 (kb ff (tn 1 (kb ff (tn 1 (kb ff (tn 1 (kb ff (tn 1 (kb ff (kc (q12_to hQ) (kb ff (tn 1 (kb ff (kb ff (tn 1 (kc (q14_to hQ) (tn 3 (kb ff z))))))))))))))))))))))))))))) ?_
 have d1 := wrE (0 + 1) 1 (by omega)
 have d2 := (q40_to hQ)
 refine DR3 (tn 9 (ko (nO d1) (kp d1 (ko (cO d2) (kp d2 (tn 4 (kb ff (kn (wrE (0 + 1) 1 (by omega)) (tn 1 z))))))))) (by kernel_rfl) (by kernel_rfl) (by kernel_rfl) ?_
 refine uA (sx 53 [(0, (jL [(.agg (zl6 s)), (.agg zl14)])), (1, (jI 0)), (2, (jI 0)), (10, (jI 0)), (12, (jI 2)), (13, (jI 1)), (38, (.av (.ro (zl6 s) 0))), (39, (.av (.ro (zl6 s) 0))), (40, (.av (.ro (zl6 s) 10))), (41, (jL [(.agg (zl2 s))])), (42, (.av (.ro (zl6 s) 0))), (43, (.av (.ro (zl6 s) 0))), (44, (.av (.ro (zl6 s) 0))), (45, (jI 13)), (46, (jI 0)), (47, (jI 1)), (48, (jI 0))] [] []) ?_
 refine gO (tn 1 (kb tt (tn 4 (kb ff (tn 2 (ke (el1 (.agg (zl6 s)) (.agg zl14) []) (tn 2 (kc (q95_to hQ) (tn 2 (kb ff (tn 1 (kb ff (tn 1 (kb ff (tn 1 (kb ff (tn 1 (kb ff (tn 1 (kb ff (kc (q54_to hQ) (kb ff (tn 1 (kb ff (kb ff (tn 1 (kc (q96_to hQ) (tn 3 (kb ff z))))))))))))))))))))))))))))) ?_
 have d3 := wrE (0 + 1) 1 (by omega)
 have d4 := (q66_to hQ)
 refine DR3 (tn 9 (ko (nO d3) (kp d3 (ko (cO d4) (kp d4 (tn 4 (kb ff (kn (wrE (1 + 1) 2 (by omega)) (tn 1 z))))))))) (by kernel_rfl) (by kernel_rfl) (by kernel_rfl) ?_
 refine uA (sx 53 [(0, (jL [(.agg (zl6 s)), (.agg zl14)])), (1, (jI 0)), (2, (jI 0)), (10, (jI 0)), (12, (jI 2)), (13, (jI 2)), (38, (.av (.ro zl14 0))), (39, (.av (.ro zl14 0))), (40, (.av (.ro zl14 10))), (41, (jL [])), (42, (.av (.ro zl14 0))), (43, (.av (.ro zl14 0))), (44, (.av (.ro zl14 0))), (45, (jI 1)), (46, (jI 0)), (47, (jI 1)), (48, (jI 0))] [] []) ?_
 refine gO (tn 1 (kb ff z)) ?_
 refine uO (tn 1 z) ?_
 exact eN
theorem q93_to {s : ByteArray} (hQ : Qs s) : CallTo Tryz.prog 32 [(jL [(.agg (zl6 s)), (.agg zl14)])] [] [] (jI 0) [] [] := by
 refine bG Tryz.func32 ?_
 refine gO (tn 2 (kc (q94_to hQ) (tn 1 z))) ?_
 exact eN
theorem q89_to {s : ByteArray} (hQ : Qs s) : CallTo Tryz.prog 16 [(.av (.agg (zl15 s)))] [] [] (jI 0) [] [] := by
 refine bG Tryz.func16 ?_
 refine gO (tn 3 (kc (q90_to hQ) (tn 2 (kb ff (tn 1 (kb ff (tn 1 (kb ff (tn 1 (kb ff (tn 1 (kb ff (kb ff (tn 6 z)))))))))))))) ?_
 refine uN (sx 48 [(1, (.ptr 1 0)), (3, (.mp 15)), (17, (jL [])), (18, (jI 0)), (19, (jI 0))] [(15, (.map ([]) ([]))), (1, (.cells 42 [(jL []), (jL [(.agg (zl6 s)), (.agg zl14)])]))] []) 60 ?_
 refine gO (tn 1 (kb ff z)) ?_
 refine uO (tn 2 (kc (q93_to hQ) (tn 1 z))) ?_
 exact eN
theorem q104_to {s : ByteArray} (hQ : Qs s) : CallTo Tryz.prog 40 [(jL [(.agg zl14)])] [] [] (jI 3) [] [] := by
 have ⟨hc, he, hs, hz, hes⟩ := hQ.a
 refine bG Tryz.func40 ?_
 refine gO (tn 7 z) ?_
 refine uN (sx 29 [(0, (jL [(.agg zl14)])), (3, (jI 1)), (8, (jI 1)), (9, (jI 0))] [] []) 60 ?_
 refine gO (tn 1 (kb tt (tn 2 z))) ?_
 have d1 := (el0 (.agg zl14) [])
 have d2 := (q92_to hQ)
 have d3 := (el0 (.agg zl14) [])
 have d4 := (q7_to hQ)
 have d5 := wrE (2 + 0) 2 (by omega)
 have d6 := wrE (1 + 2) 3 (by omega)
 refine DR3 (tn 3 (ko (eO d1) (kp d1 (tn 2 (ko (cO d2) (kp d2 (tn 3 (ko (eO d3) (kp d3 (tn 2 (ko (cO d4) (kp d4 (tn 1 (ko (nO d5) (kp d5 (ko (nO d6) (kp d6 (tn 1 (kn (wrE (0 + 1) 1 (by omega)) (tn 1 z)))))))))))))))))))) (by kernel_rfl) (by kernel_rfl) (by kernel_rfl) ?_
 refine uA (sx 29 [(0, (jL [(.agg zl14)])), (3, (jI 3)), (8, (jI 1)), (9, (jI 1)), (12, (jI 1)), (13, (jL [(.agg zl14)])), (14, (jI 0)), (15, (.av (.ro zl14 0))), (16, (.av (.ro zl14 9))), (17, (jL [(.agg zl13), (.agg zl3)])), (18, (jI 2)), (19, (jL [(.agg zl14)])), (20, (jI 0)), (21, (.av (.ro zl14 0))), (22, (.av (.ro zl14 10))), (23, (jL [])), (24, (jI 0)), (25, (jI 2)), (26, (jI 3))] [] []) ?_
 refine gO (tn 1 (kb ff z)) ?_
 refine uO (tn 2 z) ?_
 exact eN
theorem q103_to {s : ByteArray} (hQ : Qs s) : CallTo Tryz.prog 19 [(.av (.agg [(.sl []), (.sl [(.agg zl14)])]))] [] [] (jI 3) [] [] := by
 refine bG Tryz.func19 ?_
 refine gO (tn 4 (kc (q104_to hQ) (tn 1 z))) ?_
 exact eN
theorem q106_to {s : ByteArray} (hQ : Qs s) : CallTo Tryz.prog 54 [(jL [(.agg zl14)]), (jI 0), (jI 0)] [] [] (jI 0) [] [] := by
 have ⟨hc, he, hs, hz, hes⟩ := hQ.a
 refine bG Tryz.func54 ?_
 refine gO (tn 4 z) ?_
 refine uN (sx 53 [(0, (jL [(.agg zl14)])), (1, (jI 0)), (2, (jI 0)), (12, (jI 1)), (13, (jI 0))] [] []) 60 ?_
 refine gO (tn 1 (kb tt (tn 4 (kb ff (tn 2 (ke (el0 (.agg zl14) []) (tn 2 (kc (q95_to hQ) (tn 2 (kb ff (tn 1 (kb ff (tn 1 (kb ff (tn 1 (kb ff (tn 1 (kb ff (tn 1 (kb ff (kc (q54_to hQ) (kb ff (tn 1 (kb ff (kb ff (tn 1 (kc (q96_to hQ) (tn 3 (kb ff z))))))))))))))))))))))))))))) ?_
 have d1 := wrE (0 + 1) 1 (by omega)
 have d2 := (q66_to hQ)
 refine DR3 (tn 9 (ko (nO d1) (kp d1 (ko (cO d2) (kp d2 (tn 4 (kb ff (kn (wrE (0 + 1) 1 (by omega)) (tn 1 z))))))))) (by kernel_rfl) (by kernel_rfl) (by kernel_rfl) ?_
 refine uA (sx 53 [(0, (jL [(.agg zl14)])), (1, (jI 0)), (2, (jI 0)), (10, (jI 0)), (12, (jI 1)), (13, (jI 1)), (38, (.av (.ro zl14 0))), (39, (.av (.ro zl14 0))), (40, (.av (.ro zl14 10))), (41, (jL [])), (42, (.av (.ro zl14 0))), (43, (.av (.ro zl14 0))), (44, (.av (.ro zl14 0))), (45, (jI 1)), (46, (jI 0)), (47, (jI 1)), (48, (jI 0))] [] []) ?_
 refine gO (tn 1 (kb ff z)) ?_
 refine uO (tn 1 z) ?_
 exact eN
theorem q105_to {s : ByteArray} (hQ : Qs s) : CallTo Tryz.prog 32 [(jL [(.agg zl14)])] [] [] (jI 0) [] [] := by
 refine bG Tryz.func32 ?_
 refine gO (tn 2 (kc (q106_to hQ) (tn 1 z))) ?_
 exact eN
theorem q102_to {s : ByteArray} (hQ : Qs s) : CallTo Tryz.prog 16 [(.av (.agg [(.sl []), (.sl [(.agg zl14)])]))] [] [] (jI 0) [] [] := by
 refine bG Tryz.func16 ?_
 refine gO (tn 3 (kc (q103_to hQ) (tn 2 (kb ff (tn 1 (kb ff (tn 1 (kb ff (tn 1 (kb ff (tn 1 (kb ff (kb ff (tn 6 z)))))))))))))) ?_
 refine uN (sx 48 [(1, (.ptr 1 0)), (3, (.mp 15)), (17, (jL [])), (18, (jI 0)), (19, (jI 0))] [(15, (.map ([]) ([]))), (1, (.cells 42 [(jL []), (jL [(.agg zl14)])]))] []) 60 ?_
 refine gO (tn 1 (kb ff z)) ?_
 refine uO (tn 2 (kc (q105_to hQ) (tn 1 z))) ?_
 exact eN
theorem q110_to {s : ByteArray} (hQ : Qs s) : CallTo Tryz.prog 62 [(jL [(.agg zl13), (.agg zl3), (.agg zl10)])] [] [] (jI 3) [] [] := by
 have ⟨hc, he, hs, hz, hes⟩ := hQ.a
 refine bG Tryz.func62 ?_
 refine gO (tn 7 z) ?_
 refine uN (sx 22 [(0, (jL [(.agg zl13), (.agg zl3), (.agg zl10)])), (3, (jI 3)), (8, (jI 3)), (9, (jI 0))] [] []) 60 ?_
 refine gO (tn 1 (kb tt (tn 5 (ke (el0 (.agg zl13) [(.agg zl3), (.agg zl10)]) (tn 2 (kc (q4_to hQ) (kn (wrE (3 + 0) 3 (by omega)) (tn 1 (kn (wrE (0 + 1) 1 (by omega)) (tn 1 z)))))))))) ?_
 refine uA (sx 22 [(0, (jL [(.agg zl13), (.agg zl3), (.agg zl10)])), (3, (jI 3)), (8, (jI 3)), (9, (jI 1))] [] []) ?_
 refine gO (tn 1 (kb tt (tn 5 (ke (el1 (.agg zl13) (.agg zl3) [(.agg zl10)]) (tn 2 (kc (q4_to hQ) (kn (wrE (3 + 0) 3 (by omega)) (tn 1 (kn (wrE (1 + 1) 2 (by omega)) (tn 1 z)))))))))) ?_
 refine uA (sx 22 [(0, (jL [(.agg zl13), (.agg zl3), (.agg zl10)])), (3, (jI 3)), (8, (jI 3)), (9, (jI 2))] [] []) ?_
 refine gO (tn 1 (kb tt (tn 5 (ke (el2 (.agg zl13) (.agg zl3) (.agg zl10) []) (tn 2 (kc (q4_to hQ) (kn (wrE (3 + 0) 3 (by omega)) (tn 1 (kn (wrE (2 + 1) 3 (by omega)) (tn 1 z)))))))))) ?_
 refine uA (sx 22 [(0, (jL [(.agg zl13), (.agg zl3), (.agg zl10)])), (3, (jI 3)), (8, (jI 3)), (9, (jI 3))] [] []) ?_
 refine gO (tn 1 (kb ff z)) ?_
 refine uO (tn 2 z) ?_
 exact eN
theorem q109_to {s : ByteArray} (hQ : Qs s) : CallTo Tryz.prog 40 [(jL [(.agg (zl6 s)), (.agg zl16)])] [] [] (jI 7) [] [] := by
 have ⟨hc, he, hs, hz, hes⟩ := hQ.a
 refine bG Tryz.func40 ?_
 refine gO (tn 7 z) ?_
 refine uN (sx 29 [(0, (jL [(.agg (zl6 s)), (.agg zl16)])), (3, (jI 2)), (8, (jI 2)), (9, (jI 0))] [] []) 60 ?_
 refine gO (tn 1 (kb tt (tn 2 z))) ?_
 have d1 := (el0 (.agg (zl6 s)) [(.agg zl16)])
 have d2 := (q4_to hQ)
 have d3 := (el0 (.agg (zl6 s)) [(.agg zl16)])
 have d4 := (q5_to hQ)
 have d5 := wrE (0 + 2) 2 (by omega)
 have d6 := wrE (2 + 2) 4 (by omega)
 refine DR3 (tn 3 (ko (eO d1) (kp d1 (tn 2 (ko (cO d2) (kp d2 (tn 3 (ko (eO d3) (kp d3 (tn 2 (ko (cO d4) (kp d4 (tn 1 (ko (nO d5) (kp d5 (ko (nO d6) (kp d6 (tn 1 (kn (wrE (0 + 1) 1 (by omega)) (tn 1 z)))))))))))))))))))) (by kernel_rfl) (by kernel_rfl) (by kernel_rfl) ?_
 refine uA (sx 29 [(0, (jL [(.agg (zl6 s)), (.agg zl16)])), (3, (jI 4)), (8, (jI 2)), (9, (jI 1)), (12, (jI 2)), (13, (jL [(.agg (zl6 s)), (.agg zl16)])), (14, (jI 0)), (15, (.av (.ro (zl6 s) 0))), (16, (.av (.ro (zl6 s) 9))), (17, (jL [])), (18, (jI 0)), (19, (jL [(.agg (zl6 s)), (.agg zl16)])), (20, (jI 0)), (21, (.av (.ro (zl6 s) 0))), (22, (.av (.ro (zl6 s) 10))), (23, (jL [(.agg (zl2 s))])), (24, (jI 2)), (25, (jI 2)), (26, (jI 4))] [] []) ?_
 refine gO (tn 1 (kb tt (tn 2 z))) ?_
 have d7 := (el1 (.agg (zl6 s)) (.agg zl16) [])
 have d8 := (q110_to hQ)
 have d9 := (el1 (.agg (zl6 s)) (.agg zl16) [])
 have d10 := (q7_to hQ)
 have d11 := wrE (3 + 0) 3 (by omega)
 have d12 := wrE (4 + 3) 7 (by omega)
 refine DR3 (tn 3 (ko (eO d7) (kp d7 (tn 2 (ko (cO d8) (kp d8 (tn 3 (ko (eO d9) (kp d9 (tn 2 (ko (cO d10) (kp d10 (tn 1 (ko (nO d11) (kp d11 (ko (nO d12) (kp d12 (tn 1 (kn (wrE (1 + 1) 2 (by omega)) (tn 1 z)))))))))))))))))))) (by kernel_rfl) (by kernel_rfl) (by kernel_rfl) ?_
 refine uA (sx 29 [(0, (jL [(.agg (zl6 s)), (.agg zl16)])), (3, (jI 7)), (8, (jI 2)), (9, (jI 2)), (12, (jI 4)), (13, (jL [(.agg (zl6 s)), (.agg zl16)])), (14, (jI 1)), (15, (.av (.ro zl16 0))), (16, (.av (.ro zl16 9))), (17, (jL [(.agg zl13), (.agg zl3), (.agg zl10)])), (18, (jI 3)), (19, (jL [(.agg (zl6 s)), (.agg zl16)])), (20, (jI 1)), (21, (.av (.ro zl16 0))), (22, (.av (.ro zl16 10))), (23, (jL [])), (24, (jI 0)), (25, (jI 3)), (26, (jI 7))] [] []) ?_
 refine gO (tn 1 (kb ff z)) ?_
 refine uO (tn 2 z) ?_
 exact eN
theorem q108_to {s : ByteArray} (hQ : Qs s) : CallTo Tryz.prog 19 [(.av (.agg (zl17 s)))] [] [] (jI 7) [] [] := by
 refine bG Tryz.func19 ?_
 refine gO (tn 4 (kc (q109_to hQ) (tn 1 z))) ?_
 exact eN
theorem q113_to {s : ByteArray} (hQ : Qs s) : CallTo Tryz.prog 72 [(.av (.ro zl16 0))] [] [] (jB true) [] [] := by
 refine bG Tryz.func72 ?_
 refine gO (tn 15 (kb tt (kb tt (tn 3 (kb ff (tn 1 (kb ff (tn 1 (kb ff (tn 1 (kb ff (tn 1 (kb ff (tn 1 (kb ff (tn 1 (kb tt (tn 1 (kb tt (tn 1 (kb ff (tn 1 (kb ff (tn 1 (kb ff (tn 1 (kb ff (tn 1 (kb ff (tn 1 (kb tt (kb ff (kb tt (tn 1 (kb (show eqs (⟨#[]⟩) (⟨#[]⟩) = true from (by kernel_rfl)) (tn 1 (kb (show eqs (⟨#[]⟩) (⟨#[]⟩) = true from (by kernel_rfl)) (tn 1 (kb ff (tn 1 (kb ff (tn 1 (kb ff (tn 1 (kb ff (tn 1 (kb ff (tn 1 (kb (show eqs (⟨#[]⟩) (⟨#[]⟩) = true from (by kernel_rfl)) (kb ff (kb (show eqs (⟨#[]⟩) (⟨#[]⟩) = true from (by kernel_rfl)) (tn 1 (kb (show eqs (⟨#[]⟩) (⟨#[]⟩) = true from (by kernel_rfl)) (tn 1 (kb (show eqs (⟨#[]⟩) (⟨#[]⟩) = true from (by kernel_rfl)) (tn 1 (kb ff (tn 1 (kb ff (tn 1 (kb ff (tn 1 (kb ff (tn 1 (kb ff (tn 1 (kb (show eqs (⟨#[]⟩) (⟨#[]⟩) = true from (by kernel_rfl)) (kb ff (kb (show eqs (⟨#[]⟩) (⟨#[]⟩) = true from (by kernel_rfl)) (tn 1 (kb (show eqs (⟨#[]⟩) (⟨#[]⟩) = true from (by kernel_rfl)) (tn 1 (kb (show eqs (⟨#[]⟩) (⟨#[]⟩) = true from (by kernel_rfl)) (tn 1 (kb ff (tn 1 (kb ff (tn 1 (kb ff (tn 1 (kb ff (tn 1 (kb ff (tn 1 (kb (show eqs (⟨#[]⟩) (⟨#[]⟩) = true from (by kernel_rfl)) (kb ff (kb (show eqs (⟨#[]⟩) (⟨#[]⟩) = true from (by kernel_rfl)) (tn 1 (kb (show eqs (⟨#[]⟩) (⟨#[]⟩) = true from (by kernel_rfl)) (tn 1 (kb (show eqs (⟨#[]⟩) (⟨#[]⟩) = true from (by kernel_rfl)) (tn 1 (kb ff (tn 1 (kb ff (tn 1 (kb ff (tn 1 (kb ff (tn 1 (kb ff (kc (q42_to hQ) (kb (show eqs (⟨#[]⟩) (⟨#[]⟩) = true from (by kernel_rfl)) (kb ff (kb (show eqs (⟨#[]⟩) (⟨#[]⟩) = true from (by kernel_rfl)) (tn 1 (kb tt (tn 1 (kb tt (tn 1 (kb tt (kb tt (kb tt (kb tt (kb tt (kb tt (kb tt (kb tt (kb tt (tn 1 (kb tt (tn 1 (kb tt (tn 1 (kb ff (tn 1 (kb ff (tn 1 (kb ff (tn 1 (kb ff (tn 1 (kb ff (tn 1 (kb ff (tn 1 (kb tt (kb ff (kb tt (tn 1 z)))))))))))))))))))))))))))))))))))))))))))))))))))))))))))))))))))))))))))))))))))))))))))))))))))))))))))))))))))))))))))))))))))))))))))) ?_
 exact eN
theorem q116_to {s : ByteArray} (hQ : Qs s) : CallTo Tryz.prog 100 [(jL [(.agg zl13), (.agg zl3), (.agg zl10)]), (jI 0)] [] [] (jI 0) [] [] := by
 have ⟨hc, he, hs, hz, hes⟩ := hQ.a
 refine bG Tryz.func100 ?_
 refine gO (tn 4 z) ?_
 refine uN (sx 76 [(0, (jL [(.agg zl13), (.agg zl3), (.agg zl10)])), (1, (jI 0)), (11, (jI 3)), (12, (jI 0))] [] []) 60 ?_
 refine gO (tn 1 (kb tt (tn 4 (kb ff (tn 3 (kb ff (tn 2 (ke (el0 (.agg zl13) [(.agg zl3), (.agg zl10)]) (tn 2 (kc (q99_to hQ) (tn 1 (kb ff (tn 3 (kb tt (tn 1 (kb tt (tn 1 (kb tt (tn 1 (kb tt (tn 1 (kb tt (tn 1 (kb tt (tn 1 (kb ff (kb ff (kb tt (kb ff (kb tt (tn 1 (kb ff (tn 1 (kb ff (tn 1 (kb ff (tn 1 (kb ff (tn 1 (kb ff (kp (show Uni 1 [(vI 2), (vI 3)] from (by simp [Uni, AV.cells, AV.isTup])) (kb ff (kc (q49_to hQ) (kb ff (tn 1 (kb ff (kb ff (kb ff (kb ff (kb ff (kb ff (kb ff (kb tt (kb ff (kb tt (kb ff (tn 2 (kc (q100_to hQ) (tn 3 (kb ff (tn 5 (kn (wrE (0 + 1) 1 (by omega)) (kc (q51_to hQ) (tn 3 (kb ff (kn (wrE (0 + 1) 1 (by omega)) (tn 1 z))))))))))))))))))))))))))))))))))))))))))))))))))))))))))))))))))) ?_
 refine uA (sx 76 [(0, (jL [(.agg zl13), (.agg zl3), (.agg zl10)])), (1, (jI 0)), (11, (jI 3)), (12, (jI 1))] [] []) ?_
 refine gO (tn 1 (kb tt (tn 4 (kb ff (tn 3 (kb tt (tn 2 (kn (wrE (1 - 1) 0 (by omega)) (ke (el0 (.agg zl13) [(.agg zl3), (.agg zl10)]) (tn 5 (ke (el1 (.agg zl13) (.agg zl3) [(.agg zl10)]) (tn 2 (kc (q58_to hQ) (tn 1 (kb ff (tn 3 (kb tt (tn 1 (kb tt (tn 1 (kb tt (tn 1 (kb tt (tn 1 (kb tt (tn 1 (kb tt (tn 1 (kb ff (kb ff (kb tt (kb ff (kb tt (tn 1 (kb ff (tn 1 (kb ff (tn 1 (kb ff (tn 1 (kb ff (tn 1 (kb ff (kp (show Uni 1 [(vI 2), (vI 3)] from (by simp [Uni, AV.cells, AV.isTup])) (kb ff (kc (q59_to hQ) (kb ff (tn 1 (kb ff (kb ff (kb ff (kb ff (kb ff (kb ff (kb ff (kb tt (kb ff (kb tt (kb ff (tn 2 (kc (q101_to hQ) (tn 3 (kb ff (tn 5 (kn (wrE (0 + 1) 1 (by omega)) (kc (q51_to hQ) (tn 3 (kb ff (kn (wrE (1 + 1) 2 (by omega)) (tn 1 z)))))))))))))))))))))))))))))))))))))))))))))))))))))))))))))))))))))) ?_
 refine uA (sx 76 [(0, (jL [(.agg zl13), (.agg zl3), (.agg zl10)])), (1, (jI 0)), (11, (jI 3)), (12, (jI 2))] [] []) ?_
 refine gO (tn 1 (kb tt (tn 4 (kb ff (tn 3 (kb tt (tn 2 (kn (wrE (2 - 1) 1 (by omega)) (ke (el1 (.agg zl13) (.agg zl3) [(.agg zl10)]) (tn 5 (ke (el2 (.agg zl13) (.agg zl3) (.agg zl10) []) (tn 2 (kc (q82_to hQ) (tn 1 (kb ff (tn 3 (kb tt (tn 1 (kb tt (tn 1 (kb tt (tn 1 (kb tt (tn 1 (kb tt (tn 1 (kb tt (tn 1 (kb ff (kb ff (kb tt (kb ff (kb tt (tn 1 (kb ff (tn 1 (kb ff (tn 1 (kb ff (tn 1 (kb ff (tn 1 (kb ff (kp (show Uni 1 [(vI 2), (vI 3)] from (by simp [Uni, AV.cells, AV.isTup])) (kb ff (kc (q49_to hQ) (kb ff (tn 1 (kb ff (kb ff (kb ff (kb ff (kb ff (kb ff (kb ff (kb tt (kb ff (kb tt (kb ff (tn 2 (kc (q83_to hQ) (tn 3 (kb ff (tn 5 (kn (wrE (0 + 1) 1 (by omega)) (kc (q51_to hQ) (tn 3 (kb ff (kn (wrE (2 + 1) 3 (by omega)) (tn 1 z)))))))))))))))))))))))))))))))))))))))))))))))))))))))))))))))))))))) ?_
 refine uA (sx 76 [(0, (jL [(.agg zl13), (.agg zl3), (.agg zl10)])), (1, (jI 0)), (11, (jI 3)), (12, (jI 3))] [] []) ?_
 refine gO (tn 1 (kb ff z)) ?_
 refine uO (tn 1 z) ?_
 exact eN
theorem q115_to {s : ByteArray} (hQ : Qs s) : CallTo Tryz.prog 88 [(jL [(.agg zl13), (.agg zl3), (.agg zl10)])] [] [] (jI 0) [] [] := by
 refine bG Tryz.func88 ?_
 refine gO (tn 2 (kc (q116_to hQ) (tn 1 z))) ?_
 exact eN
theorem q114_to {s : ByteArray} (hQ : Qs s) : CallTo Tryz.prog 74 [(.av (.ro zl16 0))] [] [] (jI 0) [] [] := by
 refine bG Tryz.func74 ?_
 refine gO (tn 7 (kb tt (tn 6 (kb ff (tn 4 (kc (q115_to hQ) (tn 1 z))))))) ?_
 exact eN
theorem q112_to {s : ByteArray} (hQ : Qs s) : CallTo Tryz.prog 54 [(jL [(.agg (zl6 s)), (.agg zl16)]), (jI 0), (jI 0)] [] [] (jI 0) [] [] := by
 have ⟨hc, he, hs, hz, hes⟩ := hQ.a
 refine bG Tryz.func54 ?_
 refine gO (tn 4 z) ?_
 refine uN (sx 53 [(0, (jL [(.agg (zl6 s)), (.agg zl16)])), (1, (jI 0)), (2, (jI 0)), (12, (jI 2)), (13, (jI 0))] [] []) 60 ?_
 refine gO (tn 1 (kb tt (tn 4 (kb ff (tn 2 (ke (el0 (.agg (zl6 s)) [(.agg zl16)]) (tn 2 (kc (q11_to hQ) (tn 2 (kb ff (tn 1 (kb ff (tn 1 (kb ff (tn 1 (kb ff (tn 1 (kb ff (tn 1 (kb ff (kc (q12_to hQ) (kb ff (tn 1 (kb ff (kb ff (tn 1 (kc (q14_to hQ) (tn 3 (kb ff z))))))))))))))))))))))))))))) ?_
 have d1 := wrE (0 + 1) 1 (by omega)
 have d2 := (q40_to hQ)
 refine DR3 (tn 9 (ko (nO d1) (kp d1 (ko (cO d2) (kp d2 (tn 4 (kb ff (kn (wrE (0 + 1) 1 (by omega)) (tn 1 z))))))))) (by kernel_rfl) (by kernel_rfl) (by kernel_rfl) ?_
 refine uA (sx 53 [(0, (jL [(.agg (zl6 s)), (.agg zl16)])), (1, (jI 0)), (2, (jI 0)), (10, (jI 0)), (12, (jI 2)), (13, (jI 1)), (38, (.av (.ro (zl6 s) 0))), (39, (.av (.ro (zl6 s) 0))), (40, (.av (.ro (zl6 s) 10))), (41, (jL [(.agg (zl2 s))])), (42, (.av (.ro (zl6 s) 0))), (43, (.av (.ro (zl6 s) 0))), (44, (.av (.ro (zl6 s) 0))), (45, (jI 13)), (46, (jI 0)), (47, (jI 1)), (48, (jI 0))] [] []) ?_
 refine gO (tn 1 (kb tt (tn 4 (kb ff (tn 2 (ke (el1 (.agg (zl6 s)) (.agg zl16) []) (tn 2 (kc (q113_to hQ) (tn 2 (kb ff (tn 1 (kb ff (tn 1 (kb ff (tn 1 (kb ff (tn 1 (kb ff (tn 1 (kb ff (kc (q54_to hQ) (kb ff (tn 1 (kb ff (kb ff (tn 1 (kc (q114_to hQ) (tn 3 (kb ff z))))))))))))))))))))))))))))) ?_
 have d3 := wrE (0 + 1) 1 (by omega)
 have d4 := (q66_to hQ)
 refine DR3 (tn 9 (ko (nO d3) (kp d3 (ko (cO d4) (kp d4 (tn 4 (kb ff (kn (wrE (1 + 1) 2 (by omega)) (tn 1 z))))))))) (by kernel_rfl) (by kernel_rfl) (by kernel_rfl) ?_
 refine uA (sx 53 [(0, (jL [(.agg (zl6 s)), (.agg zl16)])), (1, (jI 0)), (2, (jI 0)), (10, (jI 0)), (12, (jI 2)), (13, (jI 2)), (38, (.av (.ro zl16 0))), (39, (.av (.ro zl16 0))), (40, (.av (.ro zl16 10))), (41, (jL [])), (42, (.av (.ro zl16 0))), (43, (.av (.ro zl16 0))), (44, (.av (.ro zl16 0))), (45, (jI 1)), (46, (jI 0)), (47, (jI 1)), (48, (jI 0))] [] []) ?_
 refine gO (tn 1 (kb ff z)) ?_
 refine uO (tn 1 z) ?_
 exact eN
theorem q111_to {s : ByteArray} (hQ : Qs s) : CallTo Tryz.prog 32 [(jL [(.agg (zl6 s)), (.agg zl16)])] [] [] (jI 0) [] [] := by
 refine bG Tryz.func32 ?_
 refine gO (tn 2 (kc (q112_to hQ) (tn 1 z))) ?_
 exact eN
theorem q107_to {s : ByteArray} (hQ : Qs s) : CallTo Tryz.prog 16 [(.av (.agg (zl17 s)))] [] [] (jI 0) [] [] := by
 refine bG Tryz.func16 ?_
 refine gO (tn 3 (kc (q108_to hQ) (tn 2 (kb ff (tn 1 (kb ff (tn 1 (kb ff (tn 1 (kb ff (tn 1 (kb ff (kb ff (tn 6 z)))))))))))))) ?_
 refine uN (sx 48 [(1, (.ptr 1 0)), (3, (.mp 15)), (17, (jL [])), (18, (jI 0)), (19, (jI 0))] [(15, (.map ([]) ([]))), (1, (.cells 42 [(jL []), (jL [(.agg (zl6 s)), (.agg zl16)])]))] []) 60 ?_
 refine gO (tn 1 (kb ff z)) ?_
 refine uO (tn 2 (kc (q111_to hQ) (tn 1 z))) ?_
 exact eN
theorem q119_to {s : ByteArray} (hQ : Qs s) : CallTo Tryz.prog 40 [(jL [(.agg zl16)])] [] [] (jI 4) [] [] := by
 have ⟨hc, he, hs, hz, hes⟩ := hQ.a
 refine bG Tryz.func40 ?_
 refine gO (tn 7 z) ?_
 refine uN (sx 29 [(0, (jL [(.agg zl16)])), (3, (jI 1)), (8, (jI 1)), (9, (jI 0))] [] []) 60 ?_
 refine gO (tn 1 (kb tt (tn 2 z))) ?_
 have d1 := (el0 (.agg zl16) [])
 have d2 := (q110_to hQ)
 have d3 := (el0 (.agg zl16) [])
 have d4 := (q7_to hQ)
 have d5 := wrE (3 + 0) 3 (by omega)
 have d6 := wrE (1 + 3) 4 (by omega)
 refine DR3 (tn 3 (ko (eO d1) (kp d1 (tn 2 (ko (cO d2) (kp d2 (tn 3 (ko (eO d3) (kp d3 (tn 2 (ko (cO d4) (kp d4 (tn 1 (ko (nO d5) (kp d5 (ko (nO d6) (kp d6 (tn 1 (kn (wrE (0 + 1) 1 (by omega)) (tn 1 z)))))))))))))))))))) (by kernel_rfl) (by kernel_rfl) (by kernel_rfl) ?_
 refine uA (sx 29 [(0, (jL [(.agg zl16)])), (3, (jI 4)), (8, (jI 1)), (9, (jI 1)), (12, (jI 1)), (13, (jL [(.agg zl16)])), (14, (jI 0)), (15, (.av (.ro zl16 0))), (16, (.av (.ro zl16 9))), (17, (jL [(.agg zl13), (.agg zl3), (.agg zl10)])), (18, (jI 3)), (19, (jL [(.agg zl16)])), (20, (jI 0)), (21, (.av (.ro zl16 0))), (22, (.av (.ro zl16 10))), (23, (jL [])), (24, (jI 0)), (25, (jI 3)), (26, (jI 4))] [] []) ?_
 refine gO (tn 1 (kb ff z)) ?_
 refine uO (tn 2 z) ?_
 exact eN
theorem q118_to {s : ByteArray} (hQ : Qs s) : CallTo Tryz.prog 19 [(.av (.agg [(.sl []), (.sl [(.agg zl16)])]))] [] [] (jI 4) [] [] := by
 refine bG Tryz.func19 ?_
 refine gO (tn 4 (kc (q119_to hQ) (tn 1 z))) ?_
 exact eN
theorem q121_to {s : ByteArray} (hQ : Qs s) : CallTo Tryz.prog 54 [(jL [(.agg zl16)]), (jI 0), (jI 0)] [] [] (jI 0) [] [] := by
 have ⟨hc, he, hs, hz, hes⟩ := hQ.a
 refine bG Tryz.func54 ?_
 refine gO (tn 4 z) ?_
 refine uN (sx 53 [(0, (jL [(.agg zl16)])), (1, (jI 0)), (2, (jI 0)), (12, (jI 1)), (13, (jI 0))] [] []) 60 ?_
 refine gO (tn 1 (kb tt (tn 4 (kb ff (tn 2 (ke (el0 (.agg zl16) []) (tn 2 (kc (q113_to hQ) (tn 2 (kb ff (tn 1 (kb ff (tn 1 (kb ff (tn 1 (kb ff (tn 1 (kb ff (tn 1 (kb ff (kc (q54_to hQ) (kb ff (tn 1 (kb ff (kb ff (tn 1 (kc (q114_to hQ) (tn 3 (kb ff z))))))))))))))))))))))))))))) ?_
 have d1 := wrE (0 + 1) 1 (by omega)
 have d2 := (q66_to hQ)
 refine DR3 (tn 9 (ko (nO d1) (kp d1 (ko (cO d2) (kp d2 (tn 4 (kb ff (kn (wrE (0 + 1) 1 (by omega)) (tn 1 z))))))))) (by kernel_rfl) (by kernel_rfl) (by kernel_rfl) ?_
 refine uA (sx 53 [(0, (jL [(.agg zl16)])), (1, (jI 0)), (2, (jI 0)), (10, (jI 0)), (12, (jI 1)), (13, (jI 1)), (38, (.av (.ro zl16 0))), (39, (.av (.ro zl16 0))), (40, (.av (.ro zl16 10))), (41, (jL [])), (42, (.av (.ro zl16 0))), (43, (.av (.ro zl16 0))), (44, (.av (.ro zl16 0))), (45, (jI 1)), (46, (jI 0)), (47, (jI 1)), (48, (jI 0))] [] []) ?_
 refine gO (tn 1 (kb ff z)) ?_
 refine uO (tn 1 z) ?_
 exact eN
theorem q120_to {s : ByteArray} (hQ : Qs s) : CallTo Tryz.prog 32 [(jL [(.agg zl16)])] [] [] (jI 0) [] [] := by
 refine bG Tryz.func32 ?_
 refine gO (tn 2 (kc (q121_to hQ) (tn 1 z))) ?_
 exact eN
theorem q117_to {s : ByteArray} (hQ : Qs s) : CallTo Tryz.prog 16 [(.av (.agg [(.sl []), (.sl [(.agg zl16)])]))] [] [] (jI 0) [] [] := by
 refine bG Tryz.func16 ?_
 refine gO (tn 3 (kc (q118_to hQ) (tn 2 (kb ff (tn 1 (kb ff (tn 1 (kb ff (tn 1 (kb ff (tn 1 (kb ff (kb ff (tn 6 z)))))))))))))) ?_
 refine uN (sx 48 [(1, (.ptr 1 0)), (3, (.mp 15)), (17, (jL [])), (18, (jI 0)), (19, (jI 0))] [(15, (.map ([]) ([]))), (1, (.cells 42 [(jL []), (jL [(.agg zl16)])]))] []) 60 ?_
 refine gO (tn 1 (kb ff z)) ?_
 refine uO (tn 2 (kc (q120_to hQ) (tn 1 z))) ?_
 exact eN
end Go.Proofs.YtkgflongbanbgaaGreatDoor
namespace Go.Proofs.YtkgflongbanbgaaGreatDoor
open Go Go.Eng
def macT (l : List DMacro) : List ByteArray × List AV := l.foldl (fun q m => (mputK q.1 m.fName, mputV q.1 q.2 m.fName (aMacro m))) ([], [])
theorem macT_snoc (l : List DMacro) (m : DMacro) : macT (l ++ [m]) = (mputK (macT l).1 m.fName, mputV (macT l).1 (macT l).2 m.fName (aMacro m)) := by simp [macT]
theorem addV_snoc (q : List ByteArray × List AV) (l : List DPair) (p : DPair) : (l ++ [p]).foldl addV q = addV (l.foldl addV q) p := by simp
theorem tk_snoc {α : Type} [Inhabited α] {l : List α} {v : Nat} (h : v < l.length) : l.take (v + 1) = l.take v ++ [el l v] := by
 rw [List.take_succ_eq_append_getElem h]
 simp [el, h]
def xB (q r : List ByteArray × List AV) : List (Nat × ABox) := [(20, .cells 83 [.mp 16, .mp 17, .mp 18, .av (.val (.int .i64 0))]), (16, .map q.1 q.2), (17, .map r.1 r.2), (18, .map [] [])]
def mgetF (ks : List ByteArray) (vs : List AV) (s : ByteArray) : AV := match mgetT true (vS ⟨#[]⟩) ks vs s with | .tup (x :: _) => x | _ => vS ⟨#[]⟩
theorem mgetF_eq (ks : List ByteArray) (vs : List AV) (s : ByteArray) : mgetT true (vS ⟨#[]⟩) ks vs s = .tup [mgetF ks vs s, vB (kpos ks s).isSome] := by
 unfold mgetF mgetT mget
 cases kpos ks s <;> rfl
def aPrs (l : List DPair) : AV := .sl (l.map aPair)
theorem nx1_w (a b c : AV) : W Tryz.prog (.region 1 (regOps 1 Tryz.f17) false) (fun e S1 => e = .normal ∧ Weak S1 (sx 72 [(0, .av a), (1, .av b), (2, .av c), (7, .ptr 20 0)] (xB ([], []) ([], [])) [])) (sx 72 [(0, .av a), (1, .av b), (2, .av c)] [] []) := by
 refine W_regionO ?_
 rw [show (regOps 1 Tryz.f17).toList = [regO 1 Tryz.f17 0, regO 1 Tryz.f17 1, regO 1 Tryz.f17 2, regO 1 Tryz.f17 3, regO 1 Tryz.f17 4, regO 1 Tryz.f17 5] by kernel_rfl]
 refine WO_own (.mp 16) 16 (by kernel_rfl) (sound_makeMap (t := 79) (k := 9) (e := 54) (r := none) (id := 16) (by kernel_rfl) (by kernel_rfl) (by intro x h; cases h) (by decide) (by kernel_rfl)) ?_
 refine WO_own (.mp 17) 17 (by kernel_rfl) (sound_makeMap (t := 80) (k := 9) (e := 9) (r := none) (id := 17) (by kernel_rfl) (by kernel_rfl) (by intro x h; cases h) (by decide) (by kernel_rfl)) ?_
 refine WO_own (.mp 18) 18 (by kernel_rfl) (sound_makeMap (t := 81) (k := 9) (e := 27) (r := none) (id := 18) (by kernel_rfl) (by kernel_rfl) (by intro x h; cases h) (by decide) (by kernel_rfl)) ?_
 refine WO_exp (t := 83) (m1 := 16) (m2 := 17) (m3 := 18) (b1 := 16) (b2 := 17) (b3 := 18) (d1 := 19) (d2 := 20) (bt := 32) (by kernel_rfl) (by kernel_rfl) (by kernel_rfl) (by kernel_rfl) (by kernel_rfl) (by kernel_rfl) (by kernel_rfl) (by kernel_rfl) (by kernel_rfl) (by kernel_rfl) (by kernel_rfl) (Nat.lt_of_lt_of_eq (by decide : 19 < 72) (by kernel_rfl)) (by decide) (by kernel_rfl) (by decide) (by decide) (by decide) ?_
 refine WO_pure (.ptr 20 0) 7 (by kernel_rfl) (by kernel_rfl) ?_
 exact WO_nil rfl ⟨rfl, WK (by kernel_rfl)⟩
theorem nwx_to (ms : List DMacro) (me va : List DPair) (hms : ms.length ≤ 1073741824) (hme : me.length ≤ 1073741824) (hva : va.length ≤ 1073741824) :
  CallNew Tryz.prog 17 [.av (.sl (ms.map aMacro)), .av (aPrs me), .av (aPrs va)] (xB (macT ms) ((me ++ va).foldl addV ([], []))) (.ptr 20 0) := by
 have hlq := lenM_eq aMacro ms
 have hl1 := lenM_eq aPair me
 have hl2 := lenM_eq aPair va
 refine BEGn Tryz.func17 (by kernel_rfl) ?_
 refine GO (tn 1 (kq 1 z)) (by kernel_rfl) ?_
 refine NXW (sx 72 [(0, .av (.sl (ms.map aMacro))), (1, .av (aPrs me)), (2, .av (aPrs va)), (7, .ptr 20 0)] (xB ([], []) ([], [])) []) (tn 3 z) (by kernel_rfl) ?_ (by kernel_rfl) ?_
 ·refine W_weak (S' := sx 72 [(0, .av (.sl (ms.map aMacro))), (1, .av (aPrs me)), (2, .av (aPrs va))] [] []) (WK (by kernel_rfl)) ?_
  exact W_code (c' := .region 1 (regOps 1 Tryz.f17) false) (by kernel_rfl) (nx1_w _ _ _)
 refine LP (n := ms.length + 1) (fun N M S => ∃ (v : Nat) (q : List ByteArray × List AV), (v ≤ ms.length) ∧ q = macT (ms.take v) ∧ (ms.length - v < N) ∧ M = () ∧ S = (sx 72 [(1, .av (aPrs me)), (2, .av (aPrs va)), (7, .ptr 20 0), (21, jL (ms.map aMacro)), (22, jI ((lenM aMacro ms : Nat) : Int)), (23, jI ((v : Nat) : Int))] (xB q ([], [])) [])) (by kernel_rfl) ⟨0, ([], []), by omega, rfl, by omega, rfl, rfl⟩ (WK (by kernel_rfl)) ?_
 rintro n0 M S ⟨v, q, hv, hq, hF0, rfl, rfl⟩
 obtain ⟨n0, rfl⟩ : ∃ k, n0 = k + 1 := ⟨n0 - 1, by omega⟩
 by_cases h1 : v < ms.length
 ·have hd : decide (((v : Nat) : Int) < ((lenM aMacro ms : Nat) : Int)) = true := dT (by omega)
  have hwr := wrE (((v : Nat) : Int) + 1) ((v + 1 : Nat) : Int) (by omega)
  refine GO (tn 1 (kb hd (ke (el_aMacro ms v h1) (tn 3 z)))) (by kernel_rfl) ?_
  refine DR3 (tn 8 (kn hwr (tn 1 z))) (by kernel_rfl) (by kernel_rfl) (by kernel_rfl) ?_
  exact AG ⟨v + 1, (mputK q.1 (el ms v).fName, mputV q.1 q.2 (el ms v).fName (aMacro (el ms v))), by omega, by rw [tk_snoc h1, macT_snoc, hq], by omega, rfl, rfl⟩ (WK (by kernel_rfl)) (by kernel_rfl) (Nat.lt_succ_self _)
 ·have hd : decide (((v : Nat) : Int) < ((lenM aMacro ms : Nat) : Int)) = false := dF (by omega)
  have hm : ms.take v = ms := List.take_of_length_le (by omega)
  rw [hm] at hq
  rw [← hq]
  generalize q = mt
  have hu : Uni 1 [aPrs me, aPrs va] := by
   intro c hc
   simp only [List.mem_cons, List.not_mem_nil, or_false] at hc
   rcases hc with rfl | rfl <;> exact ⟨rfl, rfl⟩
  refine GO (tn 1 (kb hd z)) (by kernel_rfl) ?_
  refine OUT (tn 2 (kp hu (tn 2 z))) (by kernel_rfl) ?_
  refine UN (sx 72 [(7, .ptr 20 0), (37, jL [aPrs me, aPrs va]), (38, jI 2), (39, jI 0)] (xB mt ([], [])) []) 5 (by kernel_rfl) (WK (by kernel_rfl)) ?_
  refine GO (tn 1 (kb tt (ke (show 0 ≤ (0 : Int) ∧ ([aPrs me, aPrs va] : List AV)[0]? = some (aPrs me) from ⟨by decide, rfl⟩) (tn 5 z)))) (by kernel_rfl) ?_
  refine LP (n := me.length + 1) (fun N M S => ∃ (i : Nat) (r : List ByteArray × List AV), (i ≤ me.length) ∧ r = (me.take i).foldl addV ([], []) ∧ (me.length - i < N) ∧ M = () ∧ S = (sx 72 [(7, .ptr 20 0), (37, jL [aPrs me, aPrs va]), (38, jI 2), (39, jI 0), (43, jL (me.map aPair)), (44, jI ((lenM aPair me : Nat) : Int)), (45, jI ((i : Nat) : Int))] (xB mt r) [])) (by kernel_rfl) ⟨0, ([], []), by omega, rfl, by omega, rfl, rfl⟩ (WK (by kernel_rfl)) ?_
  rintro n0 M S ⟨i, r, hi, hr, hFi, rfl, rfl⟩
  obtain ⟨n0, rfl⟩ : ∃ k, n0 = k + 1 := ⟨n0 - 1, by omega⟩
  by_cases h2 : i < me.length
  ·have hd2 : decide (((i : Nat) : Int) < ((lenM aPair me : Nat) : Int)) = true := dT (by omega)
   have hw2 := wrE (((i : Nat) : Int) + 1) ((i + 1 : Nat) : Int) (by omega)
   have hlk : mgetT true (vS ⟨#[]⟩) r.1 r.2 (el me i).fKey = .tup [mgetF r.1 r.2 (el me i).fKey, vB (kpos r.1 (el me i).fKey).isSome] := mgetF_eq _ _ _
   have hr2 : addV r (el me i) = (me.take (i + 1)).foldl addV ([], []) := by rw [tk_snoc h2, addV_snoc, ← hr]
   refine GO (tn 1 (kb hd2 (ke (el_aPair me i h2) (tn 3 z)))) (by kernel_rfl) ?_
   cases h3 : (kpos r.1 (el me i).fKey).isSome with
   | true =>
    have h3n : (!(kpos r.1 (el me i).fKey).isSome) = false := by rw [h3]; rfl
    rw [addV, h3, cond_true] at hr2
    refine DR3 (tn 6 (ko (lO hlk) (tn 1 (kp hlk (tn 5 (tn 2 (kb h3n (kn hw2 (tn 1 z))))))))) (by kernel_rfl) (by kernel_rfl) (by kernel_rfl) ?_
    exact AG ⟨i + 1, r, by omega, hr2, by omega, rfl, rfl⟩ (WK (by kernel_rfl)) (by kernel_rfl) (Nat.lt_succ_self _)
   | false =>
    have h3n : (!(kpos r.1 (el me i).fKey).isSome) = true := by rw [h3]; rfl
    rw [addV, h3, cond_false] at hr2
    refine DR3 (tn 6 (ko (lO hlk) (tn 1 (kp hlk (tn 5 (tn 2 (kb h3n z))))))) (by kernel_rfl) (by kernel_rfl) (by kernel_rfl) ?_
    refine DR3 (tn 9 (kn hw2 (tn 1 z))) (by kernel_rfl) (by kernel_rfl) (by kernel_rfl) ?_
    exact AG ⟨i + 1, _, by omega, hr2, by omega, rfl, rfl⟩ (WK (by kernel_rfl)) (by kernel_rfl) (Nat.lt_succ_self _)
  have hd2 : decide (((i : Nat) : Int) < ((lenM aPair me : Nat) : Int)) = false := dF (by omega)
  have hmi : me.take i = me := List.take_of_length_le (by omega)
  rw [hmi] at hr
  refine GO (tn 1 (kb hd2 z)) (by kernel_rfl) ?_
  refine OUT (kn (wrE (0 + 1) (0 + 1) (by omega)) (tn 1 z)) (by kernel_rfl) ?_
  have hr0 := hr
  refine UA (sx 72 [(7, .ptr 20 0), (37, jL [aPrs me, aPrs va]), (38, jI 2), (39, jI 1)] (xB mt r) []) (by kernel_rfl) (WK (by kernel_rfl)) ?_
  refine GO (tn 1 (kb tt (ke (show 0 ≤ (1 : Int) ∧ ([aPrs me, aPrs va] : List AV)[1]? = some (aPrs va) from ⟨by decide, rfl⟩) (tn 5 z)))) (by kernel_rfl) ?_
  generalize r = r0 at hr0
  clear hr
  refine LP (n := va.length + 1) (fun N M S => ∃ (i : Nat) (r : List ByteArray × List AV), (i ≤ va.length) ∧ r = (va.take i).foldl addV r0 ∧ (va.length - i < N) ∧ M = () ∧ S = (sx 72 [(7, .ptr 20 0), (37, jL [aPrs me, aPrs va]), (38, jI 2), (39, jI 1), (43, jL (va.map aPair)), (44, jI ((lenM aPair va : Nat) : Int)), (45, jI ((i : Nat) : Int))] (xB mt r) [])) (by kernel_rfl) ⟨0, r0, by omega, rfl, by omega, rfl, rfl⟩ (WK (by kernel_rfl)) ?_
  rintro n1 M S ⟨i, r, hi, hr, hFi, rfl, rfl⟩
  obtain ⟨n1, rfl⟩ : ∃ k, n1 = k + 1 := ⟨n1 - 1, by omega⟩
  by_cases h2 : i < va.length
  ·have hd2 : decide (((i : Nat) : Int) < ((lenM aPair va : Nat) : Int)) = true := dT (by omega)
   have hw2 := wrE (((i : Nat) : Int) + 1) ((i + 1 : Nat) : Int) (by omega)
   have hlk : mgetT true (vS ⟨#[]⟩) r.1 r.2 (el va i).fKey = .tup [mgetF r.1 r.2 (el va i).fKey, vB (kpos r.1 (el va i).fKey).isSome] := mgetF_eq _ _ _
   have hr2 : addV r (el va i) = (va.take (i + 1)).foldl addV r0 := by rw [tk_snoc h2, addV_snoc, ← hr]
   refine GO (tn 1 (kb hd2 (ke (el_aPair va i h2) (tn 3 z)))) (by kernel_rfl) ?_
   cases h3 : (kpos r.1 (el va i).fKey).isSome with
   | true =>
    have h3n : (!(kpos r.1 (el va i).fKey).isSome) = false := by rw [h3]; rfl
    rw [addV, h3, cond_true] at hr2
    refine DR3 (tn 6 (ko (lO hlk) (tn 1 (kp hlk (tn 5 (tn 2 (kb h3n (kn hw2 (tn 1 z))))))))) (by kernel_rfl) (by kernel_rfl) (by kernel_rfl) ?_
    exact AG ⟨i + 1, r, by omega, hr2, by omega, rfl, rfl⟩ (WK (by kernel_rfl)) (by kernel_rfl) (Nat.lt_succ_self _)
   | false =>
    have h3n : (!(kpos r.1 (el va i).fKey).isSome) = true := by rw [h3]; rfl
    rw [addV, h3, cond_false] at hr2
    refine DR3 (tn 6 (ko (lO hlk) (tn 1 (kp hlk (tn 5 (tn 2 (kb h3n z))))))) (by kernel_rfl) (by kernel_rfl) (by kernel_rfl) ?_
    refine DR3 (tn 9 (kn hw2 (tn 1 z))) (by kernel_rfl) (by kernel_rfl) (by kernel_rfl) ?_
    exact AG ⟨i + 1, _, by omega, hr2, by omega, rfl, rfl⟩ (WK (by kernel_rfl)) (by kernel_rfl) (Nat.lt_succ_self _)
  have hd2 : decide (((i : Nat) : Int) < ((lenM aPair va : Nat) : Int)) = false := dF (by omega)
  have hmi : va.take i = va := List.take_of_length_le (by omega)
  rw [hmi] at hr
  refine GO (tn 1 (kb hd2 z)) (by kernel_rfl) ?_
  refine OUT (kn (wrE (1 + 1) (1 + 1) (by omega)) (tn 1 z)) (by kernel_rfl) ?_
  refine UA (sx 72 [(7, .ptr 20 0), (37, jL [aPrs me, aPrs va]), (38, jI 2), (39, jI 2)] (xB mt r) []) (by kernel_rfl) (WK (by kernel_rfl)) ?_
  refine GO (tn 1 (kb ff z)) (by kernel_rfl) ?_
  refine UO (tn 2 z) (by kernel_rfl) ?_
  rw [List.foldl_append, ← hr0, ← hr]
  exact ENs (by kernel_rfl) (by kernel_rfl) (by kernel_rfl)
end Go.Proofs.YtkgflongbanbgaaGreatDoor
namespace Go.Proofs.YtkgflongbanbgaaGreatDoor
open Go Go.Eng Go.RowKit
theorem n_bsize : (Tryz.prog.info? 133).map (·.size) = some 2 := by kernel_rfl
theorem n_blies : liesAt Tryz.prog Tryz.prog.depth 133 (2 / Tryz.prog.cellsOf 133) 0 133 1 = true := by kernel_rfl
theorem n_bcells : Tryz.prog.cellsOf 5 = 1 := by kernel_rfl
set_option maxHeartbeats 1000000 in
theorem n_copyCheck_used (b : Nat) (w : World) (h0 : w.cell? ⟨b, 0, none⟩ = some (.pointer (some ⟨b, 0, none⟩))) :
  Calls Tryz.prog 98 #[.pointer (some ⟨b, 0, none⟩)] w fun e w' => e = .returned (.tuple #[]) ∧ w' = w := by
 obtain ⟨j, hj, _⟩ := Option.map_eq_some_iff.1 n_bsize
 go_enter Tryz.func98, Tryz.ntmps98
 go_wp2
 rw [Lib.run_neq_ptr_same w _ Tryz.underlying131 hj]
 go_wp2
 go_end0
 exact ⟨rfl, rfl⟩
set_option maxHeartbeats 1000000 in
theorem n_copyCheck_fresh (b : Nat) (w : World) (h0 : w.cell? ⟨b, 0, none⟩ = some (.pointer none)) (hsh : w.shape? b = some (133, 2)) (hfz : w.frozen? ⟨b, 0, none⟩ = false) :
  Calls Tryz.prog 98 #[.pointer (some ⟨b, 0, none⟩)] w fun e w' => e = .returned (.tuple #[]) ∧ w' = w.setCell ⟨b, 0, none⟩ (.pointer (some ⟨b, 0, none⟩)) := by
 obtain ⟨j, hj, hjs⟩ := Option.map_eq_some_iff.1 n_bsize
 go_enter Tryz.func98, Tryz.ntmps98
 go_wp2
 rw [Lib.run_to_unsafe w ⟨b, 0, none⟩ Tryz.underlying131 Tryz.underlying168 hj (by rw [hjs]; decide) hsh (Nat.zero_lt_succ 1)]
 simp only [Result.andThen]
 rw [Oper.upon_value]
 go_wp2
 rw [run_callFunc_extern Tryz.func112 (by kernel_rfl) (by kernel_rfl) (by kernel_rfl) (e := Extern.AbiNoEscape.same) (by kernel_rfl)]
 rw [Lib.run_noEscape]
 simp only [Result.andThen]
 rw [Oper.upon_value]
 go_wp2
 rw [Lib.run_from_unsafe w ⟨b, 0, none⟩ Tryz.underlying168 Tryz.underlying131 hj hsh n_blies]
 simp only [Result.andThen]
 rw [Oper.upon_value]
 go_wp2
 go_end0
 exact ⟨rfl, rfl⟩
theorem lies_off {P : Program} {e : TypeId} (hc : P.cellsOf e = 1) (count off n : Nat) (hn : off + n ≤ count) : liesAt P P.depth e count off e n = true := by
 have hd : P.depth = (2 * (P.types.size + Made.depth) + 1) + 1 := rfl
 rw [hd]
 simp only [liesAt, Bool.or_eq_true]
 left
 rw [hd]
 simp [rowAt, hc, hn, sameLayout, Nat.mod_one]
theorem run_ustr_off {P : Program} {w : World} (pt it ty e : TypeId) (hp : P.underlying pt = some (.pointer e)) (hc : P.cellsOf e = 1) (g off cells : Nat) (hsh : w.shape? g = some (e, cells)) (l : List UInt8) (h0 : l ≠ []) (hn : off + l.length ≤ cells) (h63 : l.length ≤ 9223372036854775807)
  (hcell : ∀ j x, l[j]? = some x → w.cell? ((⟨g, off, none⟩ : Addr).add j) = some (.int .u8 x.toNat)) :
  (Builtin.unsafeString_ #[pt, it] ty #[.pointer (some ⟨g, off, none⟩), .int .i64 l.length]).run P w = .ok (.string ⟨l.toArray⟩) (w.freeze ⟨g, off, none⟩ l.length) := by
 have hl : l.length ≠ 0 := by simpa using h0
 have hlb := Lib.run_loadBytes (P := P) (w := w) l ⟨g, off, none⟩ .empty hcell
 have hlies := lies_off (P := P) hc (cells / P.cellsOf e) off l.length (by rw [hc]; simpa using hn)
 have h63' : ¬ (9223372036854775807 : Int) < (l.length : Int) := by omega
 have hdef : Builtin.unsafeString_ #[pt, it] ty #[.pointer (some ⟨g, off, none⟩), .int .i64 l.length] =
   (do
    let n ← asInt (.int .i64 l.length)
    if n < 0 then runtimePanic (.error "unsafe.String: len out of range")
    if n > IntKind.i64.max then unsupported (.unsafePointer "String: a length above the largest int")
    if n = 0 then pure (.string .empty)
    else if ← variablesAt ⟨g, off, none⟩ (← elemOf pt) n.toNat then do
     let s ← loadBytes ⟨g, off, none⟩ .empty n.toNat
     freeze ⟨g, off, none⟩ n.toNat
     pure (.string s)
    else unsupported (.unsafePointer "String: not so many bytes at ptr")) := rfl
 rw [hdef]
 have hmax : IntKind.i64.max = 9223372036854775807 := rfl
 have hneg : ¬ (l.length : Int) < 0 := by omega
 simp [asInt, asIntOf, hmax, h63', hneg, hl, variablesAt, hsh, elemOf, run_underlying hp, hlies, hlb]
set_option maxHeartbeats 1000000 in
theorem String_calls (b g off n cap : Nat) (p : Value) (cur : Array Value) (l : List UInt8) (w : World) (h0 : l ≠ []) (hn : n = l.length) (hcap : l.length ≤ cap) (hcs : off + l.length ≤ cur.size) (h63 : l.length ≤ 9223372036854775807)
  (hbk : w.heap[b]? = some (.cells #[p, .slice (some ⟨g, off, none⟩) n cap] 133 (0, 0))) (hg : w.heap[g]? = some (.cells cur 5 (0, 0))) (hcell : ∀ j x, l[j]? = some x → w.cell? ⟨g, off + j, none⟩ = some (.int .u8 x.toNat)) :
  Calls Tryz.prog 80 #[.pointer (some ⟨b, 0, none⟩)] w fun e w' => e = .returned (.string ⟨l.toArray⟩) ∧ w'.heap = (w.freeze ⟨g, off, none⟩ l.length).heap ∧ w'.os = w.os ∧ w'.tape = w.tape ∧ w'.output = w.output := by
 subst hn
 have hl0 : l.length ≠ 0 := by simpa using h0
 have c1 : w.drew.cell? ⟨b, 1, none⟩ = some (.slice (some ⟨g, off, none⟩) l.length cap) := by
  have : w.drew.heap[b]? = some (.cells #[p, .slice (some ⟨g, off, none⟩) l.length cap] 133 (0, 0)) := hbk
  rw [Lib.cell_of_heap this]; rfl
 have hSD : (Builtin.unsafeSliceData_ #[22] 150 #[.slice (some ⟨g, off, none⟩) l.length cap]).run Tryz.prog w.drew = .ok (.pointer (some ⟨g, off, none⟩)) w.drew :=
  Lib.run_unsafeSliceData_row _ _ _ _ _ _ (by omega)
 have hUS : (Builtin.unsafeString_ #[150, 3] 9 #[.pointer (some ⟨g, off, none⟩), .int .i64 l.length]).run Tryz.prog w.drew = .ok (.string ⟨l.toArray⟩) (w.drew.freeze ⟨g, off, none⟩ l.length) := by
  refine run_ustr_off 150 3 9 5 Tryz.underlying150 n_bcells g off cur.size (by have hg' : w.drew.heap[g]? = some (.cells cur 5 (0, 0)) := hg; simp [World.shape?, hg']) l h0 hcs h63 ?_
  intro j x hx
  rw [addr_add]
  exact hcell j x hx
 clear hbk hg hcell hcs hcap
 go_enter Tryz.func80, Tryz.ntmps80
 go_wp2
 go_region
 all_goals (go_wp2; go_ret; refine ⟨rfl, ?_⟩; unfold World.freeze; rw [if_neg hl0, if_neg hl0]; exact ⟨rfl, rfl, rfl, rfl⟩)
theorem step_owned {G : Gh} {w w' : World} (hw : Wf G w) {id blk : Nat} (ho : G.ow (id, 0) = some blk) (hU : G.U blk = 0) (hsz : w'.heap.size = w.heap.size) (hos : w'.os = w.os) (htp : w'.tape = w.tape) (hout : w'.output = w.output) (hoth : ∀ k, k ≠ blk → w'.heap[k]? = w.heap[k]?) :
  Step G w G w' ∧ Wf G w' ∧ ∀ κ', κ' ≠ (id, 0) → Keep G w G w' κ' := by
 have hkp : ∀ κ', κ' ≠ (id, 0) → Keep G w G w' κ' := fun κ' hk' => ⟨rfl, fun b hb => ⟨hoth b (fun he => by subst he; exact hk' (hw.inj κ' (id, 0) b hb ho)), rfl⟩⟩
 refine ⟨⟨⟨fun b => Nat.le_refl _, imm_of (fun b hb => hoth b (fun he => by subst he; omega)), by omega, hos, by rw [htp], hout, fun _ _ => rfl, fun _ => Nat.le_refl _, fun κ h0 _ => hkp κ (by intro e; rw [e] at h0; simp at h0)⟩, fun b hb hn => ⟨hoth b (fun he => hn _ (he ▸ ho)), rfl⟩, fun κ b h => .inl ⟨κ, h⟩⟩, ⟨hw.inj, fun κ b h => ?_, fun b hb => ?_⟩, hkp⟩
 ·rw [hsz]; exact hw.lt κ b h
 ·exact hw.zero b (by omega)
theorem two_of {G : Gh} {w : World} {x y : SV} {arr : Array Value} (h : RepSs G w [x, y] arr.toList) : ∃ u v, arr = #[u, v] ∧ RepS G w x u ∧ RepS G w y v := by
 obtain ⟨u, us, h1, h2, v, us', h3, h4, h5⟩ := h
 simp only [RepSs] at h5; subst h5 h3
 refine ⟨u, v, ?_, h2, h4⟩
 apply Array.ext'; rw [h1]
theorem copyCheck_to (c0 s : SV) (hc : c0 = .av (.val (.pointer none)) ∨ c0 = .ptr 1000 0) (hs : s.keys = []) : CallTo Tryz.prog 98 [.ptr 1000 0] [(1000, .cells 133 [c0, s])] [] j0 [(1000, .cells 133 [.ptr 1000 0, s])] [] := by
 refine ⟨⟨_, Tryz.func98, by kernel_rfl, by kernel_rfl⟩, fun G w vs hw hargs hbx _ => ?_⟩
 obtain ⟨u, us', rfl, ⟨blk, ho, rfl⟩, hnil⟩ := hargs
 simp only [RepSs] at hnil; subst hnil
 obtain ⟨blk', arr, g1, g2, g3, g4, g5⟩ := hbx (1000, .cells 133 [c0, s]) (by simp)
 simp only at g1; rw [ho] at g1; simp at g1; subst g1
 obtain ⟨v0, v1, rfl, r0, r1⟩ := two_of g4
 have hc0 : w.cell? ⟨blk, 0, none⟩ = some v0 := by rw [Lib.cell_of_heap g2]; rfl
 have htup : ∀ (G : Gh) (w : World), RepS G w j0 (.tuple #[]) := fun G w => by simp only [RepS, Rep]; exact ⟨#[], rfl, by simp [RepL]⟩
 rcases hc with rfl | rfl
 ·simp only [RepS, Rep] at r0
  obtain ⟨rfl, _⟩ := r0
  have hlt := hw.lt _ _ ho
  refine (n_copyCheck_fresh blk w hc0 (by simp [World.shape?, g2]) (Lib.frozen_of_heap g2 0)).mono ?_
  rintro e w' ⟨rfl, rfl⟩
  have hh : (w.setCell ⟨blk, 0, none⟩ (.pointer (some ⟨blk, 0, none⟩))).heap[blk]? = some (.cells #[.pointer (some ⟨blk, 0, none⟩), v1] 133 (0, 0)) := by
   simp [World.setCell, Array.getElem?_modify, g2]
  obtain ⟨s1, s2, s3⟩ := step_owned (w' := w.setCell ⟨blk, 0, none⟩ (.pointer (some ⟨blk, 0, none⟩))) hw ho g3 (by simp [World.setCell]) rfl rfl rfl (fun k hk => by simp [World.setCell, Array.getElem?_modify, Ne.symm hk])
  refine ⟨.tuple #[], G, rfl, s1, s2, htup _ _, fun p hp => ?_, fun i hi => s3 (i, 0) (by intro e; apply hi; have := congrArg Prod.fst e; simp at this; subst this; simp), fun _ => rfl, fun _ => rfl⟩
  simp at hp; subst hp
  refine ⟨blk, _, ho, hh, g3, ⟨_, _, rfl, ⟨blk, ho, rfl⟩, _, [], rfl, r1.persist s1.toExt (fun _ _ => rfl), rfl⟩, ?_⟩
  intro x hx
  simp at hx g5
  rcases hx with rfl | rfl
  ·rfl
  ·exact g5.2
 ·obtain ⟨blk2, ho2, rfl⟩ := r0
  rw [ho] at ho2; simp at ho2; subst ho2
  refine (n_copyCheck_used blk w hc0).mono ?_
  rintro e w' ⟨rfl, rfl⟩
  refine ⟨.tuple #[], G, rfl, Step.refl _ _, hw, htup _ _, fun p hp => ?_, fun i hi => ⟨rfl, fun _ _ => ⟨rfl, rfl⟩⟩, fun _ => rfl, fun _ => rfl⟩
  simp at hp; subst hp
  exact ⟨blk, _, ho, g2, g3, g4, g5⟩
theorem copyCheck_son (s : SV) (hs : s.keys = []) : CallTo Tryz.prog 98 [.ptr 1000 0] [(1000, .cells 133 [.son 1000, s])] [] j0 [(1000, .cells 133 [.son 1000, s])] [] := by
 have hn := copyCheck_to (.av (.val (.pointer none))) s (.inl rfl) hs
 have hp := copyCheck_to (.ptr 1000 0) s (.inr rfl) hs
 refine ⟨hn.1, fun G w vs hw hargs hbx hg => ?_⟩
 have hb0 := hbx (1000, .cells 133 [.son 1000, s]) (by simp)
 obtain ⟨blk', arr, g1, g2, g3, g4, g5⟩ := hb0
 obtain ⟨v0, v1, rfl, r0, r1⟩ := two_of g4
 have post : Calls Tryz.prog 98 vs.toArray w (fun e w' => ∃ v G', e = .returned v ∧ Step G w G' w' ∧ Wf G' w' ∧ RepS G' w' j0 v ∧ (∀ p ∈ [(1000, ABox.cells 133 [.ptr 1000 0, s])], RepB G' w' p.1 p.2) ∧
   (∀ i : Nat, i ∉ [(1000, ABox.cells 133 [.ptr 1000 0, s])].map (·.1) → Keep G w G' w' (i, 0)) ∧ (∀ i, G'.ow (i, 0) = G.ow (i, 0)) ∧ ∀ κ : Key, G'.gen κ = (([] : List (Key × Nat)).lookup κ).getD (G.gen κ)) := by
  rcases r0 with rfl | ⟨blk, h1, rfl⟩
  ·exact hn.2 G w vs hw hargs (fun p hp => by simp at hp; subst hp; exact ⟨blk', _, g1, g2, g3, ⟨_, _, rfl, by simp only [RepS, Rep]; exact ⟨trivial, rfl⟩, _, [], rfl, r1, rfl⟩, g5⟩) hg
  ·exact hp.2 G w vs hw hargs (fun p hp => by simp at hp; subst hp; exact ⟨blk', _, g1, g2, g3, ⟨_, _, rfl, ⟨blk, h1, rfl⟩, _, [], rfl, r1, rfl⟩, g5⟩) hg
 refine post.mono ?_
 rintro e w' ⟨v, G', q1, q2, q3, q4, q5, q6, q7, q8⟩
 refine ⟨v, G', q1, q2, q3, q4, fun p hp => ?_, q6, q7, q8⟩
 simp at hp; subst hp
 obtain ⟨b2, arr2, e1, e2, e3, e4, e5⟩ := q5 (1000, .cells 133 [.ptr 1000 0, s]) (by simp)
 obtain ⟨u0, u1, rfl, f0, f1⟩ := two_of e4
 exact ⟨b2, _, e1, e2, e3, ⟨_, _, rfl, .inr f0, _, [], rfl, f1, rfl⟩, e5⟩
theorem RepL_bytes_eq {U : Nat → Nat} {w : World} : ∀ (l : List UInt8) (es : List Value), RepL U w (l.map (fun b => AV.val (.int .u8 b.toNat))) es → es = l.map (fun b => Value.int .u8 b.toNat)
 | [], es, h => by simpa [RepL] using h
 | b :: l, es, h => by
  simp only [List.map_cons, RepL] at h
  obtain ⟨u, us', rfl, h2, h3⟩ := h
  simp only [Rep] at h2
  rw [h2.1, RepL_bytes_eq l us' h3]; rfl
theorem String_to (c0 : SV) (k : Nat) (g : Nat) (s : ByteArray) (h0 : 0 < s.size) (h63 : s.size ≤ 9223372036854775807) :
  CallTo Tryz.prog 80 [.ptr 1000 0] [(1000, .cells 133 [c0, .own (k, 6) g 1 (bytesAV s)])] [((k, 6), g)] (.av (.val (.string s))) [(1000, .cells 133 [c0, .av (.sl (bytesAV s))])] [((k, 6), g + 1)] := by
 refine ⟨⟨_, Tryz.func80, by kernel_rfl, by kernel_rfl⟩, fun G w vs hw hargs hbx hgn => ?_⟩
 obtain ⟨u, us', rfl, ⟨blk, ho, rfl⟩, hnil⟩ := hargs
 simp only [RepSs] at hnil; subst hnil
 obtain ⟨blk', arr, g1, g2, g3, g4, g5⟩ := hbx (1000, .cells 133 [c0, .own (k, 6) g 1 (bytesAV s)]) (by simp)
 simp only at g1; rw [ho] at g1; simp at g1; subst g1
 have hgen : G.gen (k, 6) = g := hgn ((k, 6), g) (by simp)
 obtain ⟨v0, v1, rfl, r0, r1⟩ := two_of g4
 have rsl := r1.own_sl
 obtain ⟨_, _, a, cap, es, rfl, q2, q3, q4, qn, qsp, q5, q6⟩ := r1
 have hlen : (bytesAV s).length = s.size := by simp [bytesAV]
 have hes := RepL_bytes_eq s.data.toList es q2
 have hvc : vcells es = es := vcells_one es (fun v hv => by rw [hes] at hv; simp at hv; obtain ⟨b, _, rfl⟩ := hv; rfl)
 rcases q6 hgen with hcap0 | ⟨gb, off, cur, e, rfl, o1, o2, o3, o4, o5⟩
 ·rw [hlen] at q4
  exact absurd h0 (by omega)
 ·have he : e = 5 := by simpa using o5
  subst he
  have hne : gb ≠ blk := fun h => by
   have := hw.inj (k, 6) (1000, 0) blk (by rw [← h]; exact o1) ho
   simp at this
  have hl0 : s.data.toList ≠ [] := by intro h; have h1 := congrArg List.length h; rw [show s.data.toList.length = s.size by simp] at h1; simp only [List.length_nil] at h1; exact absurd h1 (Nat.ne_of_gt h0)
  have hll : s.data.toList.length = s.size := by simp
  refine (String_calls blk gb off (bytesAV s).length cap v0 cur s.data.toList w hl0 (by rw [hlen, hll]) (by rw [hll, ← hlen]; exact q4) (by rw [hll]; simp only [Nat.mul_one] at o3; rw [hlen] at q4; omega) (by rw [hll]; exact h63) g2 o2 (fun j x hx => ?_)).mono ?_
  ·rcases q5 with h | ⟨b', off', h1, h2, h3⟩
   ·rw [hvc, hes] at h; simp at h; exact absurd h (by simpa using hl0)
   ·simp at h1; obtain ⟨rfl, rfl⟩ := h1
    have := (h3 j (.int .u8 x.toNat) (by rw [hvc, hes]; simp [hx])).1
    simpa using this
  ·rintro e w' ⟨rfl, hh, hos, htp, hout⟩
   have hfz : w'.heap = w.heap.modify gb (fun | .cells c elem (lo, hi) => .cells c elem (if lo == hi then (off, off + s.data.toList.length) else (min lo off, max hi (off + s.data.toList.length))) | o => o) := by
    rw [hh]; unfold World.freeze; rw [if_neg (by rw [hll]; omega)]; rfl
   have hoth : ∀ i, i ≠ gb → w'.heap[i]? = w.heap[i]? := fun i hi => by rw [hfz, Array.getElem?_modify, if_neg (Ne.symm hi)]
   have hsize : w'.heap.size = w.heap.size := by rw [hfz]; simp
   obtain ⟨fz, hgb⟩ : ∃ fz, w'.heap[gb]? = some (.cells cur 5 fz) := by rw [hfz, Array.getElem?_modify, if_pos rfl, o2]; exact ⟨_, rfl⟩
   have hcell : ∀ b o, w'.cell? ⟨b, o, none⟩ = w.cell? ⟨b, o, none⟩ := fun b o => by
    by_cases hb : b = gb
    ·subst hb; simp [World.cell?, hgb, o2]
    ·exact cell_of_heap (hoth b hb) o
   have himm : Imm G.U w w' := ⟨fun b o _ => hcell b o, fun b es' cl _ hm => by
    have : b ≠ gb := by intro h; subst h; rw [o2] at hm; simp at hm
    rw [hoth b this]; exact hm⟩
   have hkp : ∀ κ, κ ≠ (k, 6) → Keep G w { G with gen := fun κ => if κ = (k, 6) then G.gen κ + 1 else G.gen κ } w' κ := fun κ hκ => ⟨rfl, fun b hb => ⟨hoth b (fun h => by subst h; exact hκ (hw.inj κ (k, 6) b hb o1)), rfl⟩⟩
   have hext : Ext G w { G with gen := fun κ => if κ = (k, 6) then G.gen κ + 1 else G.gen κ } w' := by
    refine ⟨fun _ => Nat.le_refl _, himm, by omega, hos, by rw [htp], hout, fun _ _ => rfl, fun κ => ?_, fun κ _ hg => hkp κ (fun h => ?_)⟩
    ·simp only; split <;> omega
    ·subst h; simp at hg
   refine ⟨.string ⟨s.data.toList.toArray⟩, { G with gen := fun κ => if κ = (k, 6) then G.gen κ + 1 else G.gen κ }, rfl, ⟨hext, fun b _ hn => ⟨hoth b (fun h => hn (k, 6) (by rw [h]; exact o1)), rfl⟩, fun κ b h => .inl ⟨κ, h⟩⟩,
    ⟨hw.inj, fun κ b h => by rw [hsize]; exact hw.lt κ b h, fun b hb => hw.zero b (by omega)⟩, ?_, fun p hp => ?_, fun i hi => hkp (i, 0) (by simp), fun _ => rfl, fun κ => ?_⟩
   ·simp only [RepS, Rep]; exact ⟨by simp, rfl⟩
   ·simp at hp; subst hp
    refine ⟨blk, _, ho, by rw [hoth blk (Ne.symm hne)]; exact g2, g3, ⟨_, _, rfl, r0.persist hext (fun κ hκ => ?_), _, [], rfl, Rep.mono (fun _ => Nat.le_refl _) himm _ _ rsl, rfl⟩, g5⟩
    rfl
   ·simp only [List.lookup_cons, List.lookup_nil]
    by_cases hk : κ = (k, 6)
    ·subst hk; simp [hgen]
    ·have : (κ == (k, 6)) = false := by simpa using hk
     simp [this, hk]
end Go.Proofs.YtkgflongbanbgaaGreatDoor
namespace Go.Proofs.YtkgflongbanbgaaGreatDoor
open Go Go.Eng
def bldA (t : ByteArray) (g : Nat) : ABox := .cells 133 [.son 1000, .own (1300, 6) g 1 (bytesAV t)]
def bldG (g : Nat) : List (Key × Nat) := [((1300, 6), g)]
theorem bytes_uni1 (s : ByteArray) : Uni 1 (bytesAV s) := by
 intro c hc
 simp only [bytesAV, List.mem_map] at hc
 obtain ⟨b, _, rfl⟩ := hc
 exact ⟨rfl, rfl⟩
theorem bytes_len1 (s : ByteArray) : (bytesAV s).length = s.size := by simp [bytesAV]
theorem bytes_cat1 (s t : ByteArray) : bytesAV (s ++ t) = bytesAV s ++ bytesAV t := by simp [bytesAV]
theorem okBld (t : ByteArray) (g g' : Nat) (h : g = g') : ∀ p ∈ [(1000, bldA t g)], ∀ s ∈ p.2.svs, OkSV [1000] (bldG g') s := by
 subst h
 intro p hp s hs
 simp only [List.mem_cons, List.not_mem_nil, or_false] at hp
 subst hp
 simp only [bldA, ABox.svs, List.mem_cons, List.not_mem_nil, or_false] at hs
 rcases hs with rfl | rfl
 ·simp [OkSV, SV.keys]
 ·simp [OkSV, bldG, List.lookup]
theorem WriteString_to (t s : ByteArray) (g : Nat) (hsz : t.size + s.size ≤ 1000000000) : CallTo Tryz.prog 79 [.ptr 1000 0, jS s] [(1000, bldA t g)] (bldG g) (.av (.tup [.val (.int .i64 ((ByteArray.size s : Nat) : Int)), .val .nilIface])) [(1000, bldA (t ++ s) (g + 1))] (bldG (g + 1)) := by
 refine BEGb (fun _ : Unit => .av (.tup [.val (.int .i64 ((ByteArray.size s : Nat) : Int)), .val .nilIface])) () Tryz.func79 (by kernel_rfl) (by simp) (by simp [bldG]) (by simp [OkSV, SV.keys]) (okBld t g g rfl) (by simp [OkSV, SV.keys]) (okBld _ _ _ rfl) rfl rfl ?_
 have hap : (g : Nat) = g ∧ Uni 1 (bytesAV s) ∧ ((bytesAV t : List AV).length + (bytesAV s : List AV).length) * 1 ≤ 140737488355328 := ⟨rfl, bytes_uni1 s, by rw [bytes_len1, bytes_len1]; omega⟩
 refine GO (tn 3 (kg (copyCheck_son (.own (1300, 6) g 1 (bytesAV t)) rfl) trivial (tn 6 (kp hap (kw (show (bytesAV t ++ bytesAV s : List AV) = bytesAV (t ++ s) from (bytes_cat1 t s).symm) (tn 7 z)))))) (by kernel_rfl) ?_
 refine ENb (by kernel_rfl) ?_ ?_
 ·intro p hp
  simp only [List.mem_cons, List.not_mem_nil, or_false] at hp
  subst hp; kernel_rfl
 ·intro p hp
  simp only [bldG, List.mem_cons, List.not_mem_nil, or_false] at hp
  subst hp; kernel_rfl
end Go.Proofs.YtkgflongbanbgaaGreatDoor
namespace Go.Eng
variable {P : Program}
theorem ev_same {a : Act} {d : Nat} {v : Value} (h : d < a.tmps.size) : (a.put (some d) v).eval (.tmp d) = v := by
 simp only [Act.eval, Act.put, Array.getD_eq_getD_getElem?]
 rw [Array.getElem?_setIfInBounds_self_of_lt h]; rfl
theorem ev_other {a : Act} {d t : Nat} {v : Value} (h : t ≠ d) : (a.put (some d) v).eval (.tmp t) = a.eval (.tmp t) := by
 simp only [Act.eval, Act.put, Array.getD_eq_getD_getElem?]
 rw [Array.getElem?_setIfInBounds_ne (Ne.symm h)]
def colZ : Value := .agg #[.slice none 0 0, .map none]
theorem WO_col {ops : Array Oper} {o1 o2 o3 : Oper} {rest : List Oper} {Q : St → Prop} {S : St} {t m d1 d2 b bt : Nat}
  (ho1 : o1.op = .build t #[(1, .tmp m)]) (hd1 : o1.dst = some d1) (hg1 : o1.guard = none) (ho2 : o2.op = .alloc t) (hd2 : o2.dst = some d2) (hg2 : o2.guard = none) (ho3 : o3.op = .store t (.tmp d2) (.tmp d1)) (hd3 : o3.dst = none) (hg3 : o3.guard = none)
  (hi : tInfo P t = some (2, bt, some colZ)) (hpl : tPlaces P t = some [(0, 1), (1, 1)]) (hm : S.fr[m]? = some (.mp b)) (hm1 : m ≠ d1) (hm2 : m ≠ d2) (h12 : d1 ≠ d2) (hl1 : d1 < S.fr.length) (hl2 : d2 < S.fr.length) (hid : d2 < 1000) (hn : (S.put (some d1) .junk).names d2 = false)
  (h : WO P ops rest Q ((((S.put (some d1) .junk).addBox d2 (.cells t (zeroCells colZ))).put (some d2) (.ptr d2 0)).setBox d2 (.cells t [.nil, .mp b]))) : WO P ops (o1 :: o2 :: o3 :: rest) Q S := by
 intro more Q' G w a hr hq
 have hsz : a.tmps.size = S.fr.length := hr.size.symm
 obtain ⟨blk, hb1, hb2⟩ := hr.fr m _ hm
 have em : a.eval (.tmp m) = .map (some blk) := hb2
 have x1 : (execOp a.eval o1).run P w = .ok (.value (.agg #[.slice none 0 0, .map (some blk)])) w := by
  unfold tPlaces at hpl
  split at hpl
  ·rename_i fs hu
   have hmm := run_places w fs.toList _ hpl
   have hm2 : (fs.mapM (fun f => do pure (f.offset, ← sizeOf f.type)) : Sem (Array (Nat × Nat))).run P w = .ok #[(0, 1), (1, 1)] w := by
    rw [Array.mapM_eq_mapM_toList]
    simp only [Sem.run_map, hmm, Result.andThen_ok]
   simp only [bind_pure_comp] at hm2
   have hf : Instr.fill (fun i : Nat => (#[(0, 1), (1, 1)] : Array (Nat × Nat))[i]?) #[.slice none 0 0, .map none] [(1, .map (some blk))] = some #[.slice none 0 0, .map (some blk)] := rfl
   simp [execOp, ho1, Instr.build, run_zeroValue' hi, run_underlying' hu, hm2, em, colZ]
   rfl
  ·simp at hpl
 simp only [List.cons_append, wpList]
 rw [if_pos (wanted_none hg1 a)]
 refine .inl ?_
 unfold Oper.wp
 rw [x1, Oper.upon_value, hd1]
 have hr1 : Rel G w (S.put (some d1) .junk) (a.put (some d1) (.agg #[.slice none 0 0, .map (some blk)])) := hr.put (some d1) trivial
 have em1 : (a.put (some d1) (.agg #[.slice none 0 0, .map (some blk)])).eval (.tmp m) = .map (some blk) := by rw [ev_other hm1, em]
 have ed1 : (a.put (some d1) (.agg #[.slice none 0 0, .map (some blk)])).eval (.tmp d1) = .agg #[.slice none 0 0, .map (some blk)] := ev_same (by omega)
 have hs1 : (a.put (some d1) (.agg #[.slice none 0 0, .map (some blk)])).tmps.size = S.fr.length := by simp [Act.put, hsz]
 generalize a.put (some d1) (.agg #[.slice none 0 0, .map (some blk)]) = a1 at hr1 em1 ed1 hs1 ⊢
 rw [if_pos (wanted_none hg2 _)]
 refine .inl ?_
 try unfold Oper.wp
 obtain ⟨e1, e2, e3⟩ := hr1.newBox hn t (RepSs_const colZ.cells.toList) (fun s hs => by simp only [List.mem_map] at hs; obtain ⟨v, _, rfl⟩ := hs; exact const_names d2 v) (by intro x hx; simp [colZ, Value.cells] at hx; rcases hx with rfl | rfl <;> rfl)
 have x2 : (execOp a1.eval o2).run P w = .ok (.value (.pointer (some ⟨w.heap.size, 0, none⟩))) (w.alloc (.cells colZ.cells.toList.toArray t)) := by
  simp [execOp, ho2, Instr.alloc, run_zeroValue' hi, newVar, newRow]
 rw [x2, Oper.upon_value, hd2]
 have hr2 := e2.put (some d2) e3
 have em2 : (a1.put (some d2) (.pointer (some ⟨w.heap.size, 0, none⟩))).eval (.tmp m) = .map (some blk) := by rw [ev_other hm2, em1]
 have ed2 : (a1.put (some d2) (.pointer (some ⟨w.heap.size, 0, none⟩))).eval (.tmp d1) = .agg #[.slice none 0 0, .map (some blk)] := by rw [ev_other h12, ed1]
 have ep2 : (a1.put (some d2) (.pointer (some ⟨w.heap.size, 0, none⟩))).eval (.tmp d2) = .pointer (some ⟨w.heap.size, 0, none⟩) := ev_same (by omega)
 generalize a1.put (some d2) (.pointer (some ⟨w.heap.size, 0, none⟩)) = a2 at hr2 em2 ed2 ep2 ⊢
 have hmf : (((S.put (some d1) .junk).addBox d2 (.cells t (zeroCells colZ))).put (some d2) (.ptr d2 0)).fr[m]? = some (.mp b) := by
  simp only [St.put, St.addBox]
  rw [List.getElem?_set_ne (Ne.symm hm2), List.getElem?_set_ne (Ne.symm hm1)]; exact hm
 obtain ⟨blk2, hc1, hc2⟩ := hr2.fr m _ hmf
 have hc3 : blk2 = blk := by
  have : a2.eval (.tmp m) = .map (some blk2) := hc2
  rw [em2] at this
  cases this; rfl
 subst hc3
 have hlk : (((S.put (some d1) .junk).addBox d2 (.cells t (zeroCells colZ))).put (some d2) (.ptr d2 0)).bx.lookup d2 = some (.cells t (zeroCells colZ)) := by
  simp [St.put, St.addBox, List.lookup]
 obtain ⟨w3, q1, q2, q3⟩ := hr2.storeBox hlk (blk := w.heap.size) (by simp [Gh.bind]) 0 (xs := [.nil, .mp b]) (vs := [.slice none 0 0, .map (some blk2)]) ⟨_, _, rfl, rfl, ⟨_, _, rfl, ⟨blk2, hc1, rfl⟩, rfl⟩⟩ (by intro x hx; simp at hx; rcases hx with rfl | rfl <;> rfl) (by simp [zeroCells, colZ, Value.cells])
 rw [if_pos (wanted_none hg3 _)]
 refine .inl ?_
 try unfold Oper.wp
 have x3 : (execOp a2.eval o3).run P (w.alloc (.cells colZ.cells.toList.toArray t)) = .ok .skip w3 := by
  have hW : ∀ W : World, (storeCells ⟨w.heap.size, 0, none⟩ [.slice none 0 0, .map (some blk2)]).run P W = .ok () w3 → (execOp a2.eval o3).run P W = .ok .skip w3 := fun W hW => by
   simp [execOp, ho3, ep2, ed2, Instr.storeAt, Instr.sureAddr, storeVar, run_sizeOf' hi, Value.cells, hW]
  exact hW _ (q1 P)
 rw [x3, Oper.upon_skip, hd3]
 exact h more Q' _ w3 _ q3 (fun S' G2 a2 w4 p1 p2 p3 p4 => hq S' G2 a2 w4 p1 ((e1.trans q2).trans p2) p3 (fun i hi' => (p4 i hi').trans (by simp only [Gh.bind]; rw [if_neg (by intro h; simp only [Prod.mk.injEq] at h; omega)])))
end Go.Eng
namespace Go.Proofs.YtkgflongbanbgaaGreatDoor
open Go Go.Eng
theorem uni_strs (l : List ByteArray) : Uni 1 (l.map strAV) := by
 intro x hx
 obtain ⟨s, _, rfl⟩ := List.mem_map.1 hx
 exact ⟨rfl, rfl⟩
theorem clnS_to (l : List ByteArray) (h : l.length ≤ 1073741824) : CallTo Tryz.prog 47 [(jL (l.map strAV))] [] [] (jL (l.map strAV)) [] [] :=
 clone_to (t := 28) (e := 9) (sz := 1) (bt := 16) (z := .string ⟨#[]⟩) Tryz.func47 (Eq.refl Tryz.f47.body) (by kernel_rfl) (by kernel_rfl) (by kernel_rfl) ⟨rfl, rfl, rfl⟩ ⟨rfl, rfl, rfl⟩ ⟨rfl, rfl, rfl⟩ ⟨rfl, rfl, rfl⟩ ⟨rfl, rfl, rfl⟩ ⟨rfl, rfl, rfl⟩ ⟨rfl, rfl, rfl⟩ ⟨rfl, rfl, rfl⟩ (by kernel_rfl) (by kernel_rfl) (by kernel_rfl) (by decide) (l.map strAV) (uni_strs l) (by rw [List.length_map]; omega)
theorem clnC_to (l : List DCited) (h : l.length ≤ 1073741824) : CallTo Tryz.prog 48 [(jL (l.map aCited))] [] [] (jL (l.map aCited)) [] [] :=
 clone_to (t := 31) (e := 105) (sz := 4) (bt := 56) (z := .agg #[.string ⟨#[]⟩, .string ⟨#[]⟩, .string ⟨#[]⟩, .bool false]) Tryz.func48 (Eq.refl Tryz.f48.body) (by kernel_rfl) (by kernel_rfl) (by kernel_rfl) ⟨rfl, rfl, rfl⟩ ⟨rfl, rfl, rfl⟩ ⟨rfl, rfl, rfl⟩ ⟨rfl, rfl, rfl⟩ ⟨rfl, rfl, rfl⟩ ⟨rfl, rfl, rfl⟩ ⟨rfl, rfl, rfl⟩ ⟨rfl, rfl, rfl⟩ (by kernel_rfl) (by kernel_rfl) (by kernel_rfl) (by decide) (l.map aCited) (uni_aCited l) (by rw [List.length_map]; omega)
theorem clnP_to (l : List DPair) (h : l.length ≤ 1073741824) : CallTo Tryz.prog 67 [(jL (l.map aPair))] [] [] (jL (l.map aPair)) [] [] :=
 clone_to (t := 23) (e := 47) (sz := 2) (bt := 32) (z := .agg #[.string ⟨#[]⟩, .string ⟨#[]⟩]) Tryz.func67 (Eq.refl Tryz.f67.body) (by kernel_rfl) (by kernel_rfl) (by kernel_rfl) ⟨rfl, rfl, rfl⟩ ⟨rfl, rfl, rfl⟩ ⟨rfl, rfl, rfl⟩ ⟨rfl, rfl, rfl⟩ ⟨rfl, rfl, rfl⟩ ⟨rfl, rfl, rfl⟩ ⟨rfl, rfl, rfl⟩ ⟨rfl, rfl, rfl⟩ (by kernel_rfl) (by kernel_rfl) (by kernel_rfl) (by decide) (l.map aPair) (uni_aPair l) (by rw [List.length_map]; omega)
def cpyT (a : DAttr) : DAttr := a
theorem cpyT_to (a : DAttr) (ha : wAttr a ≤ 1073741824) : CallTo Tryz.prog 46 [(.av (cAttr a))] [] [] (.av (cAttr (cpyT a))) [] [] := by
 have hwa := wAttr_eq a
 simp only [wStr] at hwa
 have hw_0 := wl_len (w := wStr) wStr_pos a.fClasses
 have hw_1 := wl_len (w := wPair) wPair_pos a.fPairs
 refine BEG (fun r : DAttr => (.av (cAttr r))) (cpyT a) Tryz.func46 (by kernel_rfl) ?_
 refine UF (cpyT.eq_1 ..) ?_
 refine GO (tn 4 (kc (clnS_to a.fClasses (by first | assumption | omega | decide | (simp; done) | (simp; omega))) (tn 4 (kc (clnP_to a.fPairs (by first | assumption | omega | decide | (simp; done) | (simp; omega))) (tn 4 z))))) (by kernel_rfl) ?_
 exact EN (by kernel_rfl)
end Go.Proofs.YtkgflongbanbgaaGreatDoor
namespace Go.Proofs.YtkgflongbanbgaaGreatDoor
open Go Go.Eng
theorem dpIN_fuel : ∀ (n m : Nat) (l : List DInline), wl wInline l < n → wl wInline l < m → dpIN n l = dpIN m l
 | 0, m, l, h, _ => by omega
 | n + 1, 0, l, _, h => by omega
 | n + 1, m + 1, l, h1, h2 => by
  rw [dpIN, dpIN, dpIS_eq, dpIS_eq]
  refine flat_eq (fun x hx => ?_)
  have h3 := wl_mem (w := wInline) hx
  have h4 := wInline_eq x
  rw [dpIN_fuel n m x.fKids (by omega) (by omega)]
theorem dpI_eq (l : List DInline) : dpI l = l.flatMap (fun x => x :: dpI x.fKids) := by
 show dpIN (wl wInline l + 1) l = _
 rw [dpIN, dpIS_eq]
 refine flat_eq (fun x hx => ?_)
 have h3 := wl_mem (w := wInline) hx
 have h4 := wInline_eq x
 rw [dpI, dpIN_fuel (wl wInline l) (wl wInline x.fKids + 1) x.fKids (by omega) (by omega)]
theorem take_succ_el {α : Type} [Inhabited α] {l : List α} {i : Nat} (h : i < l.length) : l.take (i + 1) = l.take i ++ [el l i] := by
 rw [List.take_add_one, List.getElem?_eq_getElem h]
 simp [el, h]
theorem dpI_take {l : List DInline} {i : Nat} (h : i < l.length) : dpI (l.take (i + 1)) = dpI (l.take i) ++ (el l i :: dpI (el l i).fKids) := by
 rw [dpI_eq (l.take (i + 1)), take_succ_el h, List.flatMap_append, ← dpI_eq]
 simp
theorem dpI_len (l : List DInline) (h : wl wInline l ≤ 1073741824) : (dpI l).length ≤ wl wInline l := dpI_bd l h
def bxI (g : Nat) (xs : List DInline) : List (Nat × ABox) := [(1000, .cells 27 [.own (1002, 34) g 10 (xs.map aInline)]), (1001, .cells 101 [.fn 45 [] [.ptr 1000 0, .ptr 1001 0]])]
noncomputable def R7 : Array Oper := (regAt 7 (bodyOf Tryz.f45)).getD #[]
noncomputable def o7 (i : Nat) : Oper := R7.getD i (R7.getD 0 default)
def zI : AV := .agg [vI 0, vS ⟨#[]⟩, vS ⟨#[]⟩, vS ⟨#[]⟩, vS ⟨#[]⟩, .sl [], .sl [], .sl [], .sl [], .sl []]
def c7 (x : DInline) : List SV := (cInline x).cells.map SV.av
def S7 (l : List DInline) (v8 : Nat) (q : Nat) (ys : List DInline) : St :=
 sx 41 [(0, (jL (l.map aInline))), (1, (.ptr 1000 0)), (2, (.ptr 1001 0)), (4, (jI ((v8 : Nat) : Int))), (5, (.ptr 5 0)), (7, (jI ((lenM aInline l : Nat) : Int))), (8, (jI ((v8 : Nat) : Int)))] ((5, .cells 33 (c7 (el l v8))) :: bxI q ys) [((1002, 34), q)]
def v7 (l : List DInline) (v8 : Nat) (q : Nat) (ys : List DInline) (i : Nat) : SV := match i with
 | 0 => .own (1002, 34) q 10 (ys.map aInline)
 | 1 => .av (cInline (el l v8))
 | 2 => .av (.val (.int .i64 (ys.map aInline).length))
 | _ => .av (.sl [zI])
theorem und41 : tElem Tryz.prog 27 = some 33 := by kernel_rfl
theorem inf50 : tInfo Tryz.prog 33 = some (10, 192, some (.agg #[.int .i64 0, .string ⟨#[]⟩, .string ⟨#[]⟩, .string ⟨#[]⟩, .string ⟨#[]⟩, .slice none 0 0, .slice none 0 0, .slice none 0 0, .slice none 0 0, .slice none 0 0])) := by kernel_rfl
theorem r7 (l : List DInline) (v8 : Nat) (q : Nat) (ys : List DInline) (hy : ys.length ≤ 4294967296) :
  W Tryz.prog (.region 7 R7 true) (fun e S1 => e = .normal ∧ Weak S1 (sx 41 [(0, (jL (l.map aInline))), (1, (.ptr 1000 0)), (2, (.ptr 1001 0)), (4, (jI ((v8 : Nat) : Int))), (7, (jI ((lenM aInline l : Nat) : Int))), (8, (jI ((v8 : Nat) : Int)))] (bxI (q + 1) (ys ++ [el l v8])) [((1002, 34), q + 1)])) (S7 l v8 q ys) := by
 have hl4 : (S7 l v8 q ys).fr.length = 41 := by kernel_rfl
 refine W_head (Sc := ((((S7 l v8 q ys).put (some 27) (v7 l v8 q ys 0)).put (some 28) (v7 l v8 q ys 1)).put (some 29) (v7 l v8 q ys 2)).put (some 30) (v7 l v8 q ys 3)) (by kernel_rfl) 4 (v7 l v8 q ys) (fun i => 27 + i) (by kernel_rfl) ?_ (fun i j _ _ h => by omega) (fun i hi => by rw [hl4]; omega) ?_ rfl rfl ?_ ?_ ?_
 ·intro i hi
  match i, hi with
  | 0, _ => exact ⟨o7 0, by kernel_rfl, by kernel_rfl, by kernel_rfl⟩
  | 1, _ => exact ⟨o7 1, by kernel_rfl, by kernel_rfl, by kernel_rfl⟩
  | 2, _ => exact ⟨o7 2, by kernel_rfl, by kernel_rfl, by kernel_rfl⟩
  | 3, _ => exact ⟨o7 3, by kernel_rfl, by kernel_rfl, by kernel_rfl⟩
  | i + 4, h => exact absurd h (by omega)
 ·intro i hi o ho S' hb hg hlen hdep hoth
  have hget : ∀ (t : Nat) (s : SV), (∀ j, j < 4 → t ≠ 27 + j) → (S7 l v8 q ys).fr[t]? = some s → S'.ev (.tmp t) = s := by
   intro t s h1 h2
   have := hoth t h1
   simp only [St.ev, List.getD_eq_getElem?_getD, this, h2, Option.getD_some]
  have e1 : S'.ev (.tmp 1) = .ptr 1000 0 := hget 1 _ (fun j _ => by omega) (by kernel_rfl)
  have e5 : S'.ev (.tmp 5) = .ptr 5 0 := hget 5 _ (fun j _ => by omega) (by kernel_rfl)
  have b1 : S'.bx.lookup 1000 = some (.cells 27 [.own (1002, 34) q 10 (ys.map aInline)]) := by rw [hb]; kernel_rfl
  have b5 : S'.bx.lookup 5 = some (.cells 33 (c7 (el l v8))) := by rw [hb]; kernel_rfl
  match i, hi with
  | 0, _ =>
   obtain rfl : o7 0 = o := Option.some.inj ((show R7[0]? = some (o7 0) by kernel_rfl).symm.trans ho)
   exact ⟨True, trivial, st_load (t := 27) (x := .tmp 1) (by kernel_rfl) e1 (by kernel_rfl) b1 rfl⟩
  | 1, _ =>
   obtain rfl : o7 1 = o := Option.some.inj ((show R7[1]? = some (o7 1) by kernel_rfl).symm.trans ho)
   exact ⟨True, trivial, st_load_agg (t := 33) (x := .tmp 5) (by kernel_rfl) e5 (by kernel_rfl) inf50 b5 (by kernel_rfl) (by kernel_rfl) (by kernel_rfl)⟩
  | 2, _ =>
   obtain rfl : o7 2 = o := Option.some.inj ((show R7[2]? = some (o7 2) by kernel_rfl).symm.trans ho)
   have e27 : S'.ev (.tmp 27) = .own (1002, 34) q 10 (ys.map aInline) := by
    have this : S'.fr[27]? = some (.own (1002, 34) q 10 (ys.map aInline)) := hdep ⟨0, .data⟩ (by show _ ∈ (o7 2).after; rw [show (o7 2).after = #[⟨0, .data⟩] by kernel_rfl]; simp) rfl (by decide)
    simp only [St.ev, List.getD_eq_getElem?_getD, this, Option.getD_some]
   exact ⟨True, trivial, st_len (t := 27) (x := .tmp 27) (by kernel_rfl) e27 (by kernel_rfl)⟩
  | 3, _ =>
   obtain rfl : o7 3 = o := Option.some.inj ((show R7[3]? = some (o7 3) by kernel_rfl).symm.trans ho)
   exact ⟨Uni 10 [zI], uni_one rfl rfl, st_build (t := 27) (c := .agg #[.int .i64 0, .string ⟨#[]⟩, .string ⟨#[]⟩, .string ⟨#[]⟩, .string ⟨#[]⟩, .slice none 0 0, .slice none 0 0, .slice none 0 0, .slice none 0 0, .slice none 0 0]) (by kernel_rfl) und41 inf50 (by kernel_rfl) (by decide) (by decide)⟩
  | i + 4, h => exact absurd h (by omega)
 ·intro j hj
  match j, hj with
  | 0, _ => rfl
  | 1, _ => rfl
  | 2, _ => rfl
  | 3, _ => rfl
  | j + 4, h => exact absurd h (by omega)
 ·intro t ht
  simp only [St.put, List.getElem?_set]
  rw [if_neg (fun e => ht 3 (by omega) e.symm), if_neg (fun e => ht 2 (by omega) e.symm), if_neg (fun e => ht 1 (by omega) e.symm), if_neg (fun e => ht 0 (by omega) e.symm)]
 ·refine WA_push (n := 4) (o4 := o7 4) (o5 := o7 5) (o6 := o7 6) (o7 := o7 7) (t := 27) (e := 33) (T := 33) (T7 := 27) (ty := 27) (sz := 10) (k := (1002, 34)) (g := q) (d4 := 31) (d5 := 32) (p1 := 1) (bid := 1000) (s0 := .own (1002, 34) q 10 (ys.map aInline)) (bt7 := 24) (z7 := some (.slice none 0 0)) (l := ys.map aInline) (x0 := zI) (x := cInline (el l v8)) (A := .tmp 27) (B := .tmp 30) (C := .tmp 29) (X := .tmp 28)
   (by kernel_rfl) (by kernel_rfl) (by kernel_rfl) (by kernel_rfl) (by kernel_rfl) (by kernel_rfl) (by kernel_rfl) (by kernel_rfl) (by kernel_rfl) (by kernel_rfl) (by kernel_rfl) (by kernel_rfl) (by kernel_rfl) (by kernel_rfl) (by kernel_rfl) (by kernel_rfl) (by kernel_rfl)
   (by kernel_rfl) (by kernel_rfl) (by kernel_rfl) (by kernel_rfl) (by kernel_rfl) (by kernel_rfl) (by intro h; cases h) (by intro h; cases h) (by intro h; cases h) (by decide) (by decide) (by decide) (of_decide_eq_true (by kernel_rfl)) (of_decide_eq_true (by kernel_rfl))
   und41 (by kernel_rfl) inf50 inf50 (by kernel_rfl) (by kernel_rfl) (by decide) rfl (by kernel_rfl) (uni_one rfl rfl) (uni_one rfl rfl) (by rw [List.length_map]; omega) ?_
  refine ⟨rfl, ?_⟩
  have e := ap1_aInline ys (el l v8)
  rw [e]
  exact WK (by kernel_rfl)
theorem inl_st (l : List DInline) (hl : wl wInline l ≤ 1073741824) (g : Nat) (xs : List DInline) (hx : xs.length + wl wInline l ≤ 4294967296)
  (hrec : ∀ l' : List DInline, wl wInline l' < wl wInline l → wl wInline l' ≤ 1073741824 → ∀ (g : Nat) (xs : List DInline), xs.length + wl wInline l' ≤ 4294967296 →
   CallTo Tryz.prog 45 [jL (l'.map aInline), .ptr 1000 0, .ptr 1001 0] (bxI g xs) [((1002, 34), g)] undefS (bxI (g + (dpI l').length) (xs ++ dpI l')) [((1002, 34), g + (dpI l').length)]) :
  CallTo Tryz.prog 45 [jL (l.map aInline), .ptr 1000 0, .ptr 1001 0] (bxI g xs) [((1002, 34), g)] undefS (bxI (g + (dpI l).length) (xs ++ dpI l)) [((1002, 34), g + (dpI l).length)] := by
 have hwl := wl_len (w := wInline) wInline_pos l
 refine BEGb (fun _ : Unit => undefS) () Tryz.func45 (by kernel_rfl) (by simp [bxI]) (by simp) (by simp [OkSV, SV.keys, bxI]) (by simp [OkSV, SV.keys, PV.keys, bxI, ABox.svs, List.lookup]; omega) (by simp [OkSV, SV.keys, undefS]) (by simp [OkSV, SV.keys, PV.keys, bxI, ABox.svs, List.lookup]; omega) rfl rfl ?_
 refine GO (tn 3 z) (by kernel_rfl) ?_
 refine LP (fun N M S => ∃ v8 : Nat, ∃ q : Nat, ∃ ys : List DInline, (v8 ≤ l.length) ∧ (q = g + (dpI (l.take v8)).length) ∧ (ys = xs ++ dpI (l.take v8)) ∧ (List.length l - v8 < N) ∧ M = () ∧ S = (sx 41 [(0, (jL (l.map aInline))), (1, (.ptr 1000 0)), (2, (.ptr 1001 0)), (7, (jI ((lenM aInline l : Nat) : Int))), (8, (jI ((v8 : Nat) : Int)))] (bxI q ys) [((1002, 34), q)])) (n := l.length + 1) (by kernel_rfl) ⟨0, g, xs, by omega, by simp [dpI_eq []], by simp [dpI_eq []], by omega, rfl, rfl⟩ (WK (by kernel_rfl)) ?_
 rintro n0 M S ⟨v8, q, ys, hi, hq, hys, hF0, rfl, rfl⟩
 obtain ⟨n0, rfl⟩ : ∃ k, n0 = k + 1 := ⟨n0 - 1, by omega⟩
 have hlm := lenM_eq aInline l
 refine GO (tn 1 z) (by kernel_rfl) ?_
 by_cases h1 : v8 < l.length
 ·have hd : decide (((v8 : Nat) : Int) < ((lenM aInline l : Nat) : Int)) = true := decide_eq_true (by omega)
  have hce := wl_el (w := wInline) (l := l) (i := v8) (by omega)
  have hcw := wInline_eq (el l v8)
  simp only [wStr, w1] at hcw
  have ha1 := wl_len (w := wStr) wStr_pos (el l v8).fArgs
  have htk := wl_take (w := wInline) (l := l) (i := v8) (by omega)
  have hdl := dpI_len (l.take v8) (by have := wl_take_le (w := wInline) l v8; omega)
  have hyl : ys.length = xs.length + (dpI (l.take v8)).length := by rw [hys, List.length_append]
  have ha2 := wl_len (w := wCited) wCited_pos (el l v8).fCites
  refine GO (kb hd (tn 4 (ke (el_aInline l v8 (by omega)) (tn 5 (kc (cpyT_to ((el l v8).fAttr) (by omega)) (tn 4 (kc (clnS_to ((el l v8).fArgs) (by omega)) (tn 4 (kc (clnC_to ((el l v8).fCites) (by omega)) (tn 2 z)))))))))) (by kernel_rfl) ?_
  obtain ⟨S2, hS2⟩ : ∃ S2 : St, S2 = (sx 41 [(0, (jL (l.map aInline))), (1, (.ptr 1000 0)), (2, (.ptr 1001 0)), (4, (jI ((v8 : Nat) : Int))), (7, (jI ((lenM aInline l : Nat) : Int))), (8, (jI ((v8 : Nat) : Int)))] (bxI (q + 1) (ys ++ [el l v8])) [((1002, 34), q + 1)]) := ⟨_, rfl⟩
  refine NXW S2 z (by kernel_rfl) ?_ (by rw [hS2]; kernel_rfl) ?_
  ·rw [hS2]
   refine W_weak (S' := S7 l v8 q ys) (WK (by kernel_rfl)) ?_
   exact W_code (c' := .region 7 R7 true) (by kernel_rfl) (r7 l v8 q ys (by omega))
  ·rw [hS2]
   have hc := hrec (el l v8).fKids (by omega) (by omega) (q + 1) (ys ++ [el l v8]) (by rw [List.length_append, List.length_singleton]; omega)
   have hwr := wrE (((v8 : Nat) : Int) + 1) ((v8 + 1 : Nat) : Int) (by omega)
   refine DR3 (tn 3 (ko (eO (el_aInline l v8 (by omega))) (kp (el_aInline l v8 (by omega)) (tn 2 (ko (cO hc) (kp hc (kp (show q + 1 = q + 1 ∧ True from ⟨rfl, trivial⟩) (ko (nO hwr) (kp hwr (tn 1 z)))))))))) (by kernel_rfl) (by kernel_rfl) (by kernel_rfl) ?_
   have hq2 : q + 1 + (dpI (el l v8).fKids).length = g + (dpI (l.take (v8 + 1))).length := by rw [dpI_take h1, List.length_append, List.length_cons, hq]; omega
   have hy2 : ys ++ [el l v8] ++ dpI (el l v8).fKids = xs ++ dpI (l.take (v8 + 1)) := by rw [dpI_take h1, hys]; simp
   exact AG (m := n0) ⟨v8 + 1, q + 1 + (dpI (el l v8).fKids).length, ys ++ [el l v8] ++ dpI (el l v8).fKids, by omega, hq2, hy2, by omega, rfl, rfl⟩ (WK (by kernel_rfl)) (by kernel_rfl) (Nat.lt_succ_self _)
 ·have hd : decide (((v8 : Nat) : Int) < ((lenM aInline l : Nat) : Int)) = false := decide_eq_false (by omega)
  have hv : v8 = l.length := by omega
  subst hv
  rw [List.take_length] at hq hys
  subst hq hys
  refine GO (kb hd z) (by kernel_rfl) ?_
  refine OUT z (by kernel_rfl) ?_
  exact ENb (by kernel_rfl) (by intro p hp; simp only [bxI, List.mem_cons, List.not_mem_nil, or_false] at hp; rcases hp with rfl | rfl <;> rfl) (by intro p hp; simp only [List.mem_cons, List.not_mem_nil, or_false] at hp; subst hp; rfl)
end Go.Proofs.YtkgflongbanbgaaGreatDoor
namespace Go.Proofs.YtkgflongbanbgaaGreatDoor
open Go Go.Eng
theorem inl_n : ∀ (n : Nat) (l : List DInline), wl wInline l < n → wl wInline l ≤ 1073741824 → ∀ (g : Nat) (xs : List DInline), xs.length + wl wInline l ≤ 4294967296 →
  CallTo Tryz.prog 45 [jL (l.map aInline), .ptr 1000 0, .ptr 1001 0] (bxI g xs) [((1002, 34), g)] undefS (bxI (g + (dpI l).length) (xs ++ dpI l)) [((1002, 34), g + (dpI l).length)]
 | 0, l, h, _, _, _, _ => by omega
 | n + 1, l, h, hl, g, xs, hx => inl_st l hl g xs hx (fun l' h1 h2 g' xs' h3 => inl_n n l' (by omega) h2 g' xs' h3)
theorem inl_to (l : List DInline) (hl : wl wInline l ≤ 1073741824) (g : Nat) (xs : List DInline) (hx : xs.length + wl wInline l ≤ 4294967296) :
  CallTo Tryz.prog 45 [jL (l.map aInline), .ptr 1000 0, .ptr 1001 0] (bxI g xs) [((1002, 34), g)] undefS (bxI (g + (dpI l).length) (xs ++ dpI l)) [((1002, 34), g + (dpI l).length)] := inl_n _ l (Nat.lt_succ_self _) hl g xs hx
theorem lsBN_fuel : ∀ (n m : Nat) (l : List DBlock), wl wBlock l < n → wl wBlock l < m → lsBN n l = lsBN m l
 | 0, m, l, h, _ => by omega
 | n + 1, 0, l, _, h => by omega
 | n + 1, m + 1, l, h1, h2 => by
  rw [lsBN, lsBN, lsBS_eq, lsBS_eq]
  refine flat_eq (fun x hx => ?_)
  have h3 := wl_mem (w := wBlock) hx
  have h4 := wBlock_eq x
  rw [lsBN_fuel n m x.fKids (by omega) (by omega)]
theorem lsB_eq (l : List DBlock) : lsB l = l.flatMap (fun x => x :: lsB x.fKids) := by
 show lsBN (wl wBlock l + 1) l = _
 rw [lsBN, lsBS_eq]
 refine flat_eq (fun x hx => ?_)
 have h3 := wl_mem (w := wBlock) hx
 have h4 := wBlock_eq x
 rw [lsB, lsBN_fuel (wl wBlock l) (wl wBlock x.fKids + 1) x.fKids (by omega) (by omega)]
theorem ilsB_flat (l : List DBlock) : ilsB l = l.flatMap (fun x => dpI x.fLine ++ ilsB x.fKids) := by
 rw [ilsB_eq, lsB_eq, List.flatMap_assoc]
 refine flat_eq (fun x _ => ?_)
 rw [List.flatMap_cons, ilsB_eq]
theorem ilsB_take {l : List DBlock} {i : Nat} (h : i < l.length) : ilsB (l.take (i + 1)) = ilsB (l.take i) ++ (dpI (el l i).fLine ++ ilsB (el l i).fKids) := by
 rw [ilsB_flat (l.take (i + 1)), take_succ_el h, List.flatMap_append, ← ilsB_flat]
 simp
def bxB (g : Nat) (xs : List DInline) : List (Nat × ABox) := [(1000, .cells 27 [.own (1002, 34) g 10 (xs.map aInline)]), (1001, .cells 101 [.fn 45 [] [.ptr 1000 0, .ptr 1001 0]]), (1003, .cells 106 [.fn 49 [] [.ptr 1001 0, .ptr 1003 0]])]
theorem inb_st (l : List DBlock) (hl : wl wBlock l ≤ 1073741824) (g : Nat) (xs : List DInline) (hx : xs.length + wl wBlock l ≤ 4294967296)
  (hrec : ∀ l' : List DBlock, wl wBlock l' < wl wBlock l → wl wBlock l' ≤ 1073741824 → ∀ (g : Nat) (xs : List DInline), xs.length + wl wBlock l' ≤ 4294967296 →
   CallTo Tryz.prog 49 [jL (l'.map aBlock), .ptr 1001 0, .ptr 1003 0] (bxB g xs) [((1002, 34), g)] undefS (bxB (g + (ilsB l').length) (xs ++ ilsB l')) [((1002, 34), g + (ilsB l').length)]) :
  CallTo Tryz.prog 49 [jL (l.map aBlock), .ptr 1001 0, .ptr 1003 0] (bxB g xs) [((1002, 34), g)] undefS (bxB (g + (ilsB l).length) (xs ++ ilsB l)) [((1002, 34), g + (ilsB l).length)] := by
 have hwl := wl_len (w := wBlock) wBlock_pos l
 refine BEGb (fun _ : Unit => undefS) () Tryz.func49 (by kernel_rfl) (by simp [bxB]) (by simp) (by simp [OkSV, SV.keys, bxB]) (by simp [OkSV, SV.keys, PV.keys, bxB, ABox.svs, List.lookup]; first | omega | (constructor <;> intros <;> omega)) (by simp [OkSV, SV.keys, undefS]) (by simp [OkSV, SV.keys, PV.keys, bxB, ABox.svs, List.lookup]; first | omega | (constructor <;> intros <;> omega)) rfl rfl ?_
 refine GO (tn 3 z) (by kernel_rfl) ?_
 refine LP (fun N M S => ∃ v7 : Nat, ∃ q : Nat, ∃ ys : List DInline, (v7 ≤ l.length) ∧ (q = g + (ilsB (l.take v7)).length) ∧ (ys = xs ++ ilsB (l.take v7)) ∧ (List.length l - v7 < N) ∧ M = () ∧ S = (sx 25 [(0, (jL (l.map aBlock))), (1, (.ptr 1001 0)), (2, (.ptr 1003 0)), (6, (jI ((lenM aBlock l : Nat) : Int))), (7, (jI ((v7 : Nat) : Int)))] (bxB q ys) [((1002, 34), q)])) (n := l.length + 1) (by kernel_rfl) ⟨0, g, xs, by omega, by simp [ilsB_flat []], by simp [ilsB_flat []], by omega, rfl, rfl⟩ (WK (by kernel_rfl)) ?_
 rintro n0 M S ⟨v7, q, ys, hi, hq, hys, hF0, rfl, rfl⟩
 obtain ⟨n0, rfl⟩ : ∃ k, n0 = k + 1 := ⟨n0 - 1, by omega⟩
 have hlm := lenM_eq aBlock l
 refine GO (tn 1 z) (by kernel_rfl) ?_
 by_cases h1 : v7 < l.length
 ·have hd : decide (((v7 : Nat) : Int) < ((lenM aBlock l : Nat) : Int)) = true := decide_eq_true (by omega)
  have hce := wl_el (w := wBlock) (l := l) (i := v7) (by omega)
  have hcw := wBlock_eq (el l v7)
  simp only [wStr, w1] at hcw
  have htk := wl_take (w := wBlock) (l := l) (i := v7) (by omega)
  have hdl := ilsB_len (l.take v7) (by have := wl_take_le (w := wBlock) l v7; omega)
  have hyl : ys.length = xs.length + (ilsB (l.take v7)).length := by rw [hys, List.length_append]
  have hdp := dpI_len (el l v7).fLine (by omega)
  have hc1 := inl_to (el l v7).fLine (by omega) q ys (by omega)
  have hc2 := hrec (el l v7).fKids (by omega) (by omega) (q + (dpI (el l v7).fLine).length) (ys ++ dpI (el l v7).fLine) (by rw [List.length_append]; omega)
  refine GO (kb hd (tn 2 z)) (by kernel_rfl) ?_
  refine DR3 (tn 3 (ko (eO (el_aBlock l v7 (by omega))) (kp (el_aBlock l v7 (by omega)) (tn 2 (ko (cO hc1) (kp hc1 (kp (show q = q ∧ True from ⟨rfl, trivial⟩) z))))))) (by kernel_rfl) (by kernel_rfl) (by kernel_rfl) ?_
  have hwr := wrE (((v7 : Nat) : Int) + 1) ((v7 + 1 : Nat) : Int) (by omega)
  refine DR3 (tn 3 (ko (eO (el_aBlock l v7 (by omega))) (kp (el_aBlock l v7 (by omega)) (tn 2 (ko (cO hc2) (kp hc2 (kp (show q + (dpI (el l v7).fLine).length = q + (dpI (el l v7).fLine).length ∧ True from ⟨rfl, trivial⟩) (ko (nO hwr) (kp hwr (tn 1 z)))))))))) (by kernel_rfl) (by kernel_rfl) (by kernel_rfl) ?_
  have hq2 : q + (dpI (el l v7).fLine).length + (ilsB (el l v7).fKids).length = g + (ilsB (l.take (v7 + 1))).length := by rw [ilsB_take h1, List.length_append, List.length_append, hq]; omega
  have hy2 : ys ++ dpI (el l v7).fLine ++ ilsB (el l v7).fKids = xs ++ ilsB (l.take (v7 + 1)) := by rw [ilsB_take h1, hys]; simp
  exact AG (m := n0) ⟨v7 + 1, q + (dpI (el l v7).fLine).length + (ilsB (el l v7).fKids).length, ys ++ dpI (el l v7).fLine ++ ilsB (el l v7).fKids, by omega, hq2, hy2, by omega, rfl, rfl⟩ (WK (by kernel_rfl)) (by kernel_rfl) (Nat.lt_succ_self _)
 ·have hd : decide (((v7 : Nat) : Int) < ((lenM aBlock l : Nat) : Int)) = false := decide_eq_false (by omega)
  have hv : v7 = l.length := by omega
  subst hv
  rw [List.take_length] at hq hys
  subst hq hys
  refine GO (kb hd z) (by kernel_rfl) ?_
  refine OUT z (by kernel_rfl) ?_
  exact ENb (by kernel_rfl) (by intro p hp; simp only [bxB, List.mem_cons, List.not_mem_nil, or_false] at hp; rcases hp with rfl | rfl | rfl <;> rfl) (by intro p hp; simp only [List.mem_cons, List.not_mem_nil, or_false] at hp; subst hp; rfl)
theorem inb_n : ∀ (n : Nat) (l : List DBlock), wl wBlock l < n → wl wBlock l ≤ 1073741824 → ∀ (g : Nat) (xs : List DInline), xs.length + wl wBlock l ≤ 4294967296 →
  CallTo Tryz.prog 49 [jL (l.map aBlock), .ptr 1001 0, .ptr 1003 0] (bxB g xs) [((1002, 34), g)] undefS (bxB (g + (ilsB l).length) (xs ++ ilsB l)) [((1002, 34), g + (ilsB l).length)]
 | 0, l, h, _, _, _, _ => by omega
 | n + 1, l, h, hl, g, xs, hx => inb_st l hl g xs hx (fun l' h1 h2 g' xs' h3 => inb_n n l' (by omega) h2 g' xs' h3)
theorem ghost_weak {S S' : St} (h : Weak S S') : Ghost S S' := fun G w a hr => ⟨G, Step.refl G w, h G w a hr, fun _ _ => rfl⟩
theorem castp {p q : Prop} (h : p = q) (x : p) : q := h ▸ x
def sI (κ : Key) : Key := if κ = (1000, 0) then (3, 0) else if κ = (3, 0) then (1000, 0) else if κ = (1001, 0) then (4, 0) else if κ = (4, 0) then (1001, 0) else if κ = (1003, 0) then (5, 0) else if κ = (5, 0) then (1003, 0) else if κ = (1002, 34) then (3, 34) else if κ = (3, 34) then (1002, 34) else κ
theorem sI_inv : Inv sI := by
 refine ⟨fun κ => ?_, fun κ => ?_⟩
 ·unfold sI
  by_cases h1 : κ = (1000, 0)
  ·subst h1; decide
  by_cases h2 : κ = (3, 0)
  ·subst h2; decide
  by_cases h3 : κ = (1001, 0)
  ·subst h3; decide
  by_cases h4 : κ = (4, 0)
  ·subst h4; decide
  by_cases h5 : κ = (1003, 0)
  ·subst h5; decide
  by_cases h6 : κ = (5, 0)
  ·subst h6; decide
  by_cases h7 : κ = (1002, 34)
  ·subst h7; decide
  by_cases h8 : κ = (3, 34)
  ·subst h8; decide
  simp only [h1, h2, h3, h4, h5, h6, h7, h8, if_false]
 ·unfold sI
  repeat' split
  all_goals first | rfl | (rename_i h; rw [h]) | (subst_vars; rfl)
def bx3 (g : Nat) (xs : List DInline) : List (Nat × ABox) := [(3, .cells 27 [.own (3, 34) g 10 (xs.map aInline)]), (4, .cells 101 [.fn 45 [] [.ptr 3 0, .ptr 4 0]]), (5, .cells 106 [.fn 49 [] [.ptr 4 0, .ptr 5 0]])]
def bxN : List (Nat × ABox) := [(3, .cells 27 [.nil]), (4, .cells 101 [.fn 45 [] [.ptr 3 0, .ptr 4 0]]), (5, .cells 106 [.fn 49 [] [.ptr 4 0, .ptr 5 0]])]
theorem WkS_refl (S : St) (s : SV) : WkS S s s := by
 cases s with
 | ag l => exact WkCs_refl S l
 | _ => simp [WkS]
theorem WkL_refl (S : St) : ∀ l : List SV, WkL S l l
 | [] => trivial
 | s :: l => ⟨WkS_refl S s, WkL_refl S l⟩
theorem weak_N (n : Nat) (sl : List (Nat × SV)) : Weak (sx n sl bxN []) (sx n sl (bx3 0 []) [((3, 34), 0)]) :=
 weak_of (WkL_refl _ _) ⟨⟨rfl, ⟨rfl, Nat.succ_pos _, rfl⟩, trivial⟩, ⟨rfl, WkL_refl _ _⟩, ⟨rfl, WkL_refl _ _⟩, trivial⟩ ⟨rfl, trivial⟩
theorem ilsT_to (l : List DBlock) (hl : wl wBlock l ≤ 1073741824) : CallTo Tryz.prog 25 [(jL (l.map aBlock))] [] [] (jL ((ilsB l).map aInline)) [] [] := by
 have hc0 := CallTo_ren sI_inv (inb_n _ l (Nat.lt_succ_self _) hl 0 [] (by simp; omega))
 have hc : CallTo Tryz.prog 49 [jL (l.map aBlock), .ptr 4 0, .ptr 5 0] (bx3 0 []) [((3, 34), 0)] undefS (bx3 (0 + (ilsB l).length) ([] ++ ilsB l)) [((3, 34), 0 + (ilsB l).length)] := castp (by kernel_rfl) hc0
 refine BEG (fun r : List DInline => (jL (r.map aInline))) (ilsB l) Tryz.func25 (by kernel_rfl) ?_
 refine GO (tn 8 (kq 6 z)) (by kernel_rfl) ?_
 refine GHOST (S' := sx 12 [(0, (jL (l.map aBlock))), (3, .ptr 3 0), (4, .ptr 4 0), (5, .ptr 5 0)] (bx3 0 []) [((3, 34), 0)]) (ghost_weak (wtr (WK (bx := bxN) (gn := []) (by kernel_rfl)) (weak_N _ _))) ?_
 refine GO (tn 2 (kg hc (show (0 : Nat) = 0 ∧ True from ⟨rfl, trivial⟩) (tn 2 z))) (by kernel_rfl) ?_
 refine ENw (r := jL (([] ++ ilsB l).map aInline)) rfl (by kernel_rfl)
end Go.Proofs.YtkgflongbanbgaaGreatDoor
