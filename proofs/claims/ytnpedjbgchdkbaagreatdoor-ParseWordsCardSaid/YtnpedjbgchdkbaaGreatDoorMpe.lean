/- Texts joined by a program (merge.py). -/
import Derived.Test.YtnpedjbgchdkbaaGreatDoorMpd
import Derived.KernelRfl
import Derived.Shelf.Lays
import Derived.Test.YtnpedjbgchdkbaaGreatDoorProg
import Derived.Shelf.Small.Strs
import Derived.Shelf.Unicode.WordAny
import Derived.Shelf.Strings.IndexAny
import Derived.Shelf.Strings.SlTrimAscii
import Derived.Shelf.Strings.Prefix
import Derived.Below
import Derived.Laws.MakeOwn
import Derived.Shelf.Strings.Search2
import Derived.OrdersIn
import Derived.AtR
import Derived.RangeFuncSeq
import Derived.RangeFuncNested
import Derived.RangeFuncBound
import Derived.RangeFuncCalls
import Derived.RangeFuncLeaves
import Derived.RangeFuncKeeps
import Derived.RangeFuncFrom
import Derived.Shelf.Abstract
import Derived.WalkKit
import Derived.OwnWalkIn
import Derived.TacticsInMore
import Derived.LoopNIn
import Derived.LoopIn
import Derived.Shelf.Strconv.Itoa3
import Derived.Shelf.Strconv.Atoi
import Derived.Lib.AtoiErrMem
set_option linter.unusedSimpArgs false
set_option linter.unusedVariables false
set_option maxRecDepth 100000
set_option maxHeartbeats 4000000
open Int renaming toNat -> Za
open ByteArray renaming size -> Zb
open ByteArray renaming extract -> Zc
open Array renaming getD_eq_getD_getElem? -> Zd
open List renaming all_eq_true -> Ze
open Option.some renaming injEq -> Zf
open Bool renaming and_eq_true -> Zg
open Array renaming getElem?_setIfInBounds_ne -> Zh
open Array renaming getElem?_eq_some_iff -> Zi
open Prod.mk renaming injEq -> Zj
open Nat renaming le_refl -> Zk
open Array renaming getElem?_setIfInBounds_self_of_lt -> Zl
open Bool renaming not_eq_true' -> Zm
open List renaming range -> Zn
open Nat renaming lt_succ_self -> Zo
open Array renaming getElem?_eq_getElem -> Zp
open List renaming getElem?_set -> Zq
open List renaming mem_range -> Zr
open List renaming getElem?_eq_getElem -> Zs
open Array renaming replicate -> Zt
open List renaming getD_eq_getElem?_getD -> Zu
open List renaming length_cons -> Zv
open List renaming cons_append -> Zw
open List renaming mem_of_getElem? -> Zx
open List renaming mem_cons -> Zy
open List renaming not_mem_nil -> Zz
open List renaming length -> Z0
open List renaming nil_append -> Z1
open Bool renaming or_eq_true -> Z2
open Array renaming replicate_zero -> Z3
open Array renaming replicate_succ -> Z4
open List renaming getElem?_eq_some_iff -> Z5
open List renaming append_toArray -> Z6
open Option renaming isSome_iff_exists -> Z7
open List renaming size_toArray -> Z8
open List renaming push_toArray -> Z9
open List renaming mem_map -> Ya
open List renaming length_nil -> Yb
namespace Go.Eng
variable {P : Program}
def WA (P : Program) (ops : Array Oper) (Q : St -> Prop) (fuel : Nat) (listed : Array Bool) (S : St) : Prop :=
 ∀ (Q' : Exit -> Act -> World -> Prop) (G : Gh) (w : World) (a : Act), Rel G w S a ->
  (∀ S' G' a' w', Q S' -> Step G w G' w' -> Rel G' w' S' a' -> (∀ i, Fx i -> G'.ow (i, 0) = G.ow (i, 0)) -> Q' .normal a' w') -> wpAny P .any ops Q' fuel listed a w
def upTo (sz n : Nat) : Array Bool := (Array.range sz).map (fun i => decide (i < n))
def Vpt (ops : Array Oper) (n : Nat) : Nat -> Array Bool -> Bool
 | 0, listed => (Zn n).all (fun i => listed.getD i false)
 | f + 1, listed => !(Region.ready .any ops listed).isEmpty && (Region.ready .any ops listed).all (fun i => decide (i < n) && Vpt ops n f (listed.setIfInBounds i true))
theorem upTo_eq {listed : Array Bool} {sz n : Nat} (hsz : listed.size = sz) (h1 : ∀ j, j < n -> listed.getD j false = true) (h2 : ∀ j, n <= j -> listed.getD j false = false) : listed = upTo sz n := by
 apply Array.ext
 ·simp [upTo, hsz]
 ·intro i hi hi'; simp only [upTo, Array.getElem_map, Array.getElem_range]
  by_cases h : i < n
  ·have := h1 i h; simp only [Zd, Zp hi, Option.getD_some] at this; rw [this]; simp [h]
  ·have := h2 i (by omega); simp only [Zd, Zp hi, Option.getD_some] at this; rw [this]; simp [h]
theorem W_head {id : Nat} {ops : Array Oper} {Q : Exit -> St -> Prop} {S Sc : St} (hm : P.follows .mixedOrders = true) (n : Nat) (v : Nat -> SV) (d : Nat -> Nat) (hB : Vpt ops n n (Zt ops.size false) = true)
  (hd : ∀ i, i < n -> ∃ o, ops[i]? = some o /\ o.dst = some (d i) /\ o.guard = none) (hinj : ∀ i j, i < n -> j < n -> d i = d j -> i = j) (hlt : ∀ i, i < n -> d i < S.fr.length)
  (hop : ∀ i, i < n -> ∀ o, ops[i]? = some o -> ∀ S' : St, S'.bx = S.bx -> S'.gn = S.gn -> S'.fr.length = S.fr.length -> (∀ e ∈ o.after, Region.binds .any e = true -> e.on < n -> S'.fr[d e.on]? = some (v e.on)) -> (∀ t : Nat, (∀ j, j < n -> t ≠ d j) -> S'.fr[t]? = S.fr[t]?) ->
   ∃ p : Prop, p /\ Vaw P o S' = some ⟨p, v i, S'⟩)
  (hS1 : Sc.bx = S.bx) (hS2 : Sc.gn = S.gn) (hS3 : ∀ j, j < n -> Sc.fr[d j]? = some (v j)) (hS4 : ∀ t : Nat, (∀ j, j < n -> t ≠ d j) -> Sc.fr[t]? = S.fr[t]?)
  (h : WA P ops (Q .normal) (ops.size - n) (upTo ops.size n) Sc) : W P (.region id ops true) Q S := by
 intro G0 w0 a0 hr0; obtain ⟨hstep0, hr0'⟩ := hr0.draw; apply wp_region_any hm
 have main : ∀ (f : Nat) (listed : Array Bool) (G : Gh) (w : World) (a : Act) (S' : St), Vpt ops n f listed = true -> listed.size = ops.size -> (∀ j, n <= j -> listed.getD j false = false) -> S'.bx = S.bx -> S'.gn = S.gn -> S'.fr.length = S.fr.length ->
   (∀ j, j < n -> listed.getD j false = true -> S'.fr[d j]? = some (v j)) -> (∀ t : Nat, (∀ j, j < n -> t ≠ d j) -> S'.fr[t]? = S.fr[t]?) -> Rel G w S' a -> Step G0 w0 G w -> (∀ i, Fx i -> G.ow (i, 0) = G0.ow (i, 0)) -> wpAny P .any ops (lift Q G0 w0) (f + (ops.size - n)) listed a w := by
  intro f
  induction f with
  | zero =>
   intro listed G w a S' hb hsz hun h1 h2 h3 h4 h5 hr hst how; simp only [Vpt] at hb
   have hall' : ∀ j, j < n -> listed.getD j false = true := fun j hj => Ze.1 hb j (Zr.2 hj)
   have hfr : S'.fr = Sc.fr := by
    apply List.ext_getElem?; intro t
    by_cases ht : ∃ j, j < n /\ t = d j
    ·obtain ⟨j, hj, rfl⟩ := ht; rw [h4 j hj (hall' j hj), hS3 j hj]
    ·have ht' : ∀ j, j < n -> t ≠ d j := fun j hj e => ht ⟨j, hj, e⟩
     rw [h5 t ht', hS4 t ht']
   have hSS : S' = Sc := by
    obtain ⟨f1, b1, g1⟩ := S'; obtain ⟨f2, b2, g2⟩ := Sc; simp only at hfr h1 h2 hS1 hS2; rw [hfr, h1, h2, hS1, hS2]
   subst hSS; rw [upTo_eq hsz hall' hun, Nat.zero_add]; exact h (lift Q G0 w0) G w a hr (fun S2 G2 a2 w2 q1 q2 q3 q4 => ⟨S2, G2, q1, hst.trans q2, q3, fun i hi => (q4 i hi).trans (how i hi)⟩)
  | succ f ih =>
   intro listed G w a S' hb hsz hun0 h1 h2 h3 h4 h5 hr hst how; simp only [Vpt, Zg, Zm, List.isEmpty_eq_false_iff] at hb; obtain ⟨hne, hall⟩ := hb; rw [show f + 1 + (ops.size - n) = (f + (ops.size - n)) + 1 by omega]; refine ⟨fun h0 => absurd h0 hne, fun i hi => ?_⟩
   have hi2 := Ze.1 hall i hi; simp only [Zg, decide_eq_true_eq] at hi2; obtain ⟨hin, hbi⟩ := hi2; obtain ⟨hun, o, ho, hdep⟩ := mem_ready.1 hi; obtain ⟨o', ho', hdst, hg⟩ := hd i hin
   have : o' = o := Option.some.inj (ho'.symm.trans ho); subst this; obtain ⟨p, hp, hast⟩ := hop i hin o' ho S' h1 h2 h3 (fun e he hbe hen => h4 e.on hen (hdep e he hbe)) h5; obtain ⟨nx, u, w', G', x1, x2, x3, x4, x5, x6⟩ := Vb9 hast hp G w a hr; unfold wpOp; simp only [ho]; rw [if_pos (Vao hg a)]; refine .inl ?_
   have hlisted : i < listed.size := by rw [hsz]; exact (Zi.1 ho).1
   have next : ∀ u, RepS G' w' (v i) u -> wpAny P .any ops (lift Q G0 w0) (f + (ops.size - n)) (listed.setIfInBounds i true) (a.put o'.dst u) w' := by
    intro u hu; refine ih _ G' w' _ (S'.put (some (d i)) (v i)) hbi (by simp [hsz]) (fun j hj => ?_) h1 h2 (by simp [St.put, h3]) (fun j hj hl => ?_) (fun t ht => ?_) (by rw [hdst]; exact x4.put (some (d i)) hu) (hst.trans x3) (fun i hi => (x6 i hi).trans (how i hi))
    ·have hq := hun0 j hj; simp only [Zd] at hq ⊢; rw [Zh (by omega)]; exact hq
    ·simp only [St.put, Zq]
     by_cases hji : d i = d j
     ·have := hinj i j hin hj hji; subst this; rw [if_pos rfl, if_pos (by rw [h3]; exact hlt i hin)]
     ·rw [if_neg hji]; refine h4 j hj ?_
      have hij : i ≠ j := fun e => hji (by rw [e])
      rw [<- hl]; simp only [Zd]; rw [Zh hij]
    ·simp only [St.put, Zq]; rw [if_neg (fun e => ht i hin e.symm)]; exact h5 t ht
   unfold Oper.wp; rw [x1]; rcases x2 with rfl | ⟨rfl, rfl⟩
   ·rw [Oper.upon_value]; exact next _ x5
   ·rw [Oper.upon_skip]; exact next _ x5
 by_cases hle : n <= ops.size
 ·have := main n (Zt ops.size false) G0 _ a0 S hB (by simp) (fun j _ => getD_replicate_false _ _) rfl rfl rfl (fun j _ hl => by rw [getD_replicate_false] at hl; cases hl) (fun _ _ => rfl) hr0' hstep0 (fun _ _ => rfl); rwa [show n + (ops.size - n) = ops.size by omega] at this
 ·obtain ⟨o, ho, _⟩ := hd ops.size (by omega); simp at ho
section
variable {ops : Array Oper} {Q : Exit -> Act -> World -> Prop}
theorem Vnr {i : Nat} {o : Oper} {K : Act -> World -> Prop} {a : Act} {w w' : World} {v : Value} (ho : ops[i]? = some o) (hg : o.guard = none) (hx : (execOp a.eval o).run P w = .ok (.value v) w') (h : K (a.put o.dst v) w') : wpOp P ops Q i K a w := by
 unfold wpOp; simp only [ho]; rw [if_pos (Vao hg a)]; refine .inl ?_; unfold Oper.wp; rw [hx, Oper.upon_value]; exact h
theorem Vht {i : Nat} {o : Oper} {K : Act -> World -> Prop} {a : Act} {w w' : World} (ho : ops[i]? = some o) (hg : o.guard = none) (hd : o.dst = none) (hx : (execOp a.eval o).run P w = .ok .skip w') (h : K a w') : wpOp P ops Q i K a w := by
 unfold wpOp; simp only [ho]; rw [if_pos (Vao hg a)]; refine .inl ?_; unfold Oper.wp; rw [hx, Oper.upon_skip, hd]; exact h
theorem Vl2 {L : Array Bool} {i f : Nat} {a : Act} {w : World} (hr : Region.ready .any ops L = [i]) (h : wpOp P ops Q i (wpAny P .any ops Q f (L.setIfInBounds i true)) a w) : wpAny P .any ops Q (f + 1) L a w :=
 ⟨fun h0 => (by rw [hr] at h0; cases h0), fun j hj => (by
  rw [hr] at hj; obtain rfl : j = i := by simpa using hj
  exact h)⟩
theorem any_two {L : Array Bool} {i j f : Nat} {a : Act} {w : World} (hr : Region.ready .any ops L = [i, j]) (h1 : wpOp P ops Q i (wpAny P .any ops Q f (L.setIfInBounds i true)) a w) (h2 : wpOp P ops Q j (wpAny P .any ops Q f (L.setIfInBounds j true)) a w) : wpAny P .any ops Q (f + 1) L a w :=
 ⟨fun h0 => (by rw [hr] at h0; cases h0), fun k hk => by
  rw [hr] at hk; simp only [Zy, Zz, or_false] at hk; rcases hk with rfl | rfl
  ·exact h1
  ·exact h2⟩
end
theorem setRow_comm (w : World) {b c : Nat} (h : b ≠ c) (x y : Array Value) : (w.setRow b x).setRow c y = (w.setRow c y).setRow b x := by
 have he : ((w.setRow b x).setRow c y).heap = ((w.setRow c y).setRow b x).heap := by
  apply Array.ext_getElem?; intro i; simp only [World.setRow, Array.getElem?_modify]
  by_cases h1 : b = i <;> by_cases h2 : c = i
  ·exact (h (h1.trans h2.symm)).elim
  ·simp [h1, h2]
  ·simp [h1, h2]
  ·simp [h1, h2]
 exact congrArg (fun h => ({ w with heap := h } : World)) he
def pushB (ops : Array Oper) (n : Nat) (L : Array Bool) : Bool :=
 let s := fun (L : Array Bool) (i : Nat) => L.setIfInBounds i true
 decide (Region.ready .any ops L = [n]) && decide (Region.ready .any ops (s L n) = [n + 1, n + 3]) && decide (Region.ready .any ops (s (s L n) (n + 1)) = [n + 2, n + 3]) && decide (Region.ready .any ops (s (s (s L n) (n + 1)) (n + 2)) = [n + 3]) &&
 decide (Region.ready .any ops (s (s L n) (n + 3)) = [n + 1]) && decide (Region.ready .any ops (s (s (s L n) (n + 3)) (n + 1)) = [n + 2]) && decide (Region.ready .any ops (s (s (s L n) (n + 1)) (n + 3)) = [n + 2]) &&
 decide (Region.ready .any ops (s (s (s (s L n) (n + 1)) (n + 2)) (n + 3)) = []) && decide (Region.ready .any ops (s (s (s (s L n) (n + 3)) (n + 1)) (n + 2)) = []) && decide (Region.ready .any ops (s (s (s (s L n) (n + 1)) (n + 3)) (n + 2)) = [])
theorem WA_push {ops : Array Oper} {o4 o5 o6 o7 : Oper} {Q : St -> Prop} {S : St} {n : Nat} {L : Array Bool} {t e T T7 ty : TypeId} {sz bt bt' bt7 : Nat} {z : Value} {z' z7 : Option Value} {k : Key} {g d4 d5 p1 bid : Nat} {l : List AV} {x0 x : AV} {s0 : SV} {A B C X : Operand}
  (hB : pushB ops n L = true) (hi4 : ops[n]? = some o4) (hi5 : ops[n + 1]? = some o5) (hi6 : ops[n + 2]? = some o6) (hi7 : ops[n + 3]? = some o7)
  (ho4 : o4.op = .call { callee := .builtin .append, args := #[A, B], argTypes := #[t, t] }) (hd4 : o4.dst = some d4) (hg4 : o4.guard = none) (ho5 : o5.op = .indexAddr t (.tmp d4) C) (hd5 : o5.dst = some d5) (hg5 : o5.guard = none) (ho6 : o6.op = .store T (.tmp d5) X) (hd6 : o6.dst = none) (hg6 : o6.guard = none)
  (ho7 : o7.op = .store T7 (.tmp p1) (.tmp d4)) (hd7 : o7.dst = none) (hg7 : o7.guard = none)
  (hA : S.ev A = .own k g sz l) (hBv : S.ev B = .av (.sl [x0])) (hC : S.ev C = .av (.val (.int .i64 l.length))) (hX : (S.ev X).toAV = some x) (hP : S.ev (.tmp p1) = .ptr bid 0) (hbx : S.bx.lookup bid = some (.cells ty [s0]))
  (hC4 : C ≠ .tmp d4) (hX4 : X ≠ .tmp d4) (hX5 : X ≠ .tmp d5) (hp4 : p1 ≠ d4) (hp5 : p1 ≠ d5) (hne : d4 ≠ d5) (hl4 : d4 < S.fr.length) (hl5 : d5 < S.fr.length)
  (ht : tElem P t = some e) (h2 : notInt P t = true) (hi : tInfo P e = some (sz, bt, some z)) (hT : tInfo P T = some (sz, bt', z')) (hT7 : tInfo P T7 = some (1, bt7, z7)) (hz : z.cells.size = sz) (hbt : 0 < bt) (hke : e + 1 = k.2) (hgen : S.gen k = g) (hu0 : Uni sz [x0]) (hux : Uni sz [x]) (hb : (l.length + 1) * bt <= 140737488355328)
  (h : Q ((((S.next k).put (some d4) (.own k (g + 1) sz (l ++ [x]))).put (some d5) .junk).setBox bid (.cells ty [.own k (g + 1) sz (l ++ [x])]))) : WA P ops Q 4 L S := by
 intro Q' G w a hr hq; simp only [pushB, Zg, decide_eq_true_eq] at hB; obtain ⟨⟨⟨⟨⟨⟨⟨⟨⟨b1, b2⟩, b3⟩, b4⟩, b5⟩, b6⟩, b7⟩, b8⟩, b9⟩, b10⟩ := hB
 have ht' : P.underlying t = some (.slice e) := by
  unfold tElem at ht; split at ht
  ·rename_i hh; simp at ht; subst ht; exact hh
  ·simp at ht
 have hrA := hr.ev A; rw [hA] at hrA
 have hrB := hr.ev B; rw [hBv] at hrB
 have hrC := hr.ev C; rw [hC] at hrC; simp only [RepS, Rep] at hrC
 have hrP := hr.ev (.tmp p1); rw [hP] at hrP; obtain ⟨bx, hbx1, hbx2⟩ := hrP; obtain ⟨bx', arrb, q1, q2, q3, q4, q5⟩ := hr.bx _ (Va9 hbx); simp only at q1; rw [hbx1] at q1; simp only [Zf] at q1; subst q1
 have hrX := (hr.ev X).toAV hX; obtain ⟨es0, hs0⟩ := src_sl (P := P) (x := a.eval B) hrB hu0; obtain ⟨b, off, cap, w1, arr1, arr2, e1, G', r1, r0, r2, s1, s2, s3, s4, s5⟩ := push_own (ty := o4.type) ht h2 hi hz hbt hr hrA hke hgen hs0 hu0 hrX hux hb; obtain ⟨c1, c2⟩ := s5 (bid, 0) bx (by intro e; rw [<- e] at hke; simp at hke) hbx1
 have hheapx : w1.heap[bx]? = some (.cells arrb ty (0, 0)) := by rw [c2]; exact q2
 have hsz : a.tmps.size = S.fr.length := hr.size.symm
 have evne : ∀ (a' : Act) (y : Operand) (v : Value) (d : Nat), y ≠ .tmp d -> (a'.put (some d) v).eval y = a'.eval y := by
  intro a' y v d hy; cases y with
  | tmp t' =>
   have : t' ≠ d := fun e => hy (by rw [e])
   simp only [Act.eval, Act.put, Zd]; rw [Zh (Ne.symm this)]
  | _ => rfl
 have eveq : ∀ (a' : Act) (v : Value) (d : Nat), d < a'.tmps.size -> (a'.put (some d) v).eval (.tmp d) = v := by
  intro a' v d hd; simp only [Act.eval, Act.put, Zd]; rw [Zl hd]; rfl
 obtain ⟨u1, hu1⟩ : ∃ u1, u1 = Value.slice (some ⟨b, off, none⟩) (l.length + 1) cap := ⟨_, rfl⟩
 obtain ⟨pt, hpt⟩ : ∃ pt, pt = Value.pointer (some ⟨b, off + l.length * sz, none⟩) := ⟨_, rfl⟩
 have x4 : (execOp a.eval o4).run P w = .ok (.value u1) w1 := by
  obtain ⟨c, hc⟩ := exec_builtin (P := P) (a := a) ho4 w; rw [hc, hu1]; simp [builtin, r1]
 have hs4 : d4 < a.tmps.size := by omega
 have hs5 : d5 < (a.put (some d4) u1).tmps.size := by simp only [Act.put, Array.size_setIfInBounds]; omega
 have x5 : ∀ W, (execOp (a.put (some d4) u1).eval o5).run P W = .ok (.value pt) W := by
  intro W
  have hlt' : ((l.length : Nat) : Int) < ((l.length : Nat) : Int) + 1 := by omega
  have ev4 : (a.put (some d4) u1).eval (.tmp d4) = .slice (some ⟨b, off, none⟩) (l.length + 1) cap := by rw [eveq _ _ _ hs4, hu1]
  rw [hpt]; simp [execOp, ho5, ev4, evne _ C _ d4 hC4, hrC.1, Instr.indexAt, asIntOf, run_underlying' ht', run_sizeOf' hi, addr_add, hlt']
 have hcs : (a.eval X).cells.size = sz := by
  have := hux.sizes (show RepL G.U w [x] [a.eval X] by simp only [RepL]; exact ⟨_, [], rfl, hrX, rfl⟩); exact this _ (by simp)
 have x6 : ∀ W : World, W.heap[b]? = some (.cells arr1 e1 (0, 0)) -> (execOp ((a.put (some d4) u1).put (some d5) pt).eval o6).run P W = .ok .skip (W.setRow b arr2) := by
  intro W hW
  have ev5 : ((a.put (some d4) u1).put (some d5) pt).eval (.tmp d5) = .pointer (some ⟨b, off + l.length * sz, none⟩) := by rw [eveq _ _ _ hs5, hpt]
  simp [execOp, ho6, ev5, evne _ X _ _ hX5, evne _ X _ _ hX4, Instr.storeAt, Instr.sureAddr, storeVar, run_sizeOf' hT, hcs, r2 W hW]
 have hone : u1.oneCell' = true := by rw [hu1]; rfl
 have hcell : u1.cells = #[u1] := by rw [hu1]; rfl
 have hal : arrb.size = 1 := by simpa using q4.length
 have x7' : ∀ W : World, W.heap[bx]? = some (.cells arrb ty (0, 0)) -> (storeCells ⟨bx, 0, none⟩ [u1]).run P W = .ok () (W.setRow bx (arrb.toList.take 0 ++ [u1] ++ arrb.toList.drop (0 + 1)).toArray) := by
  intro W hW
  have := run_storeCells_at (P := P) bx 0 ty [u1] 0 arrb W hW (by simp; omega) (by simpa using hone); simpa using this
 have x7 : ∀ (a' : Act) (W : World), a'.eval (.tmp p1) = .pointer (some ⟨bx, 0, none⟩) -> a'.eval (.tmp d4) = u1 -> W.heap[bx]? = some (.cells arrb ty (0, 0)) -> (execOp a'.eval o7).run P W = .ok .skip (W.setRow bx (arrb.toList.take 0 ++ [u1] ++ arrb.toList.drop (0 + 1)).toArray) := by
  intro a' W e1 e2 hW
  have hc1 : u1.cells.size = 1 := by rw [hcell]; rfl
  have hc2 : u1.cells.toList = [u1] := by rw [hcell]
  have := x7' W hW; simp [execOp, ho7, e1, e2, Instr.storeAt, Instr.sureAddr, storeVar, run_sizeOf' hT7, hc1, hc2, this] at this ⊢
 have evp1 : (a.put (some d4) u1).eval (.tmp p1) = .pointer (some ⟨bx, 0, none⟩) := by
  rw [evne _ (.tmp p1) _ _ (by simpa using hp4)]; exact hbx2
 have evp2 : ((a.put (some d4) u1).put (some d5) pt).eval (.tmp p1) = .pointer (some ⟨bx, 0, none⟩) := by
  rw [evne _ (.tmp p1) _ _ (by simpa using hp5)]; exact evp1
 have evd1 : (a.put (some d4) u1).eval (.tmp d4) = u1 := eveq _ _ _ hs4
 have evd2 : ((a.put (some d4) u1).put (some d5) pt).eval (.tmp d4) = u1 := by
  rw [evne _ (.tmp d4) _ _ (by simpa using hne)]; exact evd1
 -- the end
 have s3' : RepS G' (w1.setRow b arr2) (.own k (g + 1) sz (l ++ [x])) u1 := by rw [hu1]; exact s3
 have hfin0 : Rel G' (w1.setRow b arr2) (((S.next k).put (some d4) (.own k (g + 1) sz (l ++ [x]))).put (some d5) .junk) ((a.put (some d4) u1).put (some d5) pt) := (s2.put (some d4) s3').put (some d5) trivial
 have hx2 : (w1.setRow b arr2).heap[bx]? = some (.cells arrb ty (0, 0)) := by rw [setRow_other _ _ _ _ c1]; exact hheapx
 obtain ⟨w3, y1, y2, y3⟩ := hfin0.storeBox (b := bid) (ty := ty) (l := [s0]) (by simpa [St.put, St.next] using hbx) (by rw [s4]; exact hbx1) 0 (xs := [.own k (g + 1) sz (l ++ [x])]) (vs := [u1]) ⟨u1, [], rfl, s3', rfl⟩ (by simpa using hone) (by simp)
 have hw3 : w3 = (w1.setRow b arr2).setRow bx (arrb.toList.take 0 ++ [u1] ++ arrb.toList.drop (0 + 1)).toArray := by
  have := (y1 P).symm.trans (x7' _ hx2); simpa using this
 have fin : Q' .normal ((a.put (some d4) u1).put (some d5) pt) w3 := hq _ G' _ w3 (by simpa using h) (s1.trans y2) y3 (fun i _ => s4 i)
 have hcomm : ((w1.setRow bx (arrb.toList.take 0 ++ [u1] ++ arrb.toList.drop (0 + 1)).toArray).setRow b arr2) = w3 := by rw [hw3]; exact setRow_comm w1 c1 _ _
 have hb1 : (w1.setRow bx (arrb.toList.take 0 ++ [u1] ++ arrb.toList.drop (0 + 1)).toArray).heap[b]? = some (.cells arr1 e1 (0, 0)) := by rw [setRow_other _ _ _ _ (Ne.symm c1)]; exact r0
 refine Vl2 b1 (Vnr hi4 hg4 x4 ?_); rw [hd4]; refine any_two b2 (Vnr hi5 hg5 (x5 w1) ?_) (Vht hi7 hg7 hd7 (x7 _ w1 evp1 evd1 hheapx) ?_)
 ·rw [hd5]; refine any_two b3 (Vht hi6 hg6 hd6 (x6 w1 r0) ?_) (Vht hi7 hg7 hd7 (x7 _ w1 evp2 evd2 hheapx) ?_)
  ·refine Vl2 b4 (Vht hi7 hg7 hd7 (x7 _ _ evp2 evd2 hx2) ?_); rw [<- hw3]; exact ⟨b8, fin⟩
  ·refine Vl2 b7 (Vht hi6 hg6 hd6 (x6 _ hb1) ?_); rw [hcomm]; exact ⟨b10, fin⟩
 ·refine Vl2 b5 (Vnr hi5 hg5 (x5 _) ?_); rw [hd5]; refine Vl2 b6 (Vht hi6 hg6 hd6 (x6 _ hb1) ?_); rw [hcomm]; exact ⟨b9, fin⟩
end Go.Eng
namespace Go.Proofs.YtnpedjbgchdkbaaGreatDoor
open Go Go.Eng
def textsB_L0 (a : List ByteArray) (b : List ByteArray) : Nat -> Nat -> Bool
 | 0, _ => default
 | n0 + 1, v5 => cond (decide (((v5 : Nat) : Int) < ((lenM Vah a : Nat) : Int))) (cond (!eqs (el a v5) (el b v5)) false (textsB_L0 a b n0 (v5 + 1))) true
def textsB (a : List ByteArray) (b : List ByteArray) : Bool := cond (((lenM Vah a : Nat) : Int) != ((lenM Vah b : Nat) : Int)) false (textsB_L0 a b ((Z0 a - 0) + 1) 0)
theorem Vos (a : List ByteArray) (b : List ByteArray) (ha : a.length <= 1073741824) (hb : b.length <= 1073741824) : CallTo Tryz.prog 21 [(jL (a.map Vah)), (jL (b.map Vah))] [] [] (jB (textsB a b)) [] [] := by
 refine BEG (fun r : Bool => (jB r)) (textsB a b) Tryz.func21 (by kernel_rfl) ?_; refine UF (textsB.eq_1 ..) ?_; refine GO (tn 6 z) (by kernel_rfl) ?_; refine CSn (fun h1p h1 => ?_) (fun h1p h1 => ?_)
 ·have := Va2 Vah a
  have := Va2 Vah b; refine GO (kb h1 (tn 1 z)) (by kernel_rfl) ?_; exact EN (by kernel_rfl)
 ·have := Va2 Vah a
  have := Va2 Vah b; refine GO (kb h1 (tn 1 z)) (by kernel_rfl) ?_; refine LP (fun N M S => ∃ v5 : Nat, (Z0 a - v5 < N) /\ M = textsB_L0 a b N v5 /\ S = (sx 26 [(0, (jL (a.map Vah))), (1, (jL (b.map Vah))), (5, (jI ((v5 : Nat) : Int)))] [] [])) (by kernel_rfl) ⟨_, by omega, rfl, rfl⟩ (WK (by kernel_rfl)) ?_; rintro n0 M S ⟨v5, hF0, rfl, rfl⟩; obtain ⟨n0, rfl⟩ : ∃ k, n0 = k + 1 := ⟨n0 - 1, by omega⟩
  refine UF (textsB_L0.eq_2 ..) ?_; refine GO (tn 4 z) (by kernel_rfl) ?_; refine CSd (fun h2p h2 => ?_) (fun h2p h2 => ?_)
  ·have := Va2 Vah a; refine GO (kb h2 z) (by kernel_rfl) ?_
   have d3 := (el_strAV a v5 (by first | omega | (simp only [Va2, true_and]; omega)))
   have d4 := (el_strAV b v5 (by first | omega | (simp only [Va2, true_and]; omega)))
   refine DR3 (tn 2 (ko (eO d3) (kp d3 (tn 3 (ko (eO d4) (kp d4 (tn 2 z))))))) (by kernel_rfl) (by kernel_rfl) (by kernel_rfl) ?_; refine CS (fun h5 => ?_) (fun h5 => ?_)
   ·have h5n := nott h5; refine GO (kb h5 (tn 1 z)) (by kernel_rfl) ?_; refine OUT z (by kernel_rfl) ?_; exact EN (by kernel_rfl)
   ·have h5n := notf h5; refine GO (kb h5 (tn 1 (kn (wrE (((v5 : Nat) : Int) + 1) ((v5 + 1 : Nat) : Int) (by omega)) (tn 1 z)))) (by kernel_rfl) ?_; exact AG ⟨_, by omega, rfl, rfl⟩ (WK (by kernel_rfl)) (by kernel_rfl) (Zo _)
  ·have := Va2 Vah a; refine GO (kb h2 z) (by kernel_rfl) ?_; refine OUT (tn 1 z) (by kernel_rfl) ?_; exact EN (by kernel_rfl)
def pairsB_L0 (a : List DPair) (b : List DPair) : Nat -> Nat -> Bool
 | 0, _ => default
 | n0 + 1, v5 => cond (decide (((v5 : Nat) : Int) < ((lenM Vb4 a : Nat) : Int))) (cond (!(eqs ((el a v5).fKey) ((el b v5).fKey) && (eqs ((el a v5).fValue) ((el b v5).fValue) && true))) false (pairsB_L0 a b n0 (v5 + 1))) true
def pairsB (a : List DPair) (b : List DPair) : Bool := cond (((lenM Vb4 a : Nat) : Int) != ((lenM Vb4 b : Nat) : Int)) false (pairsB_L0 a b ((Z0 a - 0) + 1) 0)
theorem pairsB_to (a : List DPair) (b : List DPair) (ha : a.length <= 1073741824) (hb : b.length <= 1073741824) : CallTo Tryz.prog 27 [(jL (a.map Vb4)), (jL (b.map Vb4))] [] [] (jB (pairsB a b)) [] [] := by
 refine BEG (fun r : Bool => (jB r)) (pairsB a b) Tryz.func27 (by kernel_rfl) ?_; refine UF (pairsB.eq_1 ..) ?_; refine GO (tn 6 z) (by kernel_rfl) ?_; refine CSn (fun h1p h1 => ?_) (fun h1p h1 => ?_)
 ·have := Va2 Vb4 a
  have := Va2 Vb4 b; refine GO (kb h1 (tn 1 z)) (by kernel_rfl) ?_; exact EN (by kernel_rfl)
 ·have := Va2 Vb4 a
  have := Va2 Vb4 b; refine GO (kb h1 (tn 1 z)) (by kernel_rfl) ?_; refine LP (fun N M S => ∃ v5 : Nat, (Z0 a - v5 < N) /\ M = pairsB_L0 a b N v5 /\ S = (sx 26 [(0, (jL (a.map Vb4))), (1, (jL (b.map Vb4))), (5, (jI ((v5 : Nat) : Int)))] [] [])) (by kernel_rfl) ⟨_, by omega, rfl, rfl⟩ (WK (by kernel_rfl)) ?_; rintro n0 M S ⟨v5, hF0, rfl, rfl⟩; obtain ⟨n0, rfl⟩ : ∃ k, n0 = k + 1 := ⟨n0 - 1, by omega⟩
  refine UF (pairsB_L0.eq_2 ..) ?_; refine GO (tn 4 z) (by kernel_rfl) ?_; refine CSd (fun h2p h2 => ?_) (fun h2p h2 => ?_)
  ·have := Va2 Vb4 a; refine GO (kb h2 z) (by kernel_rfl) ?_
   have d3 := (el_aPair a v5 (by first | omega | (simp only [Va2, true_and]; omega)))
   have d4 := (el_aPair b v5 (by first | omega | (simp only [Va2, true_and]; omega)))
   refine DR3 (tn 2 (ko (eO d3) (kp d3 (tn 3 (ko (eO d4) (kp d4 (tn 2 z))))))) (by kernel_rfl) (by kernel_rfl) (by kernel_rfl) ?_; refine CS (fun h5 => ?_) (fun h5 => ?_)
   ·have h5n := nott h5; refine GO (kb h5 (tn 1 z)) (by kernel_rfl) ?_; refine OUT z (by kernel_rfl) ?_; exact EN (by kernel_rfl)
   ·have h5n := notf h5; refine GO (kb h5 (tn 1 (kn (wrE (((v5 : Nat) : Int) + 1) ((v5 + 1 : Nat) : Int) (by omega)) (tn 1 z)))) (by kernel_rfl) ?_; exact AG ⟨_, by omega, rfl, rfl⟩ (WK (by kernel_rfl)) (by kernel_rfl) (Zo _)
  ·have := Va2 Vb4 a; refine GO (kb h2 z) (by kernel_rfl) ?_; refine OUT (tn 1 z) (by kernel_rfl) ?_; exact EN (by kernel_rfl)
def atsB (a : DAttr) (b : DAttr) : Bool := cond (cond (eqs a.fID b.fID) (textsB a.fClasses b.fClasses) false) (pairsB a.fPairs b.fPairs) false
theorem atsB_to (a : DAttr) (b : DAttr) (ha : Vg0 a <= 1073741824) (hb : Vg0 b <= 1073741824) : CallTo Tryz.prog 13 [(.av (cAttr a)), (.av (cAttr b))] [] [] (jB (atsB a b)) [] [] := by
 have hwa := Vmz a
 have hwb := Vmz b
 have hw_0 := Vco (w := wStr) Vgl a.fClasses
 have hw_1 := Vco (w := wPair) Vja a.fPairs
 have hw_2 := Vco (w := wStr) Vgl b.fClasses
 have hw_3 := Vco (w := wPair) Vja b.fPairs; refine BEG (fun r : Bool => (jB r)) (atsB a b) Tryz.func13 (by kernel_rfl) ?_; refine UF (atsB.eq_1 ..) ?_; refine GO (tn 9 (kj (eqs a.fID b.fID) (tn 4 (hc (fun h => by have j0 := h.2; exact (Vos a.fClasses b.fClasses (by first | assumption | omega | decide | (simp; done) | (simp; omega)) (by first | assumption | omega | decide | (simp; done) | (simp; omega)))) z)) z (tn 1 (kj (cond (eqs a.fID b.fID) (textsB a.fClasses b.fClasses) false) (tn 4 (hc (fun h => by have j0 := h.2; obtain ⟨j0a, j0o⟩ := Vb8 j0; exact (pairsB_to a.fPairs b.fPairs (by first | assumption | omega | decide | (simp; done) | (simp; omega)) (by first | assumption | omega | decide | (simp; done) | (simp; omega)))) z)) z (tn 1 z))))) (by kernel_rfl) ?_; exact EN (by kernel_rfl)
def samLS_L1 (rec : (List DInline) -> (List DInline) -> Bool) (a : List DInline) (b : List DInline) (v5 : Nat) (k0 : Nat -> Bool) : Nat -> Nat -> Bool
 | 0, _ => default
 | n1 + 1, w8 => cond (decide (((w8 : Nat) : Int) < ((lenM Van ((el a v5).fCites) : Nat) : Int))) (cond (!(eqs ((el ((el a v5).fCites) w8).fKey) ((el ((el b v5).fCites) w8).fKey) && (eqs ((el ((el a v5).fCites) w8).fPrefix) ((el ((el b v5).fCites) w8).fPrefix) && (eqs ((el ((el a v5).fCites) w8).fSuffix) ((el ((el b v5).fCites) w8).fSuffix) && (((el ((el a v5).fCites) w8).fBare == (el ((el b v5).fCites) w8).fBare) && true))))) false (samLS_L1 rec a b v5 k0 n1 (w8 + 1))) (k0 (v5 + 1))
def samLS_L0 (rec : (List DInline) -> (List DInline) -> Bool) (a : List DInline) (b : List DInline) : Nat -> Nat -> Bool
 | 0, _ => default
 | n0 + 1, v5 => cond (decide (((v5 : Nat) : Int) < ((lenM Va1 a : Nat) : Int))) (cond (cond (cond (cond (cond (cond (cond (cond (((el a v5).fKind : Int) != (el b v5).fKind) true (!eqs ((el a v5).fText) ((el b v5).fText))) true (!eqs ((el a v5).fDest) ((el b v5).fDest))) true (!eqs ((el a v5).fTitle) ((el b v5).fTitle))) true (!atsB ((el a v5).fAttr) ((el b v5).fAttr))) true (!textsB ((el a v5).fArgs) ((el b v5).fArgs))) true (((lenM Van ((el a v5).fCites) : Nat) : Int) != ((lenM Van ((el b v5).fCites) : Nat) : Int))) true (!rec ((el a v5).fKids) ((el b v5).fKids))) false (samLS_L1 rec a b v5 (samLS_L0 rec a b n0) ((Z0 ((el a v5).fCites) - 0) + 1) 0)) true
def samLS (rec : (List DInline) -> (List DInline) -> Bool) (a : List DInline) (b : List DInline) : Bool := cond (((lenM Va1 a : Nat) : Int) != ((lenM Va1 b : Nat) : Int)) false (samLS_L0 rec a b ((Z0 a - 0) + 1) 0)
theorem samL_st (rec : (List DInline) -> (List DInline) -> Bool) (a : List DInline) (b : List DInline) (ha : wl Var a <= 1073741824) (hb : wl Var b <= 1073741824) (hrec : ∀ (a' : List DInline) (b' : List DInline), wl Var a' < wl Var a -> wl Var a' <= 1073741824 -> wl Var b' <= 1073741824 -> CallTo Tryz.prog 10 [(jL ((a').map Va1)), (jL ((b').map Va1))] [] [] (jB (rec a' b')) [] []) : CallTo Tryz.prog 10 [(jL (a.map Va1)), (jL (b.map Va1))] [] [] (jB (samLS rec a b)) [] [] := by
 have hw_0 := Vco (w := Var) Vjc a
 have hw_1 := Vco (w := Var) Vjc b; refine BEG (fun r : Bool => (jB r)) (samLS rec a b) Tryz.func10 (by kernel_rfl) ?_; refine UF (samLS.eq_1 ..) ?_; refine GO (tn 6 z) (by kernel_rfl) ?_; refine CSn (fun h1p h1 => ?_) (fun h1p h1 => ?_)
 ·have := Va2 Va1 a
  have := Va2 Va1 b; refine GO (kb h1 (tn 1 z)) (by kernel_rfl) ?_; exact EN (by kernel_rfl)
 ·have := Va2 Va1 a
  have := Va2 Va1 b; refine GO (kb h1 (tn 1 z)) (by kernel_rfl) ?_; refine LP (fun N M S => ∃ v5 : Nat, (Z0 a - v5 < N) /\ M = samLS_L0 rec a b N v5 /\ S = (sx 105 [(0, (jL (a.map Va1))), (1, (jL (b.map Va1))), (5, (jI ((v5 : Nat) : Int)))] [] [])) (by kernel_rfl) ⟨_, by omega, rfl, rfl⟩ (WK (by kernel_rfl)) ?_; rintro n0 M S ⟨v5, hF0, rfl, rfl⟩; obtain ⟨n0, rfl⟩ : ∃ k, n0 = k + 1 := ⟨n0 - 1, by omega⟩
  refine UF (samLS_L0.eq_2 ..) ?_; refine GO (tn 4 z) (by kernel_rfl) ?_; refine CSd (fun h2p h2 => ?_) (fun h2p h2 => ?_)
  ·have := Va2 Va1 a
   have hcea := wl_el (w := Var) (l := a) (i := v5) (by omega)
   have hcwa := Vdm (el a v5); simp only [wStr, w1] at hcwa
   have hceb := wl_el (w := Var) (l := b) (i := v5) (by omega)
   have hcwb := Vdm (el b v5); simp only [wStr, w1] at hcwb
   have hla0 := Vco (w := wStr) Vgl (el a v5).fArgs
   have hla1 := Vco (w := Vjd) Vlx (el a v5).fCites
   have hlb0 := Vco (w := wStr) Vgl (el b v5).fArgs
   have hlb1 := Vco (w := Vjd) Vlx (el b v5).fCites; refine GO (kb h2 z) (by kernel_rfl) ?_
   have d3 := (Vb2 a v5 (by first | omega | (simp only [Va2, true_and]; omega)))
   have d4 := (Vb2 b v5 (by first | omega | (simp only [Va2, true_and]; omega)))
   refine DR3 (tn 2 (ko (eO d3) (kp d3 (tn 5 (ko (eO d4) (kp d4 (kp d4 (tn 12 (kj (((el a v5).fKind : Int) != (el b v5).fKind) z (tn 5 z) (tn 1 (kj (cond (((el a v5).fKind : Int) != (el b v5).fKind) true (!eqs ((el a v5).fText) ((el b v5).fText))) z (tn 5 z) (tn 1 (kj (cond (cond (((el a v5).fKind : Int) != (el b v5).fKind) true (!eqs ((el a v5).fText) ((el b v5).fText))) true (!eqs ((el a v5).fDest) ((el b v5).fDest))) z (tn 5 z) (tn 1 (kj (cond (cond (cond (((el a v5).fKind : Int) != (el b v5).fKind) true (!eqs ((el a v5).fText) ((el b v5).fText))) true (!eqs ((el a v5).fDest) ((el b v5).fDest))) true (!eqs ((el a v5).fTitle) ((el b v5).fTitle))) z (tn 4 (hc (fun h => by have j0 := h.2; obtain ⟨j0a, j0o⟩ := Va4 j0; obtain ⟨j0aa, j0ao⟩ := Va4 j0a; obtain ⟨j0aaa, j0aao⟩ := Va4 j0aa; have j0aaap := Va7 j0aaa; have j0aaon := notf j0aao; have j0aon := notf j0ao; have j0on := notf j0o; exact (atsB_to ((el a v5).fAttr) ((el b v5).fAttr) (by first | assumption | omega | decide | (simp; done) | (simp; omega)) (by first | assumption | omega | decide | (simp; done) | (simp; omega)))) (tn 1 z))) (tn 1 (kj (cond (cond (cond (cond (((el a v5).fKind : Int) != (el b v5).fKind) true (!eqs ((el a v5).fText) ((el b v5).fText))) true (!eqs ((el a v5).fDest) ((el b v5).fDest))) true (!eqs ((el a v5).fTitle) ((el b v5).fTitle))) true (!atsB ((el a v5).fAttr) ((el b v5).fAttr))) z (tn 4 (hc (fun h => by have j0 := h.2; obtain ⟨j0a, j0o⟩ := Va4 j0; obtain ⟨j0aa, j0ao⟩ := Va4 j0a; obtain ⟨j0aaa, j0aao⟩ := Va4 j0aa; obtain ⟨j0aaaa, j0aaao⟩ := Va4 j0aaa; have j0aaaap := Va7 j0aaaa; have j0aaaon := notf j0aaao; have j0aaon := notf j0aao; have j0aon := notf j0ao; have j0on := notf j0o; exact (Vos ((el a v5).fArgs) ((el b v5).fArgs) (by first | assumption | omega | decide | (simp; done) | (simp; omega)) (by first | assumption | omega | decide | (simp; done) | (simp; omega)))) (tn 1 z))) (tn 1 (kj (cond (cond (cond (cond (cond (((el a v5).fKind : Int) != (el b v5).fKind) true (!eqs ((el a v5).fText) ((el b v5).fText))) true (!eqs ((el a v5).fDest) ((el b v5).fDest))) true (!eqs ((el a v5).fTitle) ((el b v5).fTitle))) true (!atsB ((el a v5).fAttr) ((el b v5).fAttr))) true (!textsB ((el a v5).fArgs) ((el b v5).fArgs))) z (tn 7 z) (tn 1 (kj (cond (cond (cond (cond (cond (cond (((el a v5).fKind : Int) != (el b v5).fKind) true (!eqs ((el a v5).fText) ((el b v5).fText))) true (!eqs ((el a v5).fDest) ((el b v5).fDest))) true (!eqs ((el a v5).fTitle) ((el b v5).fTitle))) true (!atsB ((el a v5).fAttr) ((el b v5).fAttr))) true (!textsB ((el a v5).fArgs) ((el b v5).fArgs))) true (((lenM Van ((el a v5).fCites) : Nat) : Int) != ((lenM Van ((el b v5).fCites) : Nat) : Int))) z (tn 4 (hc (fun h => by have j0 := h.2; have := Va2 Van ((el a v5).fCites); have := Va2 Van ((el b v5).fCites); obtain ⟨j0a, j0o⟩ := Va4 j0; obtain ⟨j0aa, j0ao⟩ := Va4 j0a; obtain ⟨j0aaa, j0aao⟩ := Va4 j0aa; obtain ⟨j0aaaa, j0aaao⟩ := Va4 j0aaa; obtain ⟨j0aaaaa, j0aaaao⟩ := Va4 j0aaaa; obtain ⟨j0aaaaaa, j0aaaaao⟩ := Va4 j0aaaaa; have j0aaaaaap := Va7 j0aaaaaa; have j0aaaaaon := notf j0aaaaao; have j0aaaaon := notf j0aaaao; have j0aaaon := notf j0aaao; have j0aaon := notf j0aao; have j0aon := notf j0ao; have := Va2 Van ((el a v5).fCites); have := Va2 Van ((el b v5).fCites); have j0op := Va7 j0o; exact (hrec ((el a v5).fKids) ((el b v5).fKids) (by first | assumption | omega | decide | (simp; done) | (simp; omega)) (by first | assumption | omega | decide | (simp; done) | (simp; omega)) (by first | assumption | omega | decide | (simp; done) | (simp; omega)))) (tn 1 z))) z))))))))))))))))))))) (by kernel_rfl) (by kernel_rfl) (by kernel_rfl) ?_; refine CS (fun h5 => ?_) (fun h5 => ?_)
   ·have := Va2 Van ((el a v5).fCites)
    have := Va2 Van ((el b v5).fCites); refine GO (kb h5 (tn 1 z)) (by kernel_rfl) ?_; refine OUT z (by kernel_rfl) ?_; exact EN (by kernel_rfl)
   ·have := Va2 Van ((el a v5).fCites)
    have := Va2 Van ((el b v5).fCites); obtain ⟨h5a, h5o⟩ := Va4 h5
    have := Va2 Van ((el a v5).fCites)
    have := Va2 Van ((el b v5).fCites); obtain ⟨h5aa, h5ao⟩ := Va4 h5a; obtain ⟨h5aaa, h5aao⟩ := Va4 h5aa; obtain ⟨h5aaaa, h5aaao⟩ := Va4 h5aaa; obtain ⟨h5aaaaa, h5aaaao⟩ := Va4 h5aaaa; obtain ⟨h5aaaaaa, h5aaaaao⟩ := Va4 h5aaaaa; obtain ⟨h5aaaaaaa, h5aaaaaao⟩ := Va4 h5aaaaaa
    have h5aaaaaaap := Va7 h5aaaaaaa
    have h5aaaaaaon := notf h5aaaaaao
    have h5aaaaaon := notf h5aaaaao
    have h5aaaaon := notf h5aaaao
    have h5aaaon := notf h5aaao
    have h5aaon := notf h5aao
    have := Va2 Van ((el a v5).fCites)
    have := Va2 Van ((el b v5).fCites)
    have h5aop := Va7 h5ao
    have h5on := notf h5o; refine GO (kb h5 (tn 1 z)) (by kernel_rfl) ?_; refine LP (fun N M S => ∃ w8 : Nat, (Z0 ((el a v5).fCites) - w8 < N) /\ M = samLS_L1 rec a b v5 (samLS_L0 rec a b n0) N w8 /\ S = (sx 105 [(0, (jL (a.map Va1))), (1, (jL (b.map Va1))), (5, (jI ((v5 : Nat) : Int))), (6, (.ptr 6 0)), (7, (.ptr 7 0)), (8, (jI ((w8 : Nat) : Int))), (20, (jL (a.map Va1))), (21, (jI ((v5 : Nat) : Int))), (22, (.av (.ro [(vI ((el a v5).fKind)), (vS ((el a v5).fText)), (vS ((el a v5).fDest)), (vS ((el a v5).fTitle)), (vS (((el a v5).fAttr).fID)), (.sl ((((el a v5).fAttr).fClasses).map Vah)), (.sl ((((el a v5).fAttr).fPairs).map Vb4)), (.sl (((el a v5).fArgs).map Vah)), (.sl (((el a v5).fCites).map Van)), (.sl (((el a v5).fKids).map Va1))] 0))), (23, (.av (Va8 (el a v5)))), (24, (jL (b.map Va1))), (25, (jI ((v5 : Nat) : Int))), (26, (.av (.ro [(vI ((el b v5).fKind)), (vS ((el b v5).fText)), (vS ((el b v5).fDest)), (vS ((el b v5).fTitle)), (vS (((el b v5).fAttr).fID)), (.sl ((((el b v5).fAttr).fClasses).map Vah)), (.sl ((((el b v5).fAttr).fPairs).map Vb4)), (.sl (((el b v5).fArgs).map Vah)), (.sl (((el b v5).fCites).map Van)), (.sl (((el b v5).fKids).map Va1))] 0))), (27, (.av (Va8 (el b v5))))] [(7, (.cells 33 (Vcq (el b v5)))), (6, (.cells 33 (Vcq (el a v5))))] [])) (by kernel_rfl) ⟨_, by omega, rfl, rfl⟩ (WK (by kernel_rfl)) ?_; rintro n1 M S ⟨w8, hF1, rfl, rfl⟩; obtain ⟨n1, rfl⟩ : ∃ k, n1 = k + 1 := ⟨n1 - 1, by omega⟩
    refine UF (samLS_L1.eq_2 ..) ?_; refine GO (tn 5 z) (by kernel_rfl) ?_; refine CSd (fun h6p h6 => ?_) (fun h6p h6 => ?_)
    ·have := Va2 Van ((el a v5).fCites); refine GO (kb h6 z) (by kernel_rfl) ?_
     have d7 := (Vq4 ((el a v5).fCites) w8 (by first | omega | (simp only [Va2, true_and]; omega)))
     have d8 := (Vq4 ((el b v5).fCites) w8 (by first | omega | (simp only [Va2, true_and]; omega)))
     refine DR3 (tn 3 (ko (eO d7) (kp d7 (tn 4 (ko (eO d8) (kp d8 (tn 2 z))))))) (by kernel_rfl) (by kernel_rfl) (by kernel_rfl) ?_; refine CS (fun h9 => ?_) (fun h9 => ?_)
     ·have h9n := nott h9; refine GO (kb h9 (tn 1 z)) (by kernel_rfl) ?_; refine OUT z (by kernel_rfl) ?_; refine OUT z (by kernel_rfl) ?_; exact EN (by kernel_rfl)
     ·have h9n := notf h9; refine GO (kb h9 (tn 1 (kn (wrE (((w8 : Nat) : Int) + 1) ((w8 + 1 : Nat) : Int) (by omega)) (tn 1 z)))) (by kernel_rfl) ?_; exact AG ⟨_, by omega, rfl, rfl⟩ (WK (by kernel_rfl)) (by kernel_rfl) (Zo _)
    ·have := Va2 Van ((el a v5).fCites); refine GO (kb h6 z) (by kernel_rfl) ?_; refine OUT (tn 1 (kn (wrE (((v5 : Nat) : Int) + 1) ((v5 + 1 : Nat) : Int) (by omega)) (tn 1 z))) (by kernel_rfl) ?_; exact AG ⟨_, by omega, rfl, rfl⟩ (WK (by kernel_rfl)) (by kernel_rfl) (Zo _)
  ·have := Va2 Va1 a; refine GO (kb h2 z) (by kernel_rfl) ?_; refine OUT (tn 1 z) (by kernel_rfl) ?_; exact EN (by kernel_rfl)
def samLN : Nat -> (List DInline) -> (List DInline) -> Bool
 | 0, _, _ => default
 | n + 1, a, b => samLS (samLN n) a b
theorem samLN_to : ∀ (n : Nat) (a : List DInline) (b : List DInline), wl Var a < n -> wl Var a <= 1073741824 -> wl Var b <= 1073741824 -> CallTo Tryz.prog 10 [(jL (a.map Va1)), (jL (b.map Va1))] [] [] (jB (samLN n a b)) [] []
 | 0, a, b, h0, _, _ => absurd h0 (Nat.not_lt_zero _)
 | n + 1, a, b, h0, ha, hb => by
  exact samL_st (samLN n) a b ha hb (fun a' b' q1 ha' hb' => samLN_to n a' b' (by omega) ha' hb')
def samL (a : List DInline) (b : List DInline) : Bool := samLN (wl Var a + 1) a b
theorem samL_to (a : List DInline) (b : List DInline) (ha : wl Var a <= 1073741824) (hb : wl Var b <= 1073741824) : CallTo Tryz.prog 10 [(jL (a.map Va1)), (jL (b.map Va1))] [] [] (jB (samL a b)) [] [] := samLN_to _ a b (Zo _) ha hb
def samBS_L0 (rec : (List DBlock) -> (List DBlock) -> Bool) (a : List DBlock) (b : List DBlock) : Nat -> Nat -> Bool
 | 0, _ => default
 | n0 + 1, v5 => cond (decide (((v5 : Nat) : Int) < ((lenM Vae a : Nat) : Int))) (cond (cond (cond (cond (cond (cond (cond (cond (cond (((el a v5).fKind : Int) != (el b v5).fKind) true (((el a v5).fLevel : Int) != (el b v5).fLevel)) true (!eqs ((el a v5).fInfo) ((el b v5).fInfo))) true (!eqs ((el a v5).fText) ((el b v5).fText))) true (!eqs ((el a v5).fDest) ((el b v5).fDest))) true (!eqs ((el a v5).fTitle) ((el b v5).fTitle))) true (!atsB ((el a v5).fAttr) ((el b v5).fAttr))) true (!samL ((el a v5).fLine) ((el b v5).fLine))) true (!rec ((el a v5).fKids) ((el b v5).fKids))) false (samBS_L0 rec a b n0 (v5 + 1))) true
def samBS (rec : (List DBlock) -> (List DBlock) -> Bool) (a : List DBlock) (b : List DBlock) : Bool := cond (((lenM Vae a : Nat) : Int) != ((lenM Vae b : Nat) : Int)) false (samBS_L0 rec a b ((Z0 a - 0) + 1) 0)
theorem samB_st (rec : (List DBlock) -> (List DBlock) -> Bool) (a : List DBlock) (b : List DBlock) (ha : wl Vax a <= 1073741824) (hb : wl Vax b <= 1073741824) (hrec : ∀ (a' : List DBlock) (b' : List DBlock), wl Vax a' < wl Vax a -> wl Vax a' <= 1073741824 -> wl Vax b' <= 1073741824 -> CallTo Tryz.prog 7 [(jL ((a').map Vae)), (jL ((b').map Vae))] [] [] (jB (rec a' b')) [] []) : CallTo Tryz.prog 7 [(jL (a.map Vae)), (jL (b.map Vae))] [] [] (jB (samBS rec a b)) [] [] := by
 have hw_0 := Vco (w := Vax) Vlz a
 have hw_1 := Vco (w := Vax) Vlz b; refine BEG (fun r : Bool => (jB r)) (samBS rec a b) Tryz.func7 (by kernel_rfl) ?_; refine UF (samBS.eq_1 ..) ?_; refine GO (tn 6 z) (by kernel_rfl) ?_; refine CSn (fun h1p h1 => ?_) (fun h1p h1 => ?_)
 ·have := Va2 Vae a
  have := Va2 Vae b; refine GO (kb h1 (tn 1 z)) (by kernel_rfl) ?_; exact EN (by kernel_rfl)
 ·have := Va2 Vae a
  have := Va2 Vae b; refine GO (kb h1 (tn 1 z)) (by kernel_rfl) ?_; refine LP (fun N M S => ∃ v5 : Nat, (Z0 a - v5 < N) /\ M = samBS_L0 rec a b N v5 /\ S = (sx 91 [(0, (jL (a.map Vae))), (1, (jL (b.map Vae))), (5, (jI ((v5 : Nat) : Int)))] [] [])) (by kernel_rfl) ⟨_, by omega, rfl, rfl⟩ (WK (by kernel_rfl)) ?_; rintro n0 M S ⟨v5, hF0, rfl, rfl⟩; obtain ⟨n0, rfl⟩ : ∃ k, n0 = k + 1 := ⟨n0 - 1, by omega⟩
  refine UF (samBS_L0.eq_2 ..) ?_; refine GO (tn 4 z) (by kernel_rfl) ?_; refine CSd (fun h2p h2 => ?_) (fun h2p h2 => ?_)
  ·have := Va2 Vae a
   have hcea := wl_el (w := Vax) (l := a) (i := v5) (by omega)
   have hcwa := Vex (el a v5); simp only [wStr, w1] at hcwa
   have hceb := wl_el (w := Vax) (l := b) (i := v5) (by omega)
   have hcwb := Vex (el b v5); simp only [wStr, w1] at hcwb; refine GO (kb h2 z) (by kernel_rfl) ?_
   have d3 := (Vkk a v5 (by first | omega | (simp only [Va2, true_and]; omega)))
   have d4 := (Vkk b v5 (by first | omega | (simp only [Va2, true_and]; omega)))
   refine DR3 (tn 2 (ko (eO d3) (kp d3 (tn 5 (ko (eO d4) (kp d4 (kp d4 (tn 12 (kj (((el a v5).fKind : Int) != (el b v5).fKind) z (tn 5 z) (tn 1 (kj (cond (((el a v5).fKind : Int) != (el b v5).fKind) true (((el a v5).fLevel : Int) != (el b v5).fLevel)) z (tn 5 z) (tn 1 (kj (cond (cond (((el a v5).fKind : Int) != (el b v5).fKind) true (((el a v5).fLevel : Int) != (el b v5).fLevel)) true (!eqs ((el a v5).fInfo) ((el b v5).fInfo))) z (tn 5 z) (tn 1 (kj (cond (cond (cond (((el a v5).fKind : Int) != (el b v5).fKind) true (((el a v5).fLevel : Int) != (el b v5).fLevel)) true (!eqs ((el a v5).fInfo) ((el b v5).fInfo))) true (!eqs ((el a v5).fText) ((el b v5).fText))) z (tn 5 z) (tn 1 (kj (cond (cond (cond (cond (((el a v5).fKind : Int) != (el b v5).fKind) true (((el a v5).fLevel : Int) != (el b v5).fLevel)) true (!eqs ((el a v5).fInfo) ((el b v5).fInfo))) true (!eqs ((el a v5).fText) ((el b v5).fText))) true (!eqs ((el a v5).fDest) ((el b v5).fDest))) z (tn 5 z) (tn 1 (kj (cond (cond (cond (cond (cond (((el a v5).fKind : Int) != (el b v5).fKind) true (((el a v5).fLevel : Int) != (el b v5).fLevel)) true (!eqs ((el a v5).fInfo) ((el b v5).fInfo))) true (!eqs ((el a v5).fText) ((el b v5).fText))) true (!eqs ((el a v5).fDest) ((el b v5).fDest))) true (!eqs ((el a v5).fTitle) ((el b v5).fTitle))) z (tn 4 (hc (fun h => by have j0 := h.2; obtain ⟨j0a, j0o⟩ := Va4 j0; obtain ⟨j0aa, j0ao⟩ := Va4 j0a; obtain ⟨j0aaa, j0aao⟩ := Va4 j0aa; obtain ⟨j0aaaa, j0aaao⟩ := Va4 j0aaa; obtain ⟨j0aaaaa, j0aaaao⟩ := Va4 j0aaaa; have j0aaaaap := Va7 j0aaaaa; have j0aaaaop := Va7 j0aaaao; have j0aaaon := notf j0aaao; have j0aaon := notf j0aao; have j0aon := notf j0ao; have j0on := notf j0o; exact (atsB_to ((el a v5).fAttr) ((el b v5).fAttr) (by first | assumption | omega | decide | (simp; done) | (simp; omega)) (by first | assumption | omega | decide | (simp; done) | (simp; omega)))) (tn 1 z))) (tn 1 (kj (cond (cond (cond (cond (cond (cond (((el a v5).fKind : Int) != (el b v5).fKind) true (((el a v5).fLevel : Int) != (el b v5).fLevel)) true (!eqs ((el a v5).fInfo) ((el b v5).fInfo))) true (!eqs ((el a v5).fText) ((el b v5).fText))) true (!eqs ((el a v5).fDest) ((el b v5).fDest))) true (!eqs ((el a v5).fTitle) ((el b v5).fTitle))) true (!atsB ((el a v5).fAttr) ((el b v5).fAttr))) z (tn 4 (hc (fun h => by have j0 := h.2; obtain ⟨j0a, j0o⟩ := Va4 j0; obtain ⟨j0aa, j0ao⟩ := Va4 j0a; obtain ⟨j0aaa, j0aao⟩ := Va4 j0aa; obtain ⟨j0aaaa, j0aaao⟩ := Va4 j0aaa; obtain ⟨j0aaaaa, j0aaaao⟩ := Va4 j0aaaa; obtain ⟨j0aaaaaa, j0aaaaao⟩ := Va4 j0aaaaa; have j0aaaaaap := Va7 j0aaaaaa; have j0aaaaaop := Va7 j0aaaaao; have j0aaaaon := notf j0aaaao; have j0aaaon := notf j0aaao; have j0aaon := notf j0aao; have j0aon := notf j0ao; have j0on := notf j0o; exact (samL_to ((el a v5).fLine) ((el b v5).fLine) (by first | assumption | omega | decide | (simp; done) | (simp; omega)) (by first | assumption | omega | decide | (simp; done) | (simp; omega)))) (tn 1 z))) (tn 1 (kj (cond (cond (cond (cond (cond (cond (cond (((el a v5).fKind : Int) != (el b v5).fKind) true (((el a v5).fLevel : Int) != (el b v5).fLevel)) true (!eqs ((el a v5).fInfo) ((el b v5).fInfo))) true (!eqs ((el a v5).fText) ((el b v5).fText))) true (!eqs ((el a v5).fDest) ((el b v5).fDest))) true (!eqs ((el a v5).fTitle) ((el b v5).fTitle))) true (!atsB ((el a v5).fAttr) ((el b v5).fAttr))) true (!samL ((el a v5).fLine) ((el b v5).fLine))) z (tn 4 (hc (fun h => by have j0 := h.2; obtain ⟨j0a, j0o⟩ := Va4 j0; obtain ⟨j0aa, j0ao⟩ := Va4 j0a; obtain ⟨j0aaa, j0aao⟩ := Va4 j0aa; obtain ⟨j0aaaa, j0aaao⟩ := Va4 j0aaa; obtain ⟨j0aaaaa, j0aaaao⟩ := Va4 j0aaaa; obtain ⟨j0aaaaaa, j0aaaaao⟩ := Va4 j0aaaaa; obtain ⟨j0aaaaaaa, j0aaaaaao⟩ := Va4 j0aaaaaa; have j0aaaaaaap := Va7 j0aaaaaaa; have j0aaaaaaop := Va7 j0aaaaaao; have j0aaaaaon := notf j0aaaaao; have j0aaaaon := notf j0aaaao; have j0aaaon := notf j0aaao; have j0aaon := notf j0aao; have j0aon := notf j0ao; have j0on := notf j0o; exact (hrec ((el a v5).fKids) ((el b v5).fKids) (by first | assumption | omega | decide | (simp; done) | (simp; omega)) (by first | assumption | omega | decide | (simp; done) | (simp; omega)) (by first | assumption | omega | decide | (simp; done) | (simp; omega)))) (tn 1 z))) z))))))))))))))))))))))) (by kernel_rfl) (by kernel_rfl) (by kernel_rfl) ?_; refine CS (fun h5 => ?_) (fun h5 => ?_)
   ·refine GO (kb h5 (tn 1 z)) (by kernel_rfl) ?_; refine OUT z (by kernel_rfl) ?_; exact EN (by kernel_rfl)
   ·obtain ⟨h5a, h5o⟩ := Va4 h5; obtain ⟨h5aa, h5ao⟩ := Va4 h5a; obtain ⟨h5aaa, h5aao⟩ := Va4 h5aa; obtain ⟨h5aaaa, h5aaao⟩ := Va4 h5aaa; obtain ⟨h5aaaaa, h5aaaao⟩ := Va4 h5aaaa; obtain ⟨h5aaaaaa, h5aaaaao⟩ := Va4 h5aaaaa; obtain ⟨h5aaaaaaa, h5aaaaaao⟩ := Va4 h5aaaaaa; obtain ⟨h5aaaaaaaa, h5aaaaaaao⟩ := Va4 h5aaaaaaa
    have h5aaaaaaaap := Va7 h5aaaaaaaa
    have h5aaaaaaaop := Va7 h5aaaaaaao
    have h5aaaaaaon := notf h5aaaaaao
    have h5aaaaaon := notf h5aaaaao
    have h5aaaaon := notf h5aaaao
    have h5aaaon := notf h5aaao
    have h5aaon := notf h5aao
    have h5aon := notf h5ao
    have h5on := notf h5o; refine GO (kb h5 (tn 1 (kn (wrE (((v5 : Nat) : Int) + 1) ((v5 + 1 : Nat) : Int) (by omega)) (tn 1 z)))) (by kernel_rfl) ?_; exact AG ⟨_, by omega, rfl, rfl⟩ (WK (by kernel_rfl)) (by kernel_rfl) (Zo _)
  ·have := Va2 Vae a; refine GO (kb h2 z) (by kernel_rfl) ?_; refine OUT (tn 1 z) (by kernel_rfl) ?_; exact EN (by kernel_rfl)
def samBN : Nat -> (List DBlock) -> (List DBlock) -> Bool
 | 0, _, _ => default
 | n + 1, a, b => samBS (samBN n) a b
theorem samBN_to : ∀ (n : Nat) (a : List DBlock) (b : List DBlock), wl Vax a < n -> wl Vax a <= 1073741824 -> wl Vax b <= 1073741824 -> CallTo Tryz.prog 7 [(jL (a.map Vae)), (jL (b.map Vae))] [] [] (jB (samBN n a b)) [] []
 | 0, a, b, h0, _, _ => absurd h0 (Nat.not_lt_zero _)
 | n + 1, a, b, h0, ha, hb => by
  exact samB_st (samBN n) a b ha hb (fun a' b' q1 ha' hb' => samBN_to n a' b' (by omega) ha' hb')
def samB (a : List DBlock) (b : List DBlock) : Bool := samBN (wl Vax a + 1) a b
theorem samB_to (a : List DBlock) (b : List DBlock) (ha : wl Vax a <= 1073741824) (hb : wl Vax b <= 1073741824) : CallTo Tryz.prog 7 [(jL (a.map Vae)), (jL (b.map Vae))] [] [] (jB (samB a b)) [] [] := samBN_to _ a b (Zo _) ha hb
end Go.Proofs.YtnpedjbgchdkbaaGreatDoor
set_option maxRecDepth 100000
namespace Go.Proofs
open Go.Shelf
def Tryz.lays172_ren : Go.Shelf.Ren := ⟨fun | 129 => 239 | 171 => 74 | 172 => 122 | 205 => 250 | 243 => 118 | 244 => 168 | 245 => 169 | 246 => 160 | 247 => 211 | 279 => 212 | 280 => 213 | 281 => 214 | 282 => 215 | 283 => 199 | 284 => 200 | 285 => 201 | 286 => 202 | 287 => 248 | 316 => 249 | 317 => 238 | 318 => 240 | 319 => 241 | 320 => 242 | 321 => 263 | 322 => 264 | 337 => 261 | 338 => 262 | n => n, fun | 0 => 0 | 2 => 2 | 3 => 3 | 4 => 4 | 5 => 5 | 9 => 9 | 20 => 20 | 21 => 21 | 37 => 25 | 46 => 95 | 51 => 122 | 53 => 242 | 75 => 69 | 76 => 71 | 80 => 75 | 85 => 257 | 127 => 91 | 143 => 290 | 145 => 292 | 167 => 256 | 168 => 259 | 171 => 241 | 173 => 245 | 175 => 280 | 210 => 283 | 212 => 272 | 213 => 273 | 232 => 295 | 233 => 296 | n => n, fun | 1 => 0 | 3 => 1 | 4 => 2 | 15 => 4 | 16 => 5 | 17 => 3 | 18 => 6 | 19 => 7 | n => n⟩
theorem Tryz.lays172 : Go.Proofs.Lays.n172 Tryz.prog Tryz.lays172_ren := {
 mixed := by kernel_rfl
 f129 := Tryz.func239.trans (congrArg some (by kernel_rfl))
 f171 := Tryz.func74.trans (congrArg some (by kernel_rfl))
 f172 := Tryz.func122.trans (congrArg some (by kernel_rfl))
 f205 := Tryz.func250.trans (congrArg some (by kernel_rfl))
 f243 := Tryz.func118.trans (congrArg some (by kernel_rfl))
 f244 := Tryz.func168.trans (congrArg some (by kernel_rfl))
 f245 := Tryz.func169.trans (congrArg some (by kernel_rfl))
 f246 := Tryz.func160.trans (congrArg some (by kernel_rfl))
 f247 := Tryz.func211.trans (congrArg some (by kernel_rfl))
 f279 := Tryz.func212.trans (congrArg some (by kernel_rfl))
 f280 := Tryz.func213.trans (congrArg some (by kernel_rfl))
 f281 := Tryz.func214.trans (congrArg some (by kernel_rfl))
 f282 := Tryz.func215.trans (congrArg some (by kernel_rfl))
 f283 := Tryz.func199.trans (congrArg some (by kernel_rfl))
 f284 := Tryz.func200.trans (congrArg some (by kernel_rfl))
 f285 := Tryz.func201.trans (congrArg some (by kernel_rfl))
 f286 := Tryz.func202.trans (congrArg some (by kernel_rfl))
 f287 := Tryz.func248.trans (congrArg some (by kernel_rfl))
 f316 := Tryz.func249.trans (congrArg some (by kernel_rfl))
 f317 := Tryz.func238.trans (congrArg some (by kernel_rfl))
 f318 := Tryz.func240.trans (congrArg some (by kernel_rfl))
 f319 := Tryz.func241.trans (congrArg some (by kernel_rfl))
 f320 := Tryz.func242.trans (congrArg some (by kernel_rfl))
 f321 := Tryz.func263.trans (congrArg some (by kernel_rfl))
 f322 := Tryz.func264.trans (congrArg some (by kernel_rfl))
 f337 := Tryz.func261.trans (congrArg some (by kernel_rfl))
 f338 := Tryz.func262.trans (congrArg some (by kernel_rfl))
 t0 := Tryz.underlying0
 a0 := Tryz.isAgg0
 z0 := Tryz.sizeOf0
 v0 := Tryz.zeroValue0
 t2 := Tryz.underlying2
 a2 := Tryz.isAgg2
 z2 := Tryz.sizeOf2
 v2 := Tryz.zeroValue2
 t3 := Tryz.underlying3
 a3 := Tryz.isAgg3
 z3 := Tryz.sizeOf3
 v3 := Tryz.zeroValue3
 t4 := Tryz.underlying4
 a4 := Tryz.isAgg4
 z4 := Tryz.sizeOf4
 v4 := Tryz.zeroValue4
 t5 := Tryz.underlying5
 a5 := Tryz.isAgg5
 z5 := Tryz.sizeOf5
 v5 := Tryz.zeroValue5
 t9 := Tryz.underlying9
 a9 := Tryz.isAgg9
 z9 := Tryz.sizeOf9
 v9 := Tryz.zeroValue9
 t20 := Tryz.underlying20
 a20 := Tryz.isAgg20
 z20 := Tryz.sizeOf20
 v20 := Tryz.zeroValue20
 t21 := Tryz.underlying21
 a21 := Tryz.isAgg21
 z21 := Tryz.sizeOf21
 v21 := Tryz.zeroValue21
 t37 := Tryz.underlying25
 a37 := Tryz.isAgg25
 z37 := Tryz.sizeOf25
 v37 := Tryz.zeroValue25
 t46 := Tryz.underlying95
 a46 := Tryz.isAgg95
 z46 := Tryz.sizeOf95
 v46 := Tryz.zeroValue95
 t51 := Tryz.underlying122
 a51 := Tryz.isAgg122
 z51 := Tryz.sizeOf122
 v51 := Tryz.zeroValue122
 t53 := Tryz.underlying242
 a53 := Tryz.isAgg242
 z53 := Tryz.sizeOf242
 v53 := Tryz.zeroValue242
 t75 := Tryz.underlying69
 a75 := Tryz.isAgg69
 z75 := Tryz.sizeOf69
 v75 := Tryz.zeroValue69
 t76 := Tryz.underlying71
 a76 := Tryz.isAgg71
 z76 := Tryz.sizeOf71
 v76 := Tryz.zeroValue71
 t85 := Tryz.underlying257
 a85 := Tryz.isAgg257
 z85 := Tryz.sizeOf257
 v85 := Tryz.zeroValue257
 t127 := Tryz.underlying91
 a127 := Tryz.isAgg91
 z127 := Tryz.sizeOf91
 v127 := Tryz.zeroValue91
 t143 := Tryz.underlying290
 a143 := Tryz.isAgg290
 z143 := Tryz.sizeOf290
 v143 := Tryz.zeroValue290
 t145 := Tryz.underlying292
 a145 := Tryz.isAgg292
 z145 := Tryz.sizeOf292
 v145 := Tryz.zeroValue292
 t167 := Tryz.underlying256
 a167 := Tryz.isAgg256
 z167 := Tryz.sizeOf256
 v167 := Tryz.zeroValue256
 t168 := Tryz.underlying259
 a168 := Tryz.isAgg259
 z168 := Tryz.sizeOf259
 v168 := Tryz.zeroValue259
 t171 := Tryz.underlying241
 a171 := Tryz.isAgg241
 z171 := Tryz.sizeOf241
 v171 := Tryz.zeroValue241
 t173 := Tryz.underlying245
 a173 := Tryz.isAgg245
 z173 := Tryz.sizeOf245
 v173 := Tryz.zeroValue245
 t175 := Tryz.underlying280
 a175 := Tryz.isAgg280
 z175 := Tryz.sizeOf280
 v175 := Tryz.zeroValue280
 t210 := Tryz.underlying283
 a210 := Tryz.isAgg283
 z210 := Tryz.sizeOf283
 v210 := Tryz.zeroValue283
 t212 := Tryz.underlying272
 a212 := Tryz.isAgg272
 z212 := Tryz.sizeOf272
 v212 := Tryz.zeroValue272
 t213 := Tryz.underlying273
 a213 := Tryz.isAgg273
 z213 := Tryz.sizeOf273
 t232 := Tryz.underlying295
 a232 := Tryz.isAgg295
 z232 := Tryz.sizeOf295
 v232 := Tryz.zeroValue295
 t233 := Tryz.underlying296
 a233 := Tryz.isAgg296
 z233 := Tryz.sizeOf296
 v233 := Tryz.zeroValue296
 g15 := by kernel_rfl
 g16 := by kernel_rfl
 g17 := by kernel_rfl
 g18 := by kernel_rfl
 g19 := by kernel_rfl }
def Tryz.lays137_ren : Go.Shelf.Ren := ⟨fun | 137 => 15 | 217 => 29 | 266 => 41 | n => n, fun | 3 => 3 | 5 => 5 | 9 => 9 | n => n, fun | 1 => 0 | 3 => 1 | 4 => 2 | 15 => 4 | 16 => 5 | 17 => 3 | 18 => 6 | 19 => 7 | n => n⟩
theorem Tryz.lays137 : Go.Proofs.Lays.n137 Tryz.prog Tryz.lays137_ren := {
 mixed := by kernel_rfl
 f137 := Tryz.func15.trans (congrArg some (by kernel_rfl))
 f217 := Tryz.func29.trans (congrArg some (by kernel_rfl))
 f266 := Tryz.func41.trans (congrArg some (by kernel_rfl))
 t3 := Tryz.underlying3
 a3 := Tryz.isAgg3
 z3 := Tryz.sizeOf3
 v3 := Tryz.zeroValue3
 t5 := Tryz.underlying5
 a5 := Tryz.isAgg5
 z5 := Tryz.sizeOf5
 v5 := Tryz.zeroValue5
 t9 := Tryz.underlying9
 a9 := Tryz.isAgg9
 z9 := Tryz.sizeOf9
 v9 := Tryz.zeroValue9 }
def Tryz.lays99_ren : Go.Shelf.Ren := ⟨fun | 99 => 128 | 206 => 171 | n => n, fun | 3 => 3 | 4 => 4 | 9 => 9 | n => n, fun | 1 => 0 | 3 => 1 | 4 => 2 | 15 => 4 | 16 => 5 | 17 => 3 | 18 => 6 | 19 => 7 | n => n⟩
theorem Tryz.lays99 : Go.Proofs.Lays.n99 Tryz.prog Tryz.lays99_ren := {
 mixed := by kernel_rfl
 f99 := Tryz.func128.trans (congrArg some (by kernel_rfl))
 f206 := Tryz.func171.trans (congrArg some (by kernel_rfl))
 t3 := Tryz.underlying3
 a3 := Tryz.isAgg3
 z3 := Tryz.sizeOf3
 v3 := Tryz.zeroValue3
 t4 := Tryz.underlying4
 a4 := Tryz.isAgg4
 z4 := Tryz.sizeOf4
 v4 := Tryz.zeroValue4
 t9 := Tryz.underlying9
 a9 := Tryz.isAgg9
 z9 := Tryz.sizeOf9
 v9 := Tryz.zeroValue9 }
def Tryz.lays153_ren : Go.Shelf.Ren := ⟨fun | 119 => 143 | 137 => 15 | 152 => 101 | 153 => 151 | 217 => 29 | 224 => 144 | 225 => 145 | 226 => 187 | 227 => 45 | 228 => 65 | 266 => 41 | n => n, fun | 0 => 0 | 3 => 3 | 4 => 4 | 5 => 5 | 9 => 9 | 21 => 21 | 46 => 95 | 116 => 99 | 117 => 100 | 124 => 103 | n => n, fun | 1 => 0 | 3 => 1 | 4 => 2 | 15 => 4 | 16 => 5 | 17 => 3 | 18 => 6 | 19 => 7 | n => n⟩
theorem Tryz.lays153 : Go.Proofs.Lays.n153 Tryz.prog Tryz.lays153_ren := {
 mixed := by kernel_rfl
 f119 := Tryz.func143.trans (congrArg some (by kernel_rfl))
 f137 := Tryz.func15.trans (congrArg some (by kernel_rfl))
 f152 := Tryz.func101.trans (congrArg some (by kernel_rfl))
 f153 := Tryz.func151.trans (congrArg some (by kernel_rfl))
 f217 := Tryz.func29.trans (congrArg some (by kernel_rfl))
 f224 := Tryz.func144.trans (congrArg some (by kernel_rfl))
 f225 := Tryz.func145.trans (congrArg some (by kernel_rfl))
 f226 := Tryz.func187.trans (congrArg some (by kernel_rfl))
 f227 := Tryz.func45.trans (congrArg some (by kernel_rfl))
 f228 := Tryz.func65.trans (congrArg some (by kernel_rfl))
 f266 := Tryz.func41.trans (congrArg some (by kernel_rfl))
 t0 := Tryz.underlying0
 a0 := Tryz.isAgg0
 z0 := Tryz.sizeOf0
 v0 := Tryz.zeroValue0
 t3 := Tryz.underlying3
 a3 := Tryz.isAgg3
 z3 := Tryz.sizeOf3
 v3 := Tryz.zeroValue3
 t4 := Tryz.underlying4
 a4 := Tryz.isAgg4
 z4 := Tryz.sizeOf4
 v4 := Tryz.zeroValue4
 t5 := Tryz.underlying5
 a5 := Tryz.isAgg5
 z5 := Tryz.sizeOf5
 v5 := Tryz.zeroValue5
 t9 := Tryz.underlying9
 a9 := Tryz.isAgg9
 z9 := Tryz.sizeOf9
 v9 := Tryz.zeroValue9
 t21 := Tryz.underlying21
 a21 := Tryz.isAgg21
 z21 := Tryz.sizeOf21
 v21 := Tryz.zeroValue21
 t46 := Tryz.underlying95
 a46 := Tryz.isAgg95
 z46 := Tryz.sizeOf95
 v46 := Tryz.zeroValue95
 t116 := Tryz.underlying99
 a116 := Tryz.isAgg99
 z116 := Tryz.sizeOf99
 t117 := Tryz.underlying100
 a117 := Tryz.isAgg100
 z117 := Tryz.sizeOf100
 v117 := Tryz.zeroValue100
 t124 := Tryz.underlying103
 a124 := Tryz.isAgg103
 z124 := Tryz.sizeOf103
 v124 := Tryz.zeroValue103 }
def Tryz.lays150_ren : Go.Shelf.Ren := ⟨fun | 119 => 143 | 137 => 15 | 150 => 188 | 152 => 101 | 153 => 151 | 217 => 29 | 224 => 144 | 225 => 145 | 226 => 187 | 227 => 45 | 228 => 65 | 266 => 41 | n => n, fun | 0 => 0 | 3 => 3 | 4 => 4 | 5 => 5 | 9 => 9 | 21 => 21 | 46 => 95 | 116 => 99 | 117 => 100 | 124 => 103 | n => n, fun | 1 => 0 | 3 => 1 | 4 => 2 | 15 => 4 | 16 => 5 | 17 => 3 | 18 => 6 | 19 => 7 | n => n⟩
theorem Tryz.lays150 : Go.Proofs.Lays.n150 Tryz.prog Tryz.lays150_ren := {
 mixed := by kernel_rfl
 f119 := Tryz.func143.trans (congrArg some (by kernel_rfl))
 f137 := Tryz.func15.trans (congrArg some (by kernel_rfl))
 f150 := Tryz.func188.trans (congrArg some (by kernel_rfl))
 f152 := Tryz.func101.trans (congrArg some (by kernel_rfl))
 f153 := Tryz.func151.trans (congrArg some (by kernel_rfl))
 f217 := Tryz.func29.trans (congrArg some (by kernel_rfl))
 f224 := Tryz.func144.trans (congrArg some (by kernel_rfl))
 f225 := Tryz.func145.trans (congrArg some (by kernel_rfl))
 f226 := Tryz.func187.trans (congrArg some (by kernel_rfl))
 f227 := Tryz.func45.trans (congrArg some (by kernel_rfl))
 f228 := Tryz.func65.trans (congrArg some (by kernel_rfl))
 f266 := Tryz.func41.trans (congrArg some (by kernel_rfl))
 t0 := Tryz.underlying0
 a0 := Tryz.isAgg0
 z0 := Tryz.sizeOf0
 v0 := Tryz.zeroValue0
 t3 := Tryz.underlying3
 a3 := Tryz.isAgg3
 z3 := Tryz.sizeOf3
 v3 := Tryz.zeroValue3
 t4 := Tryz.underlying4
 a4 := Tryz.isAgg4
 z4 := Tryz.sizeOf4
 v4 := Tryz.zeroValue4
 t5 := Tryz.underlying5
 a5 := Tryz.isAgg5
 z5 := Tryz.sizeOf5
 v5 := Tryz.zeroValue5
 t9 := Tryz.underlying9
 a9 := Tryz.isAgg9
 z9 := Tryz.sizeOf9
 v9 := Tryz.zeroValue9
 t21 := Tryz.underlying21
 a21 := Tryz.isAgg21
 z21 := Tryz.sizeOf21
 v21 := Tryz.zeroValue21
 t46 := Tryz.underlying95
 a46 := Tryz.isAgg95
 z46 := Tryz.sizeOf95
 v46 := Tryz.zeroValue95
 t116 := Tryz.underlying99
 a116 := Tryz.isAgg99
 z116 := Tryz.sizeOf99
 t117 := Tryz.underlying100
 a117 := Tryz.isAgg100
 z117 := Tryz.sizeOf100
 v117 := Tryz.zeroValue100
 t124 := Tryz.underlying103
 a124 := Tryz.isAgg103
 z124 := Tryz.sizeOf103
 v124 := Tryz.zeroValue103 }
def Tryz.lays160_ren : Go.Shelf.Ren := ⟨fun | 119 => 143 | 120 => 102 | 137 => 15 | 151 => 67 | 152 => 101 | 160 => 31 | 197 => 66 | 217 => 29 | 224 => 144 | 225 => 145 | 227 => 45 | 228 => 65 | 231 => 43 | 232 => 44 | 233 => 46 | 234 => 47 | 235 => 48 | 236 => 49 | 260 => 100 | 266 => 41 | 271 => 68 | n => n, fun | 0 => 0 | 3 => 3 | 4 => 4 | 5 => 5 | 9 => 9 | 21 => 21 | 46 => 95 | 105 => 130 | 116 => 99 | 117 => 100 | 119 => 189 | 124 => 103 | 138 => 191 | 139 => 192 | n => n, fun | 1 => 0 | 3 => 1 | 4 => 2 | 15 => 4 | 16 => 5 | 17 => 3 | 18 => 6 | 19 => 7 | n => n⟩
theorem Tryz.lays160 : Go.Proofs.Lays.n160 Tryz.prog Tryz.lays160_ren := {
 mixed := by kernel_rfl
 f119 := Tryz.func143.trans (congrArg some (by kernel_rfl))
 f120 := Tryz.func102.trans (congrArg some (by kernel_rfl))
 f137 := Tryz.func15.trans (congrArg some (by kernel_rfl))
 f151 := Tryz.func67.trans (congrArg some (by kernel_rfl))
 f152 := Tryz.func101.trans (congrArg some (by kernel_rfl))
 f160 := Tryz.func31.trans (congrArg some (by kernel_rfl))
 f197 := Tryz.func66.trans (congrArg some (by kernel_rfl))
 f217 := Tryz.func29.trans (congrArg some (by kernel_rfl))
 f224 := Tryz.func144.trans (congrArg some (by kernel_rfl))
 f225 := Tryz.func145.trans (congrArg some (by kernel_rfl))
 f227 := Tryz.func45.trans (congrArg some (by kernel_rfl))
 f228 := Tryz.func65.trans (congrArg some (by kernel_rfl))
 f231 := Tryz.func43.trans (congrArg some (by kernel_rfl))
 f232 := Tryz.func44.trans (congrArg some (by kernel_rfl))
 f233 := Tryz.func46.trans (congrArg some (by kernel_rfl))
 f234 := Tryz.func47.trans (congrArg some (by kernel_rfl))
 f235 := Tryz.func48.trans (congrArg some (by kernel_rfl))
 f236 := Tryz.func49.trans (congrArg some (by kernel_rfl))
 f260 := Tryz.func100.trans (congrArg some (by kernel_rfl))
 f266 := Tryz.func41.trans (congrArg some (by kernel_rfl))
 f271 := Tryz.func68.trans (congrArg some (by kernel_rfl))
 t0 := Tryz.underlying0
 a0 := Tryz.isAgg0
 z0 := Tryz.sizeOf0
 v0 := Tryz.zeroValue0
 t3 := Tryz.underlying3
 a3 := Tryz.isAgg3
 z3 := Tryz.sizeOf3
 v3 := Tryz.zeroValue3
 t4 := Tryz.underlying4
 a4 := Tryz.isAgg4
 z4 := Tryz.sizeOf4
 v4 := Tryz.zeroValue4
 t5 := Tryz.underlying5
 a5 := Tryz.isAgg5
 z5 := Tryz.sizeOf5
 v5 := Tryz.zeroValue5
 t9 := Tryz.underlying9
 a9 := Tryz.isAgg9
 z9 := Tryz.sizeOf9
 v9 := Tryz.zeroValue9
 t21 := Tryz.underlying21
 a21 := Tryz.isAgg21
 z21 := Tryz.sizeOf21
 v21 := Tryz.zeroValue21
 t46 := Tryz.underlying95
 a46 := Tryz.isAgg95
 z46 := Tryz.sizeOf95
 v46 := Tryz.zeroValue95
 t105 := Tryz.underlying130
 a105 := Tryz.isAgg130
 z105 := Tryz.sizeOf130
 v105 := Tryz.zeroValue130
 t116 := Tryz.underlying99
 a116 := Tryz.isAgg99
 z116 := Tryz.sizeOf99
 t117 := Tryz.underlying100
 a117 := Tryz.isAgg100
 z117 := Tryz.sizeOf100
 v117 := Tryz.zeroValue100
 t119 := Tryz.underlying189
 a119 := Tryz.isAgg189
 z119 := Tryz.sizeOf189
 t124 := Tryz.underlying103
 a124 := Tryz.isAgg103
 z124 := Tryz.sizeOf103
 v124 := Tryz.zeroValue103
 t138 := Tryz.underlying191
 a138 := Tryz.isAgg191
 z138 := Tryz.sizeOf191
 v138 := Tryz.zeroValue191
 t139 := Tryz.underlying192
 a139 := Tryz.isAgg192
 z139 := Tryz.sizeOf192
 v139 := Tryz.zeroValue192
 g3 := by kernel_rfl
 g4 := by kernel_rfl }
def Tryz.lays219_ren : Go.Shelf.Ren := ⟨fun | 217 => 29 | 219 => 216 | 224 => 144 | 225 => 145 | 266 => 41 | 267 => 251 | 314 => 265 | n => n, fun | 3 => 3 | 4 => 4 | 5 => 5 | 9 => 9 | 46 => 95 | 51 => 122 | 146 => 276 | n => n, fun | 1 => 0 | 3 => 1 | 4 => 2 | 15 => 4 | 16 => 5 | 17 => 3 | 18 => 6 | 19 => 7 | n => n⟩
theorem Tryz.lays219 : Go.Proofs.Lays.n219 Tryz.prog Tryz.lays219_ren := {
 mixed := by kernel_rfl
 f217 := Tryz.func29.trans (congrArg some (by kernel_rfl))
 f219 := Tryz.func216.trans (congrArg some (by kernel_rfl))
 f224 := Tryz.func144.trans (congrArg some (by kernel_rfl))
 f225 := Tryz.func145.trans (congrArg some (by kernel_rfl))
 f266 := Tryz.func41.trans (congrArg some (by kernel_rfl))
 f267 := Tryz.func251.trans (congrArg some (by kernel_rfl))
 f314 := Tryz.func265.trans (congrArg some (by kernel_rfl))
 t3 := Tryz.underlying3
 a3 := Tryz.isAgg3
 z3 := Tryz.sizeOf3
 v3 := Tryz.zeroValue3
 t4 := Tryz.underlying4
 a4 := Tryz.isAgg4
 z4 := Tryz.sizeOf4
 v4 := Tryz.zeroValue4
 t5 := Tryz.underlying5
 a5 := Tryz.isAgg5
 z5 := Tryz.sizeOf5
 v5 := Tryz.zeroValue5
 t9 := Tryz.underlying9
 a9 := Tryz.isAgg9
 z9 := Tryz.sizeOf9
 v9 := Tryz.zeroValue9
 t46 := Tryz.underlying95
 a46 := Tryz.isAgg95
 z46 := Tryz.sizeOf95
 v46 := Tryz.zeroValue95
 t51 := Tryz.underlying122
 a51 := Tryz.isAgg122
 z51 := Tryz.sizeOf122
 v51 := Tryz.zeroValue122
 t146 := Tryz.underlying276
 a146 := Tryz.isAgg276
 z146 := Tryz.sizeOf276
 v146 := Tryz.zeroValue276
 g1 := by kernel_rfl }
def Tryz.lays171_ren : Go.Shelf.Ren := ⟨fun | 129 => 239 | 171 => 74 | 243 => 118 | 246 => 160 | 283 => 199 | 284 => 200 | 285 => 201 | 286 => 202 | 317 => 238 | 318 => 240 | 319 => 241 | 320 => 242 | 337 => 261 | 338 => 262 | n => n, fun | 0 => 0 | 2 => 2 | 3 => 3 | 4 => 4 | 5 => 5 | 9 => 9 | 20 => 20 | 37 => 25 | 46 => 95 | 51 => 122 | 53 => 242 | 171 => 241 | 173 => 245 | 212 => 272 | 213 => 273 | 232 => 295 | 233 => 296 | n => n, fun | 1 => 0 | 3 => 1 | 4 => 2 | 15 => 4 | 16 => 5 | 17 => 3 | 18 => 6 | 19 => 7 | n => n⟩
theorem Tryz.lays171 : Go.Proofs.Lays.n171 Tryz.prog Tryz.lays171_ren := {
 mixed := by kernel_rfl
 f129 := Tryz.func239.trans (congrArg some (by kernel_rfl))
 f171 := Tryz.func74.trans (congrArg some (by kernel_rfl))
 f243 := Tryz.func118.trans (congrArg some (by kernel_rfl))
 f246 := Tryz.func160.trans (congrArg some (by kernel_rfl))
 f283 := Tryz.func199.trans (congrArg some (by kernel_rfl))
 f284 := Tryz.func200.trans (congrArg some (by kernel_rfl))
 f285 := Tryz.func201.trans (congrArg some (by kernel_rfl))
 f286 := Tryz.func202.trans (congrArg some (by kernel_rfl))
 f317 := Tryz.func238.trans (congrArg some (by kernel_rfl))
 f318 := Tryz.func240.trans (congrArg some (by kernel_rfl))
 f319 := Tryz.func241.trans (congrArg some (by kernel_rfl))
 f320 := Tryz.func242.trans (congrArg some (by kernel_rfl))
 f337 := Tryz.func261.trans (congrArg some (by kernel_rfl))
 f338 := Tryz.func262.trans (congrArg some (by kernel_rfl))
 t0 := Tryz.underlying0
 a0 := Tryz.isAgg0
 z0 := Tryz.sizeOf0
 v0 := Tryz.zeroValue0
 t2 := Tryz.underlying2
 a2 := Tryz.isAgg2
 z2 := Tryz.sizeOf2
 v2 := Tryz.zeroValue2
 t3 := Tryz.underlying3
 a3 := Tryz.isAgg3
 z3 := Tryz.sizeOf3
 v3 := Tryz.zeroValue3
 t4 := Tryz.underlying4
 a4 := Tryz.isAgg4
 z4 := Tryz.sizeOf4
 v4 := Tryz.zeroValue4
 t5 := Tryz.underlying5
 a5 := Tryz.isAgg5
 z5 := Tryz.sizeOf5
 v5 := Tryz.zeroValue5
 t9 := Tryz.underlying9
 a9 := Tryz.isAgg9
 z9 := Tryz.sizeOf9
 v9 := Tryz.zeroValue9
 t20 := Tryz.underlying20
 a20 := Tryz.isAgg20
 z20 := Tryz.sizeOf20
 v20 := Tryz.zeroValue20
 t37 := Tryz.underlying25
 a37 := Tryz.isAgg25
 z37 := Tryz.sizeOf25
 v37 := Tryz.zeroValue25
 t46 := Tryz.underlying95
 a46 := Tryz.isAgg95
 z46 := Tryz.sizeOf95
 v46 := Tryz.zeroValue95
 t51 := Tryz.underlying122
 a51 := Tryz.isAgg122
 z51 := Tryz.sizeOf122
 v51 := Tryz.zeroValue122
 t53 := Tryz.underlying242
 a53 := Tryz.isAgg242
 z53 := Tryz.sizeOf242
 v53 := Tryz.zeroValue242
 t171 := Tryz.underlying241
 a171 := Tryz.isAgg241
 z171 := Tryz.sizeOf241
 v171 := Tryz.zeroValue241
 t173 := Tryz.underlying245
 a173 := Tryz.isAgg245
 z173 := Tryz.sizeOf245
 v173 := Tryz.zeroValue245
 t212 := Tryz.underlying272
 a212 := Tryz.isAgg272
 z212 := Tryz.sizeOf272
 v212 := Tryz.zeroValue272
 t213 := Tryz.underlying273
 a213 := Tryz.isAgg273
 z213 := Tryz.sizeOf273
 t232 := Tryz.underlying295
 a232 := Tryz.isAgg295
 z232 := Tryz.sizeOf295
 v232 := Tryz.zeroValue295
 t233 := Tryz.underlying296
 a233 := Tryz.isAgg296
 z233 := Tryz.sizeOf296
 v233 := Tryz.zeroValue296
 g17 := by kernel_rfl
 g18 := by kernel_rfl
 g19 := by kernel_rfl }
def Tryz.lays156_ren : Go.Shelf.Ren := ⟨fun | 156 => 142 | 165 => 183 | 166 => 23 | 169 => 26 | 240 => 37 | 241 => 225 | 276 => 61 | 277 => 256 | n => n, fun | 0 => 0 | 3 => 3 | 4 => 4 | 5 => 5 | 9 => 9 | 20 => 20 | 31 => 27 | 37 => 25 | 70 => 65 | 72 => 67 | 75 => 69 | 76 => 71 | 80 => 75 | 127 => 91 | 164 => 120 | n => n, fun | 1 => 0 | 3 => 1 | 4 => 2 | 15 => 4 | 16 => 5 | 17 => 3 | 18 => 6 | 19 => 7 | n => n⟩
theorem Tryz.lays156 : Go.Proofs.Lays.n156 Tryz.prog Tryz.lays156_ren := {
 mixed := by kernel_rfl
 f156 := Tryz.func142.trans (congrArg some (by kernel_rfl))
 f165 := Tryz.func183.trans (congrArg some (by kernel_rfl))
 f166 := Tryz.func23.trans (congrArg some (by kernel_rfl))
 f169 := Tryz.func26.trans (congrArg some (by kernel_rfl))
 f240 := Tryz.func37.trans (congrArg some (by kernel_rfl))
 f241 := Tryz.func225.trans (congrArg some (by kernel_rfl))
 f276 := Tryz.func61.trans (congrArg some (by kernel_rfl))
 f277 := Tryz.func256.trans (congrArg some (by kernel_rfl))
 t0 := Tryz.underlying0
 a0 := Tryz.isAgg0
 z0 := Tryz.sizeOf0
 v0 := Tryz.zeroValue0
 t3 := Tryz.underlying3
 a3 := Tryz.isAgg3
 z3 := Tryz.sizeOf3
 v3 := Tryz.zeroValue3
 t4 := Tryz.underlying4
 a4 := Tryz.isAgg4
 z4 := Tryz.sizeOf4
 v4 := Tryz.zeroValue4
 t9 := Tryz.underlying9
 a9 := Tryz.isAgg9
 z9 := Tryz.sizeOf9
 v9 := Tryz.zeroValue9
 t20 := Tryz.underlying20
 a20 := Tryz.isAgg20
 z20 := Tryz.sizeOf20
 v20 := Tryz.zeroValue20
 t31 := Tryz.underlying27
 a31 := Tryz.isAgg27
 z31 := Tryz.sizeOf27
 v31 := Tryz.zeroValue27
 t37 := Tryz.underlying25
 a37 := Tryz.isAgg25
 z37 := Tryz.sizeOf25
 v37 := Tryz.zeroValue25
 t70 := Tryz.underlying65
 a70 := Tryz.isAgg65
 z70 := Tryz.sizeOf65
 v70 := Tryz.zeroValue65
 t72 := Tryz.underlying67
 a72 := Tryz.isAgg67
 z72 := Tryz.sizeOf67
 v72 := Tryz.zeroValue67
 t75 := Tryz.underlying69
 a75 := Tryz.isAgg69
 z75 := Tryz.sizeOf69
 v75 := Tryz.zeroValue69
 t76 := Tryz.underlying71
 a76 := Tryz.isAgg71
 z76 := Tryz.sizeOf71
 v76 := Tryz.zeroValue71
 t127 := Tryz.underlying91
 a127 := Tryz.isAgg91
 z127 := Tryz.sizeOf91
 v127 := Tryz.zeroValue91
 t164 := Tryz.underlying120
 a164 := Tryz.isAgg120
 z164 := Tryz.sizeOf120
 v164 := Tryz.zeroValue120 }
end Go.Proofs
namespace Go.Proofs.YtnpedjbgchdkbaaGreatDoor
open Go Go.Eng Go.RowKit
def A7 (s : ByteArray) : Prop := ∀ (j : Nat) b, s.data.toList[j]? = some b -> b.toNat < 128
theorem A7.ext {s : ByteArray} (h : A7 s) (i j : Nat) : A7 (s.extract i j) := by
 intro k b hk
 have hm := Zx hk
 have h2 : b ∈ s.data.toList := by
  have e : (s.extract i j).data.toList = (s.data.toList.drop i).take (j - i) := by simp [List.extract_eq_take_drop]
  rw [e] at hm; exact List.mem_of_mem_drop (List.mem_of_mem_take hm)
 obtain ⟨n, hn, e⟩ := List.getElem_of_mem h2; exact h n b (by rw [Zs hn, e])
theorem Vm1 {G : Gh} {w w' : World} (hw : Wf G w) (h : Below w.heap.size w w') : Step G w G w' /\ Wf G w' /\ ∀ κ, Keep G w G w' κ := by
 have hU : ∀ k, 0 < G.U k -> k < w.heap.size := fun k hk => by
  rcases Nat.lt_or_ge k w.heap.size with h | h
  ·exact h
  ·rw [hw.zero k h] at hk; omega
 have hk : ∀ κ, Keep G w G w' κ := fun κ => ⟨rfl, fun b hb => ⟨h.block b (hw.lt κ b hb), rfl⟩⟩
 refine ⟨⟨⟨fun _ => Zk _, ⟨fun b o ho => World.cell?_of_block (h.block b (hU b (by omega))), fun b es c h1 h2 => (h.block b (hU b (by omega))).trans h2⟩, h.size, h.os, by rw [h.tape], h.output, fun _ _ => rfl, fun _ => Zk _, fun κ _ _ => hk κ⟩,
  fun b hb _ => ⟨h.block b hb, rfl⟩, fun κ b hb => .inl ⟨κ, hb⟩⟩, ⟨hw.inj, fun κ b hb => Nat.lt_of_lt_of_le (hw.lt κ b hb) h.size, fun b hb => hw.zero b (Nat.le_trans h.size hb)⟩, hk⟩
theorem Vbp {P : Program} {f : FuncId} {args : List SV} {vs : Array Value} {res : SV} {v : Value} (he : Enterable P f) (hargs : ∀ (G : Gh) (w : World) (us : List Value), RepSs G w args us -> us.toArray = vs) (hres : ∀ (G : Gh) (w : World), RepS G w res v)
  (h : ∀ w, Calls P f vs w fun e w' => e = .returned v /\ Below w.heap.size w w') : CallTo P f args [] [] res [] [] := by
 refine ⟨he, fun G w us hw hr _ _ => ?_⟩; rw [hargs G w us hr]; refine (h w).mono ?_; rintro e w' ⟨rfl, hb⟩; obtain ⟨s1, s2, s3⟩ := Vm1 hw hb; exact ⟨v, G, rfl, s1, s2, hres G _, by simp, fun i _ => s3 _, fun _ _ => rfl, fun κ => rfl⟩
theorem args1 {G : Gh} {w : World} {s : ByteArray} {us : List Value} (h : RepSs G w [jS s] us) : us.toArray = #[.string s] := by
 obtain ⟨u, l, rfl, h1, h2⟩ := h
 have h3 : l = [] := h2; subst h3; rw [h1.1]
theorem args2 {G : Gh} {w : World} {s : ByteArray} {c : Int} {us : List Value} (h : RepSs G w [jS s, .av (.val (.int .u8 c))] us) : us.toArray = #[.string s, .int .u8 c] := by
 obtain ⟨u, l, rfl, h1, h2⟩ := h; obtain ⟨u2, l2, rfl, h3, h4⟩ := h2
 have h5 : l2 = [] := h4; subst h5; rw [h1.1, h3.1]
theorem argsS2 {G : Gh} {w : World} {s t : ByteArray} {us : List Value} (h : RepSs G w [jS s, jS t] us) : us.toArray = #[.string s, .string t] := by
 obtain ⟨u, l, rfl, h1, h2⟩ := h; obtain ⟨u2, l2, rfl, h3, h4⟩ := h2
 have h5 : l2 = [] := h4; subst h5; rw [h1.1, h3.1]
def idxB (s : ByteArray) (c : Int) : Int := Lib.indexByte s.data.toList c.toNat.toUInt8
theorem idxB_to (s : ByteArray) (c : Int) : CallTo Tryz.prog 15 [jS s, .av (.val (.int .u8 c))] [] [] (jI (idxB s c)) [] [] := by
 refine Vbp ⟨Tryz.f15, Tryz.func15, by kernel_rfl, by kernel_rfl⟩ (fun G w us h => args2 h) (fun G w => ⟨rfl, rfl⟩) (fun w => ?_); refine (Any.strings_IndexByte Tryz.lays137 s c w).mono fun e w' ⟨he, hw⟩ => ⟨he, by rw [hw]; exact Below.refl _ _⟩
def hpxB (s p : ByteArray) : Bool := Lib.hasPrefix s.data.toList p.data.toList
theorem hpxB_to (s p : ByteArray) : CallTo Tryz.prog 128 [jS s, jS p] [] [] (jB (hpxB s p)) [] [] := by
 refine Vbp ⟨Tryz.f128, Tryz.func128, by kernel_rfl, by kernel_rfl⟩ (fun G w us h => argsS2 h) (fun G w => ⟨rfl, rfl⟩) (fun w => ?_); refine (Any.strings_HasPrefix Tryz.lays99 s p w).mono fun e w' ⟨he, hw⟩ => ⟨he, by rw [hw]; exact Below.refl _ _⟩
def idxA (s p : ByteArray) : Int := Lib.indexAny s.data.toList p.data.toList
theorem zero256 : ∀ w, (zeroValue (Tryz.lays153_ren.t 116)).run Tryz.prog w = .ok (.agg (Zt 256 (.bool false))) w := fun w => by
 have h : tInfo Tryz.prog (Tryz.lays153_ren.t 116) = some (256, 256, some (.agg (Zt 256 (.bool false)))) := by kernel_rfl
 exact Val h w
theorem info256 : (Tryz.prog.info? (Tryz.lays153_ren.t 116)).map (·.size) = some 256 := by kernel_rfl
theorem idxA_to (s p : ByteArray) (hs : s.size <= 1073741824) (hp : p.size <= 1073741824) (has : A7 s) (hap : A7 p) : CallTo Tryz.prog 151 [jS s, jS p] [] [] (jI (idxA s p)) [] [] := by
 refine Vbp ⟨Tryz.f151, Tryz.func151, by kernel_rfl, by kernel_rfl⟩ (fun G w us h => argsS2 h) (fun G w => ⟨rfl, rfl⟩) (fun w => ?_); refine (Any.strings_IndexAny Tryz.lays153 zero256 info256 s p w (by omega) (by omega) has hap).mono fun e w' ⟨he, hw⟩ => ⟨he, hw⟩
def ctnA (s p : ByteArray) : Bool := Lib.containsAny s.data.toList p.data.toList
theorem ctnA_to (s p : ByteArray) (hs : s.size <= 1073741824) (hp : p.size <= 1073741824) (has : A7 s) (hap : A7 p) : CallTo Tryz.prog 188 [jS s, jS p] [] [] (jB (ctnA s p)) [] [] := by
 refine Vbp ⟨Tryz.f188, Tryz.func188, by kernel_rfl, by kernel_rfl⟩ (fun G w us h => argsS2 h) (fun G w => ⟨rfl, rfl⟩) (fun w => ?_); refine (Any.strings_ContainsAny Tryz.lays150 zero256 info256 s p w (by omega) (by omega) has hap).mono fun e w' ⟨he, hw⟩ => ⟨he, hw⟩
def trmB (s p : ByteArray) : ByteArray := ⟨(Lib.trimS s.data.toList p.data.toList).toArray⟩
theorem Vhc (s p : ByteArray) (hs : s.size <= 1073741824) (hp : p.size <= 1073741824) (hap : A7 p) : CallTo Tryz.prog 31 [jS s, jS p] [] [] (jS (trmB s p)) [] [] := by
 refine Vbp ⟨Tryz.f31, Tryz.func31, by kernel_rfl, by kernel_rfl⟩ (fun G w us h => argsS2 h) (fun G w => ⟨rfl, rfl⟩) (fun w => ?_); refine (Any.strings_Trim_ascii Tryz.lays160 zero256 info256 s p w (by omega) (by omega) hap).mono fun e w' ⟨he, hw⟩ => ⟨he, hw⟩
theorem idxB_lt : ∀ (l : List UInt8) (c : UInt8), -1 <= Lib.indexByte l c /\ Lib.indexByte l c < l.length
 | [], c => by simp [Lib.indexByte]
 | x :: l, c => by
  have h := idxB_lt l c; simp only [Lib.indexByte, Zv]
  split
  ·omega
  ·split <;> omega
theorem idxB_bd (s : ByteArray) (c : Int) : -1 <= idxB s c /\ idxB s c < s.size := by
 have h := idxB_lt s.data.toList c.toNat.toUInt8
 have e := Lib.size_eq s; unfold idxB; omega
theorem idxA_lt : ∀ (l p : List UInt8), -1 <= Lib.indexAny l p /\ Lib.indexAny l p < l.length
 | [], p => by simp [Lib.indexAny]
 | x :: l, p => by
  have h := idxA_lt l p; simp only [Lib.indexAny, Zv]
  split
  ·omega
  ·split <;> omega
theorem idxA_bd (s p : ByteArray) : -1 <= idxA s p /\ idxA s p < s.size := by
 have h := idxA_lt s.data.toList p.data.toList
 have e := Lib.size_eq s; unfold idxA; omega
theorem trmS_sub (l p : List UInt8) : (Lib.trimS l p).Sublist l := by
 refine (List.dropWhile_sublist _).trans ?_
 have h := List.dropWhile_sublist (p.contains ·) (l := l.reverse)
 have h2 := h.reverse; rw [List.reverse_reverse] at h2; exact h2
theorem Vn2 (s p : ByteArray) : (trmB s p).size <= s.size := by
 have h := (trmS_sub s.data.toList p.data.toList).length_le
 have e := Lib.size_eq s
 have e2 := Lib.size_eq (trmB s p)
 have e3 : (trmB s p).data.toList = Lib.trimS s.data.toList p.data.toList := rfl; rw [e3] at e2; omega
theorem A7.trm {s : ByteArray} (h : A7 s) (p : ByteArray) : A7 (trmB s p) := by
 intro k b hk
 have h2 := (trmS_sub s.data.toList p.data.toList).subset (Zx hk); obtain ⟨n, hn, e⟩ := List.getElem_of_mem h2; exact h n b (by rw [Zs hn, e])
theorem A7.lit {s : ByteArray} (h : s.data.toList.all (fun b => b.toNat < 128) = true) : A7 s := by
 intro k b hk
 have := Ze.1 h b (Zx hk); simpa using this
theorem scan_bd (s : ByteArray) (F : Nat -> Int -> Int) (hF : ∀ n v, F (n + 1) v = v \/ (v < (s.size : Int) /\ F (n + 1) v = F n (v + 1))) : ∀ (n : Nat) (v : Int), 0 <= v -> s.size - v.toNat < n -> v <= F n v /\ (F n v <= s.size \/ F n v <= v)
 | 0, v, h0, h1 => by omega
 | n + 1, v, h0, h1 => by
  rcases hF n v with h | ⟨h2, h⟩
  ·rw [h]; omega
  ·have := scan_bd s F hF n (v + 1) (by omega) (by omega); rw [h]; omega
theorem cond_or2 {a y : Bool} (h : cond a true y = true) : a = true \/ y = true := by cases a <;> simp_all
theorem Vac {a b : Prop} (h : a = b) (p : a) : b := h ▸ p
attribute [irreducible] idxB hpxB idxA ctnA trmB
end Go.Proofs.YtnpedjbgchdkbaaGreatDoor
namespace Go.Proofs.YtnpedjbgchdkbaaGreatDoor
open Go Go.Eng
theorem skpS_bd (s : ByteArray) (i : Int) (h : 0 <= i) : i <= skpS s i /\ (skpS s i <= s.size \/ skpS s i <= i) := by
 refine scan_bd s (skpS_L0 s i) (fun n v => ?_) _ i h (by omega); rw [skpS_L0]; refine condP (fun r : Int => r = v \/ (v < (s.size : Int) /\ r = skpS_L0 s i n (v + 1))) (fun q => ?_) (fun q => .inl rfl)
 first
 | exact .inr ⟨of_decide_eq_true (Vb8 q).1, rfl⟩
 | (have q1 := of_decide_eq_true q; exact condP (fun r : Int => r = v \/ (v < (s.size : Int) /\ r = skpS_L0 s i n (v + 1))) (fun _ => .inl rfl) (fun _ => .inr ⟨q1, rfl⟩))
 | (have q1 := of_decide_eq_true q; exact condP (fun r : Int => r = v \/ (v < (s.size : Int) /\ r = skpS_L0 s i n (v + 1))) (fun _ => .inr ⟨q1, rfl⟩) (fun _ => .inl rfl))
theorem nmeS_bd (s : ByteArray) (i : Int) (h : 0 <= i) : i <= nmeS s i /\ (nmeS s i <= s.size \/ nmeS s i <= i) := by
 refine scan_bd s (nmeS_L0 s i) (fun n v => ?_) _ i h (by omega); rw [nmeS_L0]; refine condP (fun r : Int => r = v \/ (v < (s.size : Int) /\ r = nmeS_L0 s i n (v + 1))) (fun q => ?_) (fun q => .inl rfl)
 first
 | exact .inr ⟨of_decide_eq_true (Vb8 q).1, rfl⟩
 | (have q1 := of_decide_eq_true q; exact condP (fun r : Int => r = v \/ (v < (s.size : Int) /\ r = nmeS_L0 s i n (v + 1))) (fun _ => .inl rfl) (fun _ => .inr ⟨q1, rfl⟩))
 | (have q1 := of_decide_eq_true q; exact condP (fun r : Int => r = v \/ (v < (s.size : Int) /\ r = nmeS_L0 s i n (v + 1))) (fun _ => .inr ⟨q1, rfl⟩) (fun _ => .inl rfl))
def citF (part : ByteArray) : (DCited × Bool) := cond (cond (decide ((idxB part 64 : Int) < 0)) true (decide ((idxB (Zc part (Za ((idxB part 64) + 1)) (Zb part)) 64 : Int) >= 0))) (DCited.mk (⟨#[]⟩) (⟨#[]⟩) (⟨#[]⟩) false, false) (cond (cond (decide ((idxB part 64 : Int) > 0)) (((byt part (Za ((idxB part 64) - 1)) : Nat) : Int) == 45) false) (cond (cond (decide (((idxB part 64) - 1 : Int) > 0)) (((byt part (Za (((idxB part 64) - 1) - 1)) : Nat) : Int) != 32) false) (DCited.mk (⟨#[]⟩) (⟨#[]⟩) (⟨#[]⟩) false, false) (cond (!namA (Zc part (Za ((idxB part 64) + 1)) (Za (nmeS part ((idxB part 64) + 1))))) (DCited.mk (⟨#[]⟩) (⟨#[]⟩) (⟨#[]⟩) false, false) (DCited.mk (Zc part (Za ((idxB part 64) + 1)) (Za (nmeS part ((idxB part 64) + 1)))) (trmB (Zc part 0 (Za ((idxB part 64) - 1))) (⟨#[32]⟩)) (trmB (Zc part (Za (nmeS part ((idxB part 64) + 1))) (Zb part)) (⟨#[32]⟩)) true, true))) (cond (cond (decide ((idxB part 64 : Int) > 0)) (((byt part (Za ((idxB part 64) - 1)) : Nat) : Int) != 32) false) (DCited.mk (⟨#[]⟩) (⟨#[]⟩) (⟨#[]⟩) false, false) (cond (!namA (Zc part (Za ((idxB part 64) + 1)) (Za (nmeS part ((idxB part 64) + 1))))) (DCited.mk (⟨#[]⟩) (⟨#[]⟩) (⟨#[]⟩) false, false) (DCited.mk (Zc part (Za ((idxB part 64) + 1)) (Za (nmeS part ((idxB part 64) + 1)))) (trmB (Zc part 0 (Za (idxB part 64))) (⟨#[32]⟩)) (trmB (Zc part (Za (nmeS part ((idxB part 64) + 1))) (Zb part)) (⟨#[32]⟩)) false, true))))
theorem citF_to (part : ByteArray) (hpart : part.size <= 1073741824) : CallTo Tryz.prog 190 [(jS part)] [] [] (.av (.tup [(cCited ((citF part).1)), (vB ((citF part).2))])) [] [] := by
 refine BEG (fun r : (DCited × Bool) => (.av (.tup [(cCited r.1), (vB r.2)]))) (citF part) Tryz.func190 (by kernel_rfl) ?_; refine UF (citF.eq_1 ..) ?_
 have := idxB_bd part 64; refine GO (tn 3 (kc (idxB_to part 64) (tn 4 (kj (decide ((idxB part 64 : Int) < 0)) z (tn 2 (hn (fun h => by have j0 := h.2; have j0p := of_decide_eq_false j0; exact (wrE ((idxB part 64) + 1) ((idxB part 64) + 1) (by omega))) (hp (fun h => by have j0 := h.2; have j0p := of_decide_eq_false j0; have := Vbe part (Za ((idxB part 64) + 1)) (Zb part); exact (show 0 <= ((idxB part 64) + 1 : Int) /\ ((idxB part 64) + 1 : Int) <= ((Zb part : Nat) : Int) /\ ((Zb part : Nat) : Int) <= ((Zb part : Nat) : Int) from (by omega))) (kc (idxB_to (Zc part (Za ((idxB part 64) + 1)) (Zb part)) 64) (tn 1 z))))) z)))) (by kernel_rfl) ?_; refine CS (fun h1 => ?_) (fun h1 => ?_)
 ·refine GO (kb h1 (tn 3 z)) (by kernel_rfl) ?_; exact EN (by kernel_rfl)
 ·obtain ⟨h1a, h1o⟩ := Va4 h1
  have h1ap := of_decide_eq_false h1a
  have h1op := of_decide_eq_false h1o; refine GO (kb h1 (tn 6 (kj (decide ((idxB part 64 : Int) > 0)) (tn 2 (hn (fun h => by have j0 := h.2; have j0p := of_decide_eq_true j0; exact (wrE ((idxB part 64) - 1) ((idxB part 64) - 1) (by omega))) (hp (fun h => by have j0 := h.2; have j0p := of_decide_eq_true j0; exact (ib part ((idxB part 64) - 1) (by omega))) (tn 1 z)))) z z))) (by kernel_rfl) ?_; refine CS (fun h2 => ?_) (fun h2 => ?_)
  ·obtain ⟨h2a, h2o⟩ := Vb8 h2
   have h2ap := of_decide_eq_true h2a
   have h2op := eq_of_beq h2o; refine GO (kb h2 (tn 3 (kn (wrE ((idxB part 64) - 1) ((idxB part 64) - 1) (by omega)) (tn 4 (kj (decide (((idxB part 64) - 1 : Int) > 0)) (tn 2 (hn (fun h => by have j0 := h.2; have j0p := of_decide_eq_true j0; exact (wrE (((idxB part 64) - 1) - 1) (((idxB part 64) - 1) - 1) (by omega))) (hp (fun h => by have j0 := h.2; have j0p := of_decide_eq_true j0; exact (ib part (((idxB part 64) - 1) - 1) (by omega))) (tn 1 z)))) z z))))) (by kernel_rfl) ?_; refine CS (fun h3 => ?_) (fun h3 => ?_)
   ·obtain ⟨h3a, h3o⟩ := Vb8 h3
    have h3ap := of_decide_eq_true h3a
    have h3op := bne_iff_ne.1 h3o; refine GO (kb h3 (tn 3 z)) (by kernel_rfl) ?_; exact EN (by kernel_rfl)
   ·have := nmeS_bd part ((idxB part 64) + 1) (by omega)
    have := Vbe part (Za ((idxB part 64) + 1)) (Za (nmeS part ((idxB part 64) + 1)))
    have := Vbe part 0 (Za ((idxB part 64) - 1))
    have := Vn2 (Zc part 0 (Za ((idxB part 64) - 1))) (⟨#[32]⟩)
    have := Vbe part (Za (nmeS part ((idxB part 64) + 1))) (Zb part)
    have := Vn2 (Zc part (Za (nmeS part ((idxB part 64) + 1))) (Zb part)) (⟨#[32]⟩); refine GO (kb h3 (tn 2 (kn (wrE ((idxB part 64) + 1) ((idxB part 64) + 1) (by omega)) (kc (nmeS_to part ((idxB part 64) + 1) (by omega) (by omega) (by omega)) (tn 3 (kn (wrE ((idxB part 64) + 1) ((idxB part 64) + 1) (by omega)) (tn 1 (kp (show 0 <= ((idxB part 64) + 1 : Int) /\ ((idxB part 64) + 1 : Int) <= nmeS part ((idxB part 64) + 1) /\ nmeS part ((idxB part 64) + 1) <= ((Zb part : Nat) : Int) from (by omega)) (tn 4 (kp (show 0 <= (0 : Int) /\ (0 : Int) <= (idxB part 64) - 1 /\ (idxB part 64) - 1 <= ((Zb part : Nat) : Int) from (by omega)) (kc (Vhc (Zc part 0 (Za ((idxB part 64) - 1))) (⟨#[32]⟩) (by omega) (by decide) (by repeat (first | assumption | (with_reducible apply A7.ext) | (with_reducible apply A7.trm) | exact A7.lit (by decide)))) (tn 4 (kp (show 0 <= (nmeS part ((idxB part 64) + 1) : Int) /\ (nmeS part ((idxB part 64) + 1) : Int) <= ((Zb part : Nat) : Int) /\ ((Zb part : Nat) : Int) <= ((Zb part : Nat) : Int) from (by omega)) (kc (Vhc (Zc part (Za (nmeS part ((idxB part 64) + 1))) (Zb part)) (⟨#[32]⟩) (by omega) (by decide) (by repeat (first | assumption | (with_reducible apply A7.ext) | (with_reducible apply A7.trm) | exact A7.lit (by decide)))) (tn 4 (kc (namA_to (Zc part (Za ((idxB part 64) + 1)) (Za (nmeS part ((idxB part 64) + 1)))) (by omega)) (tn 1 z))))))))))))))))) (by kernel_rfl) ?_; refine CS (fun h4 => ?_) (fun h4 => ?_)
    ·have h4n := nott h4; refine GO (kb h4 (tn 3 z)) (by kernel_rfl) ?_; exact EN (by kernel_rfl)
    ·have h4n := notf h4; refine GO (kb h4 (tn 3 z)) (by kernel_rfl) ?_; exact EN (by kernel_rfl)
  ·refine GO (kb h2 (tn 3 (kj (decide ((idxB part 64 : Int) > 0)) (tn 2 (hn (fun h => by have j0 := h.2; have j0p := of_decide_eq_true j0; exact (wrE ((idxB part 64) - 1) ((idxB part 64) - 1) (by omega))) (hp (fun h => by have j0 := h.2; have j0p := of_decide_eq_true j0; exact (ib part ((idxB part 64) - 1) (by omega))) (tn 1 z)))) z z))) (by kernel_rfl) ?_; refine CS (fun h5 => ?_) (fun h5 => ?_)
   ·obtain ⟨h5a, h5o⟩ := Vb8 h5
    have h5ap := of_decide_eq_true h5a
    have h5op := bne_iff_ne.1 h5o; refine GO (kb h5 (tn 3 z)) (by kernel_rfl) ?_; exact EN (by kernel_rfl)
   ·have := nmeS_bd part ((idxB part 64) + 1) (by omega)
    have := Vbe part (Za ((idxB part 64) + 1)) (Za (nmeS part ((idxB part 64) + 1)))
    have := Vbe part 0 (Za (idxB part 64))
    have := Vn2 (Zc part 0 (Za (idxB part 64))) (⟨#[32]⟩)
    have := Vbe part (Za (nmeS part ((idxB part 64) + 1))) (Zb part)
    have := Vn2 (Zc part (Za (nmeS part ((idxB part 64) + 1))) (Zb part)) (⟨#[32]⟩); refine GO (kb h5 (tn 2 (kn (wrE ((idxB part 64) + 1) ((idxB part 64) + 1) (by omega)) (kc (nmeS_to part ((idxB part 64) + 1) (by omega) (by omega) (by omega)) (tn 3 (kn (wrE ((idxB part 64) + 1) ((idxB part 64) + 1) (by omega)) (tn 1 (kp (show 0 <= ((idxB part 64) + 1 : Int) /\ ((idxB part 64) + 1 : Int) <= nmeS part ((idxB part 64) + 1) /\ nmeS part ((idxB part 64) + 1) <= ((Zb part : Nat) : Int) from (by omega)) (tn 4 (kp (show 0 <= (0 : Int) /\ (0 : Int) <= idxB part 64 /\ idxB part 64 <= ((Zb part : Nat) : Int) from (by omega)) (kc (Vhc (Zc part 0 (Za (idxB part 64))) (⟨#[32]⟩) (by omega) (by decide) (by repeat (first | assumption | (with_reducible apply A7.ext) | (with_reducible apply A7.trm) | exact A7.lit (by decide)))) (tn 4 (kp (show 0 <= (nmeS part ((idxB part 64) + 1) : Int) /\ (nmeS part ((idxB part 64) + 1) : Int) <= ((Zb part : Nat) : Int) /\ ((Zb part : Nat) : Int) <= ((Zb part : Nat) : Int) from (by omega)) (kc (Vhc (Zc part (Za (nmeS part ((idxB part 64) + 1))) (Zb part)) (⟨#[32]⟩) (by omega) (by decide) (by repeat (first | assumption | (with_reducible apply A7.ext) | (with_reducible apply A7.trm) | exact A7.lit (by decide)))) (tn 4 (kc (namA_to (Zc part (Za ((idxB part 64) + 1)) (Za (nmeS part ((idxB part 64) + 1)))) (by omega)) (tn 1 z))))))))))))))))) (by kernel_rfl) ?_; refine CS (fun h6 => ?_) (fun h6 => ?_)
    ·have h6n := nott h6; refine GO (kb h6 (tn 3 z)) (by kernel_rfl) ?_; exact EN (by kernel_rfl)
    ·have h6n := notf h6; refine GO (kb h6 (tn 3 z)) (by kernel_rfl) ?_; exact EN (by kernel_rfl)
def nmdP (s : ByteArray) (i : Int) : (DInline × Int) := cond (cond (decide ((i + 1 : Int) >= ((Zb s : Nat) : Int))) true (cond (((byt s (Za (i + 1)) : Nat) : Int) != 94) (((byt s (Za (i + 1)) : Nat) : Int) != 35) false)) (DInline.mk 0 (⟨#[]⟩) (⟨#[]⟩) (⟨#[]⟩) (DAttr.mk (⟨#[]⟩) ([]) ([])) ([]) ([]) ([]), 0) (cond (!namA (Zc s (Za (i + 2)) (Za (nmeS s (i + 2))))) (DInline.mk 0 (⟨#[]⟩) (⟨#[]⟩) (⟨#[]⟩) (DAttr.mk (⟨#[]⟩) ([]) ([])) ([]) ([]) ([]), 0) (cond (cond (((byt s (Za (i + 1)) : Nat) : Int) == 94) (hpxB (Zc s (Za (nmeS s (i + 2))) (Zb s)) (⟨#[93]⟩)) false) (DInline.mk 12 (Zc s (Za (i + 2)) (Za (nmeS s (i + 2)))) (⟨#[]⟩) (⟨#[]⟩) (DAttr.mk (⟨#[]⟩) ([]) ([])) ([]) ([]) ([]), (nmeS s (i + 2)) + 1) (cond (cond (((byt s (Za (i + 1)) : Nat) : Int) == 35) (hpxB (Zc s (Za (nmeS s (i + 2))) (Zb s)) (⟨#[93]⟩)) false) (DInline.mk 14 (Zc s (Za (i + 2)) (Za (nmeS s (i + 2)))) (⟨#[]⟩) (⟨#[]⟩) (DAttr.mk (⟨#[]⟩) ([]) ([])) ([]) ([]) ([]), (nmeS s (i + 2)) + 1) (cond (cond (((byt s (Za (i + 1)) : Nat) : Int) == 35) (hpxB (Zc s (Za (nmeS s (i + 2))) (Zb s)) (⟨#[32, 112, 97, 103, 101, 93]⟩)) false) (DInline.mk 14 (Zc s (Za (i + 2)) (Za (nmeS s (i + 2)))) (⟨#[]⟩) (⟨#[112, 97, 103, 101]⟩) (DAttr.mk (⟨#[]⟩) ([]) ([])) ([]) ([]) ([]), (nmeS s (i + 2)) + 6) (DInline.mk 0 (⟨#[]⟩) (⟨#[]⟩) (⟨#[]⟩) (DAttr.mk (⟨#[]⟩) ([]) ([])) ([]) ([]) ([]), 0)))))
theorem nmdP_to (s : ByteArray) (i : Int) (hs : s.size <= 1073741824) (h0 : 0 <= i) (h1 : i < s.size) : CallTo Tryz.prog 114 [(jS s), (jI i)] [] [] (.av (.tup [(Va8 ((nmdP s i).1)), (vI ((nmdP s i).2))])) [] [] := by
 refine BEG (fun r : (DInline × Int) => (.av (.tup [(Va8 r.1), (vI r.2)]))) (nmdP s i) Tryz.func114 (by kernel_rfl) ?_; refine UF (nmdP.eq_1 ..) ?_; refine GO (tn 3 (kn (wrE (i + 1) (i + 1) (by omega)) (tn 4 (kj (decide ((i + 1 : Int) >= ((Zb s : Nat) : Int))) z (tn 2 (hn (fun h => by have j0 := h.2; have j0p := of_decide_eq_false j0; exact (wrE (i + 1) (i + 1) (by omega))) (hp (fun h => by have j0 := h.2; have j0p := of_decide_eq_false j0; exact (ib s (i + 1) (by omega))) (tn 2 (kj (((byt s (Za (i + 1)) : Nat) : Int) != 94) (tn 2 (hn (fun h => by have j0 := h.1.2; have j0p := of_decide_eq_false j0; have j1 := h.2; have j1p := bne_iff_ne.1 j1; exact (wrE (i + 1) (i + 1) (by omega))) (hp (fun h => by have j0 := h.1.2; have j0p := of_decide_eq_false j0; have j1 := h.2; have j1p := bne_iff_ne.1 j1; exact (ib s (i + 1) (by omega))) (tn 1 z)))) z z))))) z)))) (by kernel_rfl) ?_; refine CS (fun h1 => ?_) (fun h1 => ?_)
 ·refine GO (kb h1 (tn 3 z)) (by kernel_rfl) ?_; exact EN (by kernel_rfl)
 ·obtain ⟨h1a, h1o⟩ := Va4 h1
  have h1ap := of_decide_eq_false h1a
  have := nmeS_bd s (i + 2) (by omega)
  have := Vbe s (Za (i + 2)) (Za (nmeS s (i + 2))); refine GO (kb h1 (tn 2 (kn (wrE (i + 2) (i + 2) (by omega)) (kc (nmeS_to s (i + 2) (by omega) (by omega) (by omega)) (tn 3 (kn (wrE (i + 2) (i + 2) (by omega)) (tn 1 (kp (show 0 <= (i + 2 : Int) /\ (i + 2 : Int) <= nmeS s (i + 2) /\ nmeS s (i + 2) <= ((Zb s : Nat) : Int) from (by omega)) (tn 2 (kc (namA_to (Zc s (Za (i + 2)) (Za (nmeS s (i + 2)))) (by omega)) (tn 1 z))))))))))) (by kernel_rfl) ?_; refine CS (fun h2 => ?_) (fun h2 => ?_)
  ·have h2n := nott h2; refine GO (kb h2 (tn 3 z)) (by kernel_rfl) ?_; exact EN (by kernel_rfl)
  ·have h2n := notf h2
   have := Vbe s (Za (nmeS s (i + 2))) (Zb s); refine GO (kb h2 (tn 2 (kp (show 0 <= (nmeS s (i + 2) : Int) /\ (nmeS s (i + 2) : Int) <= ((Zb s : Nat) : Int) /\ ((Zb s : Nat) : Int) <= ((Zb s : Nat) : Int) from (by omega)) (tn 3 (kn (wrE (i + 1) (i + 1) (by omega)) (kp (ib s (i + 1) (by omega)) (tn 2 (kj (((byt s (Za (i + 1)) : Nat) : Int) == 94) (tn 1 (kc (hpxB_to (Zc s (Za (nmeS s (i + 2))) (Zb s)) (⟨#[93]⟩)) z)) z (tn 1 z))))))))) (by kernel_rfl) ?_; refine CS (fun h3 => ?_) (fun h3 => ?_)
   ·obtain ⟨h3a, h3o⟩ := Vb8 h3
    have h3ap := eq_of_beq h3a; refine GO (kb h3 (tn 3 (kn (wrE ((nmeS s (i + 2)) + 1) ((nmeS s (i + 2)) + 1) (by omega)) (tn 2 z)))) (by kernel_rfl) ?_; exact EN (by kernel_rfl)
   ·refine GO (kb h3 (tn 2 (kn (wrE (i + 1) (i + 1) (by omega)) (kp (ib s (i + 1) (by omega)) (tn 2 (kj (((byt s (Za (i + 1)) : Nat) : Int) == 35) (tn 1 (kc (hpxB_to (Zc s (Za (nmeS s (i + 2))) (Zb s)) (⟨#[93]⟩)) z)) z (tn 1 z))))))) (by kernel_rfl) ?_; refine CS (fun h4 => ?_) (fun h4 => ?_)
    ·obtain ⟨h4a, h4o⟩ := Vb8 h4
     have h4ap := eq_of_beq h4a; refine GO (kb h4 (tn 3 (kn (wrE ((nmeS s (i + 2)) + 1) ((nmeS s (i + 2)) + 1) (by omega)) (tn 2 z)))) (by kernel_rfl) ?_; exact EN (by kernel_rfl)
    ·refine GO (kb h4 (tn 2 (kn (wrE (i + 1) (i + 1) (by omega)) (kp (ib s (i + 1) (by omega)) (tn 2 (kj (((byt s (Za (i + 1)) : Nat) : Int) == 35) (tn 1 (kc (hpxB_to (Zc s (Za (nmeS s (i + 2))) (Zb s)) (⟨#[32, 112, 97, 103, 101, 93]⟩)) z)) z (tn 1 z))))))) (by kernel_rfl) ?_; refine CS (fun h5 => ?_) (fun h5 => ?_)
     ·obtain ⟨h5a, h5o⟩ := Vb8 h5
      have h5ap := eq_of_beq h5a; refine GO (kb h5 (tn 3 (kn (wrE ((nmeS s (i + 2)) + 6) ((nmeS s (i + 2)) + 6) (by omega)) (tn 2 z)))) (by kernel_rfl) ?_; exact EN (by kernel_rfl)
     ·refine GO (kb h5 (tn 3 z)) (by kernel_rfl) ?_; exact EN (by kernel_rfl)
def nxt7 (s : ByteArray) (i : Int) : (Int × Int) := cond (cond (decide ((i : Int) < 0)) true (decide ((i : Int) >= ((Zb s : Nat) : Int)))) (default) (cond (cond ((wdtI ((byt s (Za i) : Nat) : Int) : Int) == 0) true (decide ((((Zb s : Nat) : Int) - i : Int) < wdtI ((byt s (Za i) : Nat) : Int)))) (default) (cond ((wdtI ((byt s (Za i) : Nat) : Int) : Int) == 1) (IntKind.i64.wrap ((byt s (Za i) : Nat) : Int), 1) (default)))
theorem nxt7_to (s : ByteArray) (i : Int) (hs : s.size <= 1073741824) (h0 : 0 <= i) (h1 : i < s.size) (h7 : ((byt s (Za i) : Nat) : Int) < 128) : CallTo Tryz.prog 28 [(jS s), (jI i)] [] [] (.av (.tup [(vI ((nxt7 s i).1)), (vI ((nxt7 s i).2))])) [] [] := by
 have hw1 : wdtI ((byt s (Za i) : Nat) : Int) = 1 := by unfold wdtI; rw [decide_eq_true h7]; rfl
 refine BEG (fun r : (Int × Int) => (.av (.tup [(vI r.1), (vI r.2)]))) (nxt7 s i) Tryz.func28 (by kernel_rfl) ?_; refine UF (nxt7.eq_1 ..) ?_; refine GO (tn 5 (kj (decide ((i : Int) < 0)) z (tn 4 z) z)) (by kernel_rfl) ?_; refine CS (fun h1 => ?_) (fun h1 => ?_)
 ·exfalso; rcases cond_or2 h1 with q | q <;> (have := of_decide_eq_true q; omega)
 ·obtain ⟨h1a, h1o⟩ := Va4 h1
  have h1ap := of_decide_eq_false h1a
  have h1op := of_decide_eq_false h1o; refine GO (kb h1 (tn 2 (kp (ib s i (by omega)) (kc (wdtI_to ((byt s (Za i) : Nat) : Int)) (tn 4 (kj ((wdtI ((byt s (Za i) : Nat) : Int) : Int) == 0) z (tn 3 (hn (fun h => by have j0 := h.2; have j0p := ne_of_beq_false j0; exact (wrE (((Zb s : Nat) : Int) - i) (((Zb s : Nat) : Int) - i) (by omega))) (tn 2 z))) z)))))) (by kernel_rfl) ?_; refine CS (fun h2 => ?_) (fun h2 => ?_)
  ·exfalso; rw [hw1] at h2; rcases cond_or2 h2 with q | q
   ·exact absurd q (by decide)
   ·have := of_decide_eq_true q; omega
  ·obtain ⟨h2a, h2o⟩ := Va4 h2
   have h2ap := ne_of_beq_false h2a
   have h2op := of_decide_eq_false h2o; refine GO (kb h2 (tn 2 z)) (by kernel_rfl) ?_; refine CSe (fun h3p h3 => ?_) (fun h3p h3 => ?_)
   ·have := wrap_byt s (Za i)
    have := byt_lt s (Za i); refine GO (kb h3 (tn 2 (kp (ib s i (by omega)) (tn 3 z)))) (by kernel_rfl) ?_; exact EN (by kernel_rfl)
   ·exfalso; rw [hw1] at h3; exact absurd h3 (by decide)
theorem A7.byt {s : ByteArray} (h : A7 s) (j : Nat) : ((byt s j : Nat) : Int) < 128 := by
 show (((s.data.getD j 0).toNat : Nat) : Int) < 128; rw [Zd]; cases e : s.data[j]? with
 | none => simp
 | some b =>
  have := h j b (by rw [<- e]; simp); simp only [Option.getD_some]; omega
theorem nxt7_val (s : ByteArray) (i : Int) (h0 : 0 <= i) (h1 : i < s.size) (h7 : ((byt s (Za i) : Nat) : Int) < 128) : nxt7 s i = (((byt s (Za i) : Nat) : Int), 1) := by
 have hw1 : wdtI ((byt s (Za i) : Nat) : Int) = 1 := by unfold wdtI; rw [decide_eq_true h7]; rfl
 have d0 : decide ((i : Int) < 0) = false := decide_eq_false (by omega)
 have d1 : decide ((i : Int) >= ((Zb s : Nat) : Int)) = false := decide_eq_false (by omega)
 have d2 : decide ((((Zb s : Nat) : Int) - i : Int) < 1) = false := decide_eq_false (by omega)
 have hw : IntKind.i64.wrap ((byt s (Za i) : Nat) : Int) = ((byt s (Za i) : Nat) : Int) := wrE _ _ (by omega); unfold nxt7; simp only [hw1, d0, d1, d2, hw, cond_true, cond_false]; rfl
theorem nxv_to (s : ByteArray) (i : Int) (hs : s.size <= 1073741824) (h0 : 0 <= i) (h1 : i < s.size) (ha : A7 s) : CallTo Tryz.prog 28 [(jS s), (jI i)] [] [] (.av (.tup [(vI ((byt s (Za i) : Nat) : Int)), (vI 1)])) [] [] := by
 have h := nxt7_to s i hs h0 h1 (ha.byt _); rw [nxt7_val s i h0 h1 (ha.byt _)] at h; exact h
end Go.Proofs.YtnpedjbgchdkbaaGreatDoor
namespace Go.Eng
section
variable {P : Program} {α : Type}
def UI (P : Program) (c : Code) (ks : List Fm) (K : α -> Exit -> St -> Prop) (M : α) : Nat -> St -> Prop
 | 0, _ => False
 | n + 1, S => W P c (Vor (UI P c ks K M n) (Kont P (K M) ks)) S
def KU (P : Program) (c : Code) (ks : List Fm) (K : α -> Exit -> St -> Prop) (n : Nat) (M : α) : Exit -> St -> Prop :=
 Vor (UI P c ks K M n) (Kont P (K M) ks)
theorem UN {K : α -> Exit -> St -> Prop} {M : α} {X : Cf} (S0 : St) (n : Nat) (hX : isLp X = true) (hw : Weak (stOf X) S0) (h : Nx P (KU P (lpC X) (lpK X) K n) M (Vhd (lpC X) S0)) : Nx P K M X := by
 unfold isLp at hX
 split at hX
 ·rename_i c0 o0 c ks S; refine ⟨W_loop (I := fun n S => UI P c ks K M n S) (n := n + 1) hw h.x (fun n S' hI => ?_)⟩; cases n with
  | zero => exact hI.elim
  | succ n =>
   refine Vqz hI (fun e S2 hq => ?_); cases e with
   | normal => exact ⟨n, S2, Zo n, fun _ _ _ h => h, hq⟩
   | exit id => exact hq
   | goto l => exact hq
   | ret => exact hq
   | panic ch => exact hq
   | outgrown => exact hq
 ·simp at hX
theorem UA {c : Code} {ks : List Fm} {K : α -> Exit -> St -> Prop} {M : α} {X : Cf} {n : Nat} (S0 : St) (hX : finOf X = some .normal) (hw : Weak (stOf X) S0) (h : Nx P (KU P c ks K n) M (Vhd c S0)) : Nx P (KU P c ks K (n + 1)) M X := by
 unfold finOf at hX
 split at hX
 ·simp only [Zf] at hX; subst hX; refine ⟨?_⟩
  have h1 : W P c (KU P c ks K n M) S0 := h.x; exact Vb6 hw h1
 ·simp at hX
theorem UO {c : Code} {ks : List Fm} {K : α -> Exit -> St -> Prop} {M : α} {X : Cf} {n : Nat} (oc : OC) (h : csOf (outX P ks X oc.o) = some oc.c) (hn : Nx P K M (outX P ks X oc.o)) : Nx P (KU P c ks K n) M X := by
 obtain ⟨hn⟩ := hn; unfold outX at h hn
 split at h
 ·simp [csOf] at h
 ·rename_i c0 o0 e S hne; simp only at hn; cases hk : goK P ks (some ([], oc.o, .fin e S)) with
  | none => rw [hk] at h; simp [csOf] at h
  | some r =>
   obtain ⟨c2, o2, out2⟩ := r; rw [hk] at h hn; unfold csOf at h
   split at h
   ·rename_i e2; simp only [Zf, Zj] at e2 h; obtain ⟨rfl, rfl, rfl⟩ := e2; subst h; obtain ⟨q1, q2⟩ := Vai (K M) ks _ _ _ _ _ _ hk (oc.h trivial) hn; exact ⟨skipS q2 (by rintro rfl; first | exact hne rfl | exact hne _ rfl | exact hne _ _ rfl)⟩
   ·simp at h
 ·simp [csOf] at h
end
end Go.Eng
namespace Go.Eng
variable {P : Program}
theorem BEGb {α : Type} (enc : α -> SV) (M : α) {f : FuncId} {fn : Func} {args : List SV} {bx bx' : List (Nat × ABox)} {gn gn' : List (Key × Nat)} (hf : P.funcs[f]? = some fn) (hok : (fn.body.isSome && !(fn.name == "runtime.NumGoroutine") && decide (args.length <= fn.ntmps)) = true)
  (hids : ∀ p ∈ bx, 1000 <= p.1) (hgk : ∀ p ∈ gn, 1000 <= p.1.1 /\ 0 < p.1.2) (hargs : ∀ s ∈ args, OkSV (bx.map (·.1)) gn s) (hbx : ∀ p ∈ bx, ∀ s ∈ p.2.svs, OkSV (bx.map (·.1)) gn s)
  (hres : OkSV (bx.map (·.1)) gn' (enc M)) (hbx' : ∀ p ∈ bx', ∀ s ∈ p.2.svs, OkSV (bx.map (·.1)) gn' s) (hsame : bx'.map (·.1) = bx.map (·.1)) (hgn' : gn'.map (·.1) = gn.map (·.1))
  (h : Nx P (KE P fn enc bx' gn') M (Vhd (Vbk fn) ⟨args ++ List.replicate (fn.ntmps - args.length) .junk, bx, gn⟩)) (hv : ∀ p ∈ bx', p.1 < 2000 \/ p.1 ∈ Vb5 bx' := by simp) : CallTo P f args bx gn (enc M) bx' gn' := by
 simp only [Zg, decide_eq_true_eq, Zm] at hok; obtain ⟨⟨h1, h2⟩, h3⟩ := hok; obtain ⟨c, hb⟩ := Z7.1 h1
 have e : Vbk fn = c := by simp [Vbk, hb]
 refine Vc9 hf hb h2 rfl h3 hids hgk hargs hbx hres hbx' hsame hgn' ?_ hv; rw [<- e]; exact h.x
theorem ENb {α : Type} {fn : Func} {enc : α -> SV} {M : α} {X : Cf} {bx' : List (Nat × ABox)} {gn' : List (Key × Nat)} (h : Vlr P fn X = some (enc M)) (h3 : ∀ p ∈ bx', (stOf X).bx.lookup p.1 = some p.2) (h4 : ∀ p ∈ gn', (stOf X).gen p.1 = p.2) : Nx P (KE P fn enc bx' gn') M X := by
 unfold Vlr at h
 split at h
 ·exact ⟨ends (.inl rfl) h rfl h3 h4⟩
 ·exact ⟨ends (.inr rfl) h rfl h3 h4⟩
 ·simp at h
def atC (X : Cf) : Code := match X with
 | some (_, _, .at c _ _) => c
 | _ => .skip
def isAt (X : Cf) : Bool := match X with
 | some (_, _, .at _ _ _) => true
 | _ => false
def contX (P : Program) (X : Cf) (S2 : St) (ors : List Oq) : Cf := match X with
 | some (_, _, .at _ ks _) => goK P ks (some ([], ors, .fin .normal S2))
 | _ => none
theorem W_weakQ {c : Code} {S S2 : St} (h : W P c (fun e S1 => e = .normal /\ Weak S1 S2) S) : W P c (fun e S1 => e = .normal /\ S1 = S2) S :=
 fun G w a hr => wp_mono (h G w a hr) (fun e a' w' ⟨S1, G', ⟨he, hw⟩, h2, h3, h4⟩ => ⟨S2, G', ⟨he, rfl⟩, h2, hw G' w' a' h3, h4⟩)
theorem Vbh {c c' : Code} {Q : Exit -> St -> Prop} {S : St} (h : c = c') (hw : W P c' Q S) : W P c Q S := by rw [h]; exact hw
theorem NXW {α : Type} {K : α -> Exit -> St -> Prop} {M : α} {X : Cf} (S2 : St) (oc : OC) (hX : isAt X = true) (hW : W P (atC X) (fun e S1 => e = .normal /\ Weak S1 S2) (stOf X)) (h : csOf (contX P X S2 oc.o) = some oc.c) (hn : Nx P K M (contX P X S2 oc.o)) : Nx P K M X := by
 unfold isAt at hX
 split at hX
 ·rename_i c0 o0 c ks S; obtain ⟨hn⟩ := hn; simp only [contX] at h hn; cases hk : goK P ks (some ([], oc.o, .fin .normal S2)) with
  | none => rw [hk] at h; simp [csOf] at h
  | some r =>
   obtain ⟨c2, o2, out2⟩ := r; rw [hk] at h hn; unfold csOf at h
   split at h
   ·rename_i e; simp only [Zf, Zj] at e h; obtain ⟨rfl, rfl, rfl⟩ := e; subst h; obtain ⟨q1, q2⟩ := Vai (K M) ks _ _ _ _ _ _ hk (oc.h trivial) hn; refine ⟨?_⟩; exact Vqz (W_weakQ hW) (fun e S1 ⟨he, hs⟩ => by subst he hs; exact q2)
   ·simp at h
 ·simp at hX
theorem st_load {o : Oper} {S : St} {t ty : TypeId} {x : Operand} {b k : Nat} {l : List SV} {s : SV} (ho : o.op = .load t x) (hx : S.ev x = .ptr b k) (ht : tAgg P t = some false) (hb : S.bx.lookup b = some (.cells ty l)) (hs : l[k]? = some s) : Vaw P o S = some ⟨True, s, S⟩ := by
 unfold Vaw; rw [ho]; simp only [Vi4, ht, hx, hb, hs, Option.map_some]
theorem st_load_agg {o : Oper} {S : St} {t ty : TypeId} {sz bt : Nat} {z : Option Value} {x : Operand} {b k : Nat} {l : List SV} {r : List AV} (ho : o.op = .load t x) (hx : S.ev x = .ptr b k) (ht : tAgg P t = some true) (hi : tInfo P t = some (sz, bt, z)) (hb : S.bx.lookup b = some (.cells ty l))
  (h1 : ((l.drop k).take sz).any SV.isTok = false) (h2 : SV.allAV ((l.drop k).take sz) = some r) (h3 : r.length = sz) : Vaw P o S = some ⟨True, .av (.agg r), S⟩ := by
 unfold Vaw; rw [ho]; simp only [Vi4, ht, hi, hx, hb, h1, h2, h3, if_true]
theorem st_len {o : Oper} {S : St} {t : TypeId} {x : Operand} {k : Key} {g sz : Nat} {l : List AV} (ho : o.op = .call { callee := .builtin .len, args := #[x], argTypes := #[t] }) (hx : S.ev x = .own k g sz l) (ht : Vg2 P t = true) : Vaw P o S = some ⟨True, .av (.val (.int .i64 l.length)), S⟩ := by
 unfold Vaw; rw [ho]; simp only [Vde, aLen, hx, SV.toAV, ht, if_true]
theorem st_build {o : Oper} {S : St} {t e : TypeId} {sz bt : Nat} {z c : Value} {x : AV} (ho : o.op = .buildSlice t 1 #[(0, .const c)]) (ht : tElem P t = some e) (hi : tInfo P e = some (sz, bt, some z)) (hc : (Vfk c).toAV = some x) (hsz : sz <= 16777216) (h2 : sz ≠ 2) : Vaw P o S = some ⟨Uni sz [x], .av (.sl [x]), S⟩ := by
 unfold Vaw; rw [ho]
 have h1 : (S.ev (.const c)).toAV = some x := hc; simp only [Vc5, ht, hi, List.map_cons, List.map_nil, Vch, h1]; rw [if_pos ⟨rfl, by omega⟩]
end Go.Eng
namespace Go.Eng
def reSt (X : Cf) (S' : St) : Cf := match X with
 | some (c, o, .at d ks _) => some (c, o, .at d ks S')
 | _ => none
theorem GHOST {P : Program} {α : Type} {K : α -> Exit -> St -> Prop} {M : α} {X : Cf} {S' : St} (hg : Vr6 (stOf X) S') (hn : Nx P K M (reSt X S')) : Nx P K M X := by
 obtain ⟨hn⟩ := hn; unfold reSt at hn
 split at hn
 ·rename_i c o d ks S; exact ⟨W_ghost hg hn⟩
 ·exact hn.elim
theorem ghost_tell {S : St} {t b e sz : Nat} (hs : Vbx S (some t) = .nil) (hb : b < 1000) (hn : S.names b = false) : Vr6 S ((S.put (some t) (.vs b 0)).addBox b (.vec e sz [])) := by
 intro G w a hr
 let G' : Gh := { G with ow := fun κ => if κ = (b, 0) then none else G.ow κ }
 have how : ∀ κ c, G'.ow κ = some c -> G.ow κ = some c := by
  intro κ c h; simp only [G'] at h
  split at h
  ·cases h
  ·exact h
 have hkp : ∀ κ, κ ≠ (b, 0) -> Keep G w G' w κ := fun κ hκ => ⟨by simp only [G']; rw [if_neg hκ], fun _ _ => ⟨rfl, rfl⟩⟩
 have hstep : Step G w G' w := ⟨⟨fun _ => Zk _, Imm.refl _ _, Zk _, rfl, rfl, rfl, fun _ _ => rfl, fun _ => Zk _, fun κ h0 _ => hkp κ (by intro e; rw [e] at h0; simp at h0)⟩, fun _ _ _ => ⟨rfl, rfl⟩, fun κ c h => .inl ⟨κ, how κ c h⟩⟩
 have hwf : Wf G' w := ⟨fun κ κ' c h h' => hr.wf.inj κ κ' c (how κ c h) (how κ' c h'), fun κ c h => hr.wf.lt κ c (how κ c h), hr.wf.zero⟩
 have hr1 : Rel G' w S a := hr.but hn hstep.toExt hwf hkp rfl
 have hbx : RepB G' w b (.vec e sz []) := Or.inl ⟨rfl, by simp [G']⟩
 have hput : Rel G' w (S.put (some t) (.vs b 0)) a := by
  refine ⟨hr1.wf, by simp only [St.put, List.length_set]; exact hr1.size, fun u s hu => ?_, hr1.bx, hr1.gn, hr1.defers⟩; simp only [St.put] at hu; rw [Zq] at hu
  split at hu
  ·rename_i hd; subst hd
   split at hu
   ·rename_i hlt; simp only [Zf] at hu; subst hu
    have h0 : S.fr[t]? = some .nil := by
     simp only [Vbx, Zu] at hs; rw [Zs hlt] at hs ⊢; simpa using hs
    have := hr1.fr t _ h0; exact Or.inl ⟨rfl, this, by simp [G']⟩
   ·cases hu
  ·exact hr1.fr u s hu
 exact ⟨G', hstep, hput.add hbx, fun i hi => by simp only [G']; rw [if_neg (by intro h; simp at h; omega)]⟩
def vecOf (S : St) (t b : Nat) : Option (Nat × List AV) := match Vbx S (some t), S.bx.lookup b with
 | .vs b' n, some (.vec _ _ l) => match decide (b' = b) with
  | true => some (n, l)
  | false => none
 | _, _ => none
theorem Viv {S : St} {t b n : Nat} {l : List AV} (hv : vecOf S t b = some (n, l)) (hn : n <= l.length) : Vr6 S ((S.forget b).put (some t) (.av (.sl (l.take n)))) := by
 intro G w a hr; unfold vecOf at hv
 split at hv
 ·rename_i b' n' e sz l' hs hb
  split at hv
  ·rename_i hd
   have := of_decide_eq_true hd; subst this; simp only [Zf, Zj] at hv; obtain ⟨rfl, rfl⟩ := hv
   have hbox := hr.bx _ (Va9 hb)
   have put : ∀ {G' : Gh}, Rel G' w (S.forget b') a -> (∀ u, RepS G w (.vs b' n') u -> Rep G'.U w (.sl (l'.take n')) u) -> Rel G' w ((S.forget b').put (some t) (.av (.sl (l'.take n')))) a := by
    intro G' h1 h2; refine ⟨h1.wf, by simp only [St.put, List.length_set]; exact h1.size, fun u s hu => ?_, h1.bx, h1.gn, h1.defers⟩; simp only [St.put] at hu; rw [Zq] at hu
    split at hu
    ·rename_i hd; subst hd
     split at hu
     ·rename_i hlt; simp only [Zf] at hu; subst hu
      have hlt' : t < S.fr.length := by simpa [St.forget] using hlt
      have h0 : S.fr[t]? = some (.vs b' n') := by
       simp only [Vbx, Zu] at hs; rw [Zs hlt'] at hs ⊢; simpa using hs
      exact h2 _ (hr.fr t _ h0)
     ·cases hu
    ·exact h1.fr u s hu
   rcases hbox with ⟨hl, how⟩ | ⟨blk, arr, es, g0, g1, g2, g3, g4, g5, g6, ⟨rest, g7⟩, g8⟩
   ·refine ⟨G, Step.refl G w, put (hr.forget b') (fun u hu => ?_), fun _ _ => rfl⟩; simp only at hl how; subst hl; rcases hu with ⟨rfl, rfl, _⟩ | ⟨blk, _, h, _⟩
    ·simpa using Rep_nil _ _
    ·rw [how] at h; cases h
   ·simp only at g1
    have hU : ∀ c, G.U c <= (G.setU blk (Va0 (es.take n')).length).U c := by
     intro c; simp only [Gh.setU]; split
     ·rename_i h; rw [h, g3]; omega
     ·omega
    have hkp : ∀ κ, κ ≠ (b', 0) -> Keep G w (G.setU blk (Va0 (es.take n')).length) w κ := fun κ hκ => ⟨rfl, fun c hc => ⟨rfl, by
     simp only [Gh.setU]; rw [if_neg (fun he => hκ (hr.wf.inj κ (b', 0) c hc (by rw [he]; exact g1)))]⟩⟩
    have hstep : Step G w (G.setU blk (Va0 (es.take n')).length) w := ⟨⟨hU, Imm.refl _ _, Zk _, rfl, rfl, rfl, fun _ _ => rfl, fun _ => Zk _, fun κ h0 _ => hkp κ (by intro e; rw [e] at h0; simp at h0)⟩,
     fun c _ hn => ⟨rfl, by simp only [Gh.setU]; rw [if_neg (fun he => hn (b', 0) (by rw [he]; exact g1))]⟩, fun κ c h => .inl ⟨κ, h⟩⟩
    have hwf : Wf (G.setU blk (Va0 (es.take n')).length) w := ⟨hr.wf.inj, hr.wf.lt, fun c hc => by simp only [Gh.setU]; rw [if_neg (by omega)]; exact hr.wf.zero c hc⟩
    refine ⟨_, hstep, put ((hr.forget b').but (Vkf S b') hstep.toExt hwf hkp rfl) (fun u hu => ?_), fun _ _ => rfl⟩; rcases hu with ⟨rfl, rfl, h⟩ | ⟨blk', h0, h, rfl, h3⟩
    ·rw [g1] at h; cases h
    ·rw [g1] at h; simp only [Zf] at h; subst h; simp only [Rep]
     have hlen : (l'.take n').length = n' := by simp; omega
     have htake := Ve4 es n' g6; refine ⟨some ⟨blk, 0, none⟩, G.cp blk, es.take n', sz, by rw [hlen], (RepL.mono hU (Imm.refl _ _) _ _ g5).take n', fun x hx => g6 x (List.mem_of_mem_take hx), by simp, by rw [hlen]; exact h3, fun _ ad had => by simp at had; subst had; rfl, .inr ⟨blk, 0, rfl, by simp [Gh.setU], fun j x hj => ?_⟩⟩
     have hj' := hj; rw [htake, List.getElem?_take] at hj'
     split at hj'
     ·have hlt2 : j < (Va0 es).length := by
       rcases Nat.lt_or_ge j (Va0 es).length with q | q
       ·exact q
       ·rw [List.getElem?_eq_none q] at hj'; cases hj'
      have harr : arr.toList[j]? = some x := by rw [g7, List.getElem?_append_left hlt2]; exact hj'
      exact ⟨by simpa [World.cell?, g2] using harr, g8 x (Zx hj')⟩
     ·cases hj'
  ·cases hv
 ·cases hv
theorem tell_weak {S : St} {b e sz : Nat} {l l' : List AV} (hb : S.bx.lookup b = some (.vec e sz l)) (h : l = l') : Weak S (S.setBox b (.vec e sz l')) := by
 subst h; intro G w a hr; refine ⟨hr.wf, hr.size, hr.fr, fun p hp => ?_, hr.gn, hr.defers⟩; simp only [St.setBox, Ya] at hp; obtain ⟨q, hq, rfl⟩ := hp
 split
 ·rename_i hqb; rw [hqb]; exact hr.bx _ (Va9 hb)
 ·exact hr.bx q hq
theorem TELL {P : Program} {α : Type} {K : α -> Exit -> St -> Prop} {M : α} {X : Cf} (t b e sz : Nat) (h : (Vbx (stOf X) (some t), decide (b < 1000), (stOf X).names b) = (.nil, true, false)) (hn : Nx P K M (reSt X (((stOf X).put (some t) (.vs b 0)).addBox b (.vec e sz [])))) : Nx P K M X := by
 simp only [Zj] at h; exact GHOST (ghost_tell h.1 (of_decide_eq_true h.2.1) h.2.2) hn
theorem FRZ {P : Program} {α : Type} {K : α -> Exit -> St -> Prop} {M : α} {X : Cf} (t b : Nat) {n : Nat} {l l' : List AV} (h : vecOf (stOf X) t b = some (n, l)) (hn : n <= l.length) (hl : l.take n = l') (hx : Nx P K M (reSt X (((stOf X).forget b).put (some t) (.av (.sl l'))))) : Nx P K M X := by
 subst hl; exact GHOST (Viv h hn) hx
def vbox (S : St) (b : Nat) : Option (Nat × Nat × List AV) := match S.bx.lookup b with
 | some (.vec e sz l) => some (e, sz, l)
 | _ => none
theorem BOX {P : Program} {α : Type} {K : α -> Exit -> St -> Prop} {M : α} {X : Cf} (b : Nat) {e sz : Nat} {l l' : List AV} (h : vbox (stOf X) b = some (e, sz, l)) (hl : l = l') (hn : Nx P K M (reSt X ((stOf X).setBox b (.vec e sz l')))) : Nx P K M X := by
 have hb : (stOf X).bx.lookup b = some (.vec e sz l) := by
  unfold vbox at h; split at h
  ·rename_i h2; simp only [Zf, Zj] at h; obtain ⟨rfl, rfl, rfl⟩ := h; exact h2
  ·cases h
 obtain ⟨hn⟩ := hn; unfold reSt at hn
 split at hn
 ·rename_i c o d ks S; exact ⟨Vb6 (tell_weak hb hl) hn⟩
 ·exact hn.elim
end Go.Eng
namespace Go.Eng
variable {P : Program}
theorem Vjl {G : Gh} {w : World} (hw : Wf G w) (o : Obj) (id c : Nat) :
  Step G w (G.bindc id w.heap.size c) (w.alloc o) /\ Wf (G.bindc id w.heap.size c) (w.alloc o) /\ ∀ κ, κ ≠ (id, 0) -> Keep G w (G.bindc id w.heap.size c) (w.alloc o) κ := by
 obtain ⟨s1, s2, s3⟩ := Vdn hw o id; exact ⟨⟨⟨s1.U, s1.imm, s1.size, s1.os, s1.tape, s1.output, fun b hb => if_neg (by omega), s1.gen, s1.tok⟩, s1.stay, s1.rng⟩, ⟨s2.inj, s2.lt, s2.zero⟩, s3⟩
theorem Vgo {o : Oper} {S : St} {t e : TypeId} {sz bt : Nat} {z : Value} {x y : Operand} {k k' : IntKind} {m n id : Nat} {X : ABox} (ho : o.op = .makeSlice t x y) (hx : S.ev x = .av (.val (.int k (m : Int)))) (hy : S.ev y = .av (.val (.int k' (n : Int)))) (hmn : m <= n)
  (ht : tElem P t = some e) (hi : tInfo P e = some (sz, bt, some z)) (hb : bt * n <= 281474976710656) (h63 : n <= 9223372036854775807) (hid : id < 1000) (hn : S.names id = false)
  (hX : ∀ (G : Gh) (w : World) (blk : Nat), blk < w.heap.size -> G.ow (id, 0) = some blk -> w.heap[blk]? = some (.cells (madeCells z.cells (n * sz)) e (0, 0)) -> G.U blk = 0 -> G.cp blk = n -> RepB G w id X) : Sound P o S ⟨True, .vs id m, S.addBox id X⟩ := by
 intro _ G w a hr
 have h1 := hr.ev x; rw [hx] at h1; simp only [RepS, Rep] at h1
 have h2 := hr.ev y; rw [hy] at h2; simp only [RepS, Rep] at h2; obtain ⟨i, e1, e2, e3, e4⟩ : ∃ i, P.info? e = some i /\ i.size = sz /\ i.bytes = bt /\ i.zero = some z := by
  unfold tInfo at hi; cases hI : P.info? e with
  | none => rw [hI] at hi; simp at hi
  | some i => rw [hI] at hi; simp at hi; exact ⟨i, rfl, hi.1, hi.2.1, hi.2.2⟩
 subst e2 e3
 have hbi : (i.bytes : Int) * (n : Int) <= 281474976710656 := by
  have h : ((i.bytes * n : Nat) : Int) <= 281474976710656 := by omega
  rwa [Int.natCast_mul] at h
 have hrun := run_make (P := P) w t e i z (Vgy ht) e1 e4 k k' m n (by omega) (by omega) hbi (by omega); simp only [Int.toNat_natCast] at hrun; obtain ⟨s1, s2, s3⟩ := Vjl hr.wf (.cells (madeCells z.cells (n * i.size)) e) id n
 have hr1 := hr.but hn s1.toExt s2 s3 rfl; refine ⟨_, _, _, _, ?_, .inl rfl, s1, hr1.add (hX _ _ w.heap.size (by simp) (by simp [Gh.bindc]) (heap_alloc_new w _) ?_ (by simp [Gh.bindc])), .inr ⟨w.heap.size, by simp, by simp [Gh.bindc], rfl, by simp [Gh.bindc]; omega⟩, fun j hj => ?_⟩
 ·simp only [execOp, ho, h1.1, h2.1, hrun]; simp [hrun, Gh.bindc]
 ·exact hr.wf.zero _ (Zk _)
 ·simp only [Gh.bindc]; rw [if_neg (by intro h; simp only [Zj] at h; omega)]
theorem made_head (zc : Array Value) (n : Nat) (h1 : 1 <= n) : ∃ rest, (madeCells zc (n * zc.size)).toList = zc.toList ++ rest := by
 refine ⟨(madeCells zc (n * zc.size)).toList.drop zc.size, ?_⟩
 have h : (madeCells zc (n * zc.size)).toList.take zc.size = zc.toList := by
  have hle : zc.size <= n * zc.size := by
   have := Nat.mul_le_mul_right zc.size h1; omega
  apply List.ext_getElem
  ·simp [madeCells]; omega
  ·intro i h1 h2
   have : i < zc.size := by simpa using h2
   simp [madeCells, Nat.mod_eq_of_lt this, this]
 rw [<- h, List.take_append_drop]
theorem Vap {ops : Array Oper} {o : Oper} {rest : List Oper} {Q : St -> Prop} {S : St} (v : SV) (d : Nat) (hg : (o.guard, o.dst) = (none, some d)) (h : Vaw P o S = some ⟨True, v, S⟩) (hn : WO P ops rest Q (S.put (some d) v)) : WO P ops (o :: rest) Q S := by
 simp only [Zj] at hg; refine Vc8 hg.1 (Vb9 h) trivial ?_; rw [hg.2]; exact hn
theorem Vim {ops : Array Oper} {o : Oper} {rest : List Oper} {Q : St -> Prop} {S S' : St} (v : SV) (d : Nat) (hg : (o.guard, o.dst) = (none, some d)) (h : Sound P o S ⟨True, v, S'⟩) (hn : WO P ops rest Q (S'.put (some d) v)) : WO P ops (o :: rest) Q S := by
 simp only [Zj] at hg; refine Vc8 hg.1 h trivial ?_; rw [hg.2]; exact hn
end Go.Eng
namespace Go.Eng
def Vgj (P : Program) (f : FuncId) (args : List SV) (nb : List (Nat × ABox)) (res : SV) : Prop :=
 Enterable P f /\ ∀ (G : Gh) (w : World) (vs : List Value), Wf G w -> RepSs G w args vs ->
  Calls P f vs.toArray w (fun e w' => ∃ v G', e = .returned v /\ Step G w G' w' /\ Wf G' w' /\ RepS G' w' res v /\ (∀ p ∈ nb, RepB G' w' p.1 p.2) /\
   (∀ κ : Key, (κ.1 ∉ nb.map (·.1) \/ κ.2 ≠ 0) -> Keep G w G' w' κ) /\ ∀ κ : Key, G'.gen κ = G.gen κ)
section
variable {P : Program}
theorem Vli {f : FuncId} {fn : Func} {c : Code} (hf : P.funcs[f]? = some fn) (hb : fn.body = some c) (hname : (fn.name == "runtime.NumGoroutine") = false) {args : List SV} {nb : List (Nat × ABox)} {res : SV} {n : Nat} (hn : fn.ntmps = n)
  (hle : args.length <= n) (hargs : ∀ s ∈ args, OkSV [] [] s) (hres : OkSV (nb.map (·.1)) [] res) (hbx' : ∀ p ∈ nb, ∀ s ∈ p.2.svs, OkSV (nb.map (·.1)) [] s)
  (h : W P c (Ends P fn res nb []) ⟨args ++ List.replicate (n - args.length) .junk, [], []⟩) : Vgj P f args nb res := by
 refine ⟨⟨fn, hf, by rw [hb]; rfl, hname⟩, ?_⟩; intro G w vs hw hr
 have hlv := hr.length
 let ids := nb.map (·.1)
 let mine : Key -> Prop := fun κ => κ.1 ∈ ids /\ κ.2 = 0
 have hdec : ∀ κ, mine κ \/ ¬ mine κ := fun κ => Classical.em _
 let G0 : Gh := { U := G.U, cp := G.cp, ow := fun _ => none, gen := fun _ => 0, df := [] }
 have hw0 : Wf G0 w := ⟨fun κ κ' b h1 h2 => by simp [G0] at h1, fun κ b h1 => by simp [G0] at h1, hw.zero⟩
 have hrel : Rel G0 w ⟨args ++ List.replicate (n - args.length) .junk, [], []⟩ { tmps := vs.toArray ++ Zt (fn.ntmps - vs.toArray.size) undef, defers := [] } := by
  refine ⟨hw0, ?_, fun t s ht => ?_, fun p hp => by simp at hp, fun k => rfl, rfl⟩
  ·simp [hlv, hn]
  ·simp only at ht; rcases Nat.lt_or_ge t args.length with hlt | hge
   ·rw [List.getElem?_append_left hlt] at ht
    have hr0 := Vbc (G := G) (G' := G0) (ids := []) (gn := []) rfl rfl (fun i hi => by simp at hi) (fun k g hl => by simp at hl) hargs hr; obtain ⟨u, h1, h2⟩ := hr0.get t s ht
    have : (vs.toArray ++ Zt (fn.ntmps - vs.toArray.size) undef).getD t undef = u := by
     have hlt' : t < vs.length := by omega
     simp only [Zd]; rw [Array.getElem?_append_left (by simpa using hlt')]; simp [h1]
    rw [this]; exact h2
   ·rw [List.getElem?_append_right hge, List.getElem?_replicate] at ht
    split at ht
    ·simp at ht; subst ht; trivial
    ·simp at ht
 refine calls_of_wp hf hb (Code.wp_mono (fun e a w' hl => ?_) (h G0 w _ hrel)); obtain ⟨S', G1, h1, h2, h3, h4⟩ := hl
 have done : (∃ keep, aRes P fn S' keep = some res) /\ (∀ p ∈ nb, S'.bx.lookup p.1 = some p.2) /\ (∀ p ∈ ([] : List (Key × Nat)), S'.gen p.1 = p.2) -> a.defers = [] /\ ∃ v, (results fn a.tmps).run P w' = .ok v w' /\
   ∃ v_1 G', Ending.returned v = .returned v_1 /\ Step G w G' w' /\ Wf G' w' /\ RepS G' w' res v_1 /\ (∀ p ∈ nb, RepB G' w' p.1 p.2) /\ (∀ κ : Key, (κ.1 ∉ nb.map (·.1) \/ κ.2 ≠ 0) -> Keep G w G' w' κ) /\ ∀ κ : Key, G'.gen κ = G.gen κ := by
  rintro ⟨⟨keep, g1⟩, g2, _⟩; obtain ⟨v, e1, e2⟩ := Vmt g1 h3
  let G' : Gh := { U := G1.U, cp := G1.cp, ow := fun κ => @ite _ (mine κ) (Classical.propDecidable _) (G1.ow κ) (G.ow κ), gen := G.gen, df := G.df }
  have hG' : ∀ κ : Key, mine κ -> G'.ow κ = G1.ow κ := fun κ hκ => by simp only [G']; rw [if_pos hκ]
  have hG'n : ∀ κ : Key, ¬ mine κ -> G'.ow κ = G.ow κ := fun κ hκ => by simp only [G']; rw [if_neg hκ]
  have hnot : ∀ κ b, G.ow κ = some b -> w'.heap[b]? = w.heap[b]? /\ G1.U b = G.U b := fun κ b hb =>
   h2.stay b (hw.lt κ b hb) (fun κ2 h' => by simp [G0] at h')
  have hnew : ∀ κ b, G1.ow κ = some b -> w.heap.size <= b := by
   intro κ b hb; rcases h2.rng κ b hb with ⟨κ', h'⟩ | h'
   ·simp [G0] at h'
   ·exact h'
  have hkeep : ∀ κ : Key, ¬ mine κ -> Keep G w G' w' κ := fun κ hκ => ⟨hG'n κ hκ, fun b hb => hnot κ b hb⟩
  have hid1 : ∀ i : Nat, i ∈ ids -> G'.ow (i, 0) = G1.ow (i, 0) := fun i hi => hG' (i, 0) ⟨hi, rfl⟩
  have how : ∀ κ b, G'.ow κ = some b -> (mine κ /\ G1.ow κ = some b) \/ (¬ mine κ /\ G.ow κ = some b) := by
   intro κ b hκ; rcases hdec κ with hm | hm
   ·rw [hG' κ hm] at hκ; exact .inl ⟨hm, hκ⟩
   ·rw [hG'n κ hm] at hκ; exact .inr ⟨hm, hκ⟩
  have hext : Ext G w G' w' := by
   refine ⟨h2.U, h2.imm, h2.size, h2.os, Prod.ext h2.toExt.tp rfl, h2.output, h2.cp, fun _ => Zk _, fun κ h0 hge => ?_⟩; exact hkeep κ (fun hm => by have := hm.2; omega)
  refine ⟨h3.defers.trans h2.toExt.df, v, e1, v, G', rfl, ⟨hext, ?_, ?_⟩, ⟨?_, ?_, h3.wf.zero⟩, ?_, ?_, ?_, fun _ => rfl⟩
  ·intro b hb' hno; exact h2.stay b hb' (fun κ hκ => by simp [G0] at hκ)
  ·intro κ b hκ; rcases how κ b hκ with ⟨_, q⟩ | ⟨_, q⟩
   ·exact .inr (hnew κ b q)
   ·exact .inl ⟨κ, q⟩
  ·intro κ κ' b hκ hκ'; rcases how κ b hκ with ⟨m1, q1⟩ | ⟨m1, q1⟩ <;> rcases how κ' b hκ' with ⟨m2, q2⟩ | ⟨m2, q2⟩
   ·exact h3.wf.inj κ κ' b q1 q2
   ·have := hnew κ b q1; have := hw.lt κ' b q2; omega
   ·have := hnew κ' b q2; have := hw.lt κ b q1; omega
   ·exact hw.inj κ κ' b q1 q2
  ·intro κ b hκ; rcases how κ b hκ with ⟨_, q⟩ | ⟨_, q⟩
   ·exact h3.wf.lt κ b q
   ·have := hw.lt κ b q; have := h2.size; omega
  ·exact Ver (G := G1) (G' := G') (ids := ids) (gn := []) rfl rfl hres hid1 (fun k g hl => by simp at hl) e2
  ·intro p hp
   have := h3.bx _ (Va9 (g2 p hp)); exact Vcn (G := G1) (G' := G') (ids := ids) (gn := []) rfl rfl hid1 (fun k g hl => by simp at hl) (List.mem_map_of_mem hp) (hbx' p hp) this
  ·intro κ hκ; exact hkeep κ (fun hm => by rcases hκ with q | q; exact q hm.1; exact q hm.2)
 cases e with
 | normal => exact done h1
 | ret => exact done h1
 | exit id => exact h1.elim
 | goto l => exact h1.elim
 | panic ch => exact h1.elim
 | outgrown => exact h1.elim
theorem Rel_new {G G' : Gh} {w w' : World} {S : St} {a : Act} {nb : List (Nat × ABox)} (h : Rel G w S a) (hx : Ext G w G' w') (hw : Wf G' w') (hk : ∀ κ : Key, (κ.1 ∉ nb.map (·.1) \/ κ.2 ≠ 0) -> Keep G w G' w' κ) (hg : ∀ κ : Key, G'.gen κ = G.gen κ) (hb : ∀ p ∈ nb, RepB G' w' p.1 p.2)
  (hn : nb.all (fun p => !S.names p.1) = true) : Rel G' w' { S with bx := nb ++ S.bx } a := by
 have hn' : ∀ i ∈ nb.map (·.1), S.names i = false := by
  intro i hi; simp only [Ya] at hi; obtain ⟨p, hp, rfl⟩ := hi
  have := Ze.1 hn p hp; simpa using this
 have hkS : ∀ s : SV, (∀ i ∈ nb.map (·.1), s.names i = false) -> ∀ κ ∈ s.keys, Keep G w G' w' κ := by
  intro s hs κ hκ; refine hk κ (.inl fun hi => ?_); exact Vbm (hs κ.1 hi) κ hκ rfl
 refine ⟨hw, h.size, fun t s ht => ?_, fun p hp => ?_, fun k => by rw [hg]; exact h.gn k, h.defers.trans hx.df.symm⟩
 ·refine (h.fr t s ht).persist hx (fun κ hκ => (hkS s (fun i hi => ?_) κ hκ).1)
  have := hn' i hi; simp only [St.names, Bool.or_eq_false_iff] at this
  have h1 := this.1; rw [List.any_eq_false] at h1; simpa using h1 s (Zx ht)
 ·simp only [List.mem_append] at hp; rcases hp with hp | hp
  ·exact hb p hp
  ·have hp' : ∀ i ∈ nb.map (·.1), p.1 ≠ i /\ p.2.svs.any (SV.names i) = false := by
    intro i hi
    have := hn' i hi; simp only [St.names, Bool.or_eq_false_iff] at this
    have h2 := this.2; rw [List.any_eq_false] at h2; simpa using h2 p hp
   refine (h.bx p hp).persist hx (hk _ (.inl fun hi => (hp' p.1 hi).1 rfl)) (fun κ hκ => ?_); simp only [List.mem_flatMap] at hκ; obtain ⟨s, hs, hs2⟩ := hκ; refine (hkS s (fun i hi => ?_) κ hs2).1
   have := (hp' i hi).2; rw [List.any_eq_false] at this; simpa using this s hs
theorem WO_new {ops : Array Oper} {o : Oper} {rest : List Oper} {Q : St -> Prop} {S : St} {x : Operand} {args : Array Operand} {tys : Array TypeId} {f : FuncId} {fs cs : List PV} {nb : List (Nat × ABox)} {res : SV} (d : Nat) (hg : (o.guard, o.dst) = (none, some d))
  (ho : o.op = .call { callee := .value x, args := args, argTypes := tys }) (hx : S.ev x = .fn f fs cs) (hc : Vgj P f (Vdb S fs args.toList cs false) nb res) (hids : nb.all (fun p => decide (p.1 < 1000)) = true) (hn : nb.all (fun p => !S.names p.1) = true)
  (h : WO P ops rest Q (St.put { S with bx := nb ++ S.bx } (some d) res)) : WO P ops (o :: rest) Q S := by
 simp only [Zj] at hg; refine WO_op (fun G w a hr => Vao hg.1 a) (fun G w a hr Q' next hnx => ?_) h; obtain ⟨⟨fn, hf1, hf2, hf3⟩, hcall⟩ := hc
 have h1 := hr.ev x; rw [hx] at h1; obtain ⟨vs, us, h2, h3, h4⟩ := h1
 have hargs := Vi5 hr h3 h4 args.toList false
 have hcall := hcall G w _ hr.wf hargs
 have hrun : (execOp a.eval o).run P w = .ok (.enter f (vs.toList ++ (args.toList.map a.eval ++ us.toList)).toArray) w := by
  have hnone : fn.body.isNone = false := by cases hb : fn.body <;> simp_all
  simp only [execOp, ho, resolve, h2, Deferred.ofValue, Sem.run_bind, Sem.run_pure, Result.andThen_ok, invoke, callFunc, run_program, hf1]; rw [if_neg (by rw [hf3]; simp)]; simp only [hnone, Bool.false_eq_true, if_false, Sem.run_pure]; congr 2; apply Array.ext'; simp
 unfold Oper.wp; rw [hrun, Oper.upon_enter]; refine hcall.mono ?_; rintro e w' ⟨v, G', rfl, s1, s2, s3, s4, s5, s6⟩
 have hrel := Rel_new hr s1.toExt s2 s5 s6 s4 hn; rw [hg.2]; refine hnx G' _ w' s1 (hrel.put (some d) s3) (fun i hi => ?_); refine (s5 (i, 0) (.inl fun hm => ?_)).1; simp only [Ya] at hm; obtain ⟨p, hp, hpe⟩ := hm
 have := Ze.1 hids p hp; simp only [decide_eq_true_eq] at this
 have h5 : p.1 = i := hpe; omega
theorem Nb_same {a : Act} {d : Nat} {v : Value} (h : d < a.tmps.size) : (a.put (some d) v).eval (.tmp d) = v := by
 simp only [Act.eval, Act.put, Zd]; rw [Zl h]; rfl
theorem Nb_other {a : Act} {d t : Nat} {v : Value} (h : t ≠ d) : (a.put (some d) v).eval (.tmp t) = a.eval (.tmp t) := by
 simp only [Act.eval, Act.put, Zd]; rw [Zh (Ne.symm h)]
end
end Go.Eng
namespace Go.Eng
def okCb (gn : List (Key × Nat)) : CV -> Bool
 | .own k g _ _ => gn.lookup k == some g
 | _ => true
def okSb (ids : List Nat) (gn : List (Key × Nat)) : SV -> Bool
 | .own k g _ _ => gn.lookup k == some g
 | .ag l => l.all (okCb gn)
 | .tp l => l.all (fun x => match x with | .c x => okCb gn x | .a l => l.all (okCb gn))
 | s => s.keys.all (fun κ => ids.contains κ.1)
theorem okCb_ok {gn : List (Key × Nat)} {x : CV} (h : okCb gn x = true) : OkCV gn x := by
 cases x with
 | own k g sz l => simpa [okCb, OkCV] using h
 | _ => trivial
theorem Ved {ids : List Nat} {gn : List (Key × Nat)} {s : SV} (h : okSb ids gn s = true) : OkSV ids gn s := by
 have key : ∀ l : List Key, l.all (fun κ => ids.contains κ.1) = true -> ∀ κ ∈ l, κ.1 ∈ ids := fun l hl κ hκ => by
  have := Ze.1 hl κ hκ; simpa using this
 cases s with
 | own k g sz l => simpa [okSb, OkSV] using h
 | ag l => exact fun x hx => okCb_ok (Ze.1 h x hx)
 | tp l =>
  intro x hx
  have h1 := Ze.1 h x hx; cases x with
  | c x => exact okCb_ok h1
  | a l => exact fun y hy => okCb_ok (Ze.1 h1 y hy)
 | junk => exact key _ h
 | clo l => exact key _ h
 | nil => exact key _ h
 | av x => exact key _ h
 | ptr b o => exact key _ h
 | mp b => exact key _ h
 | fn f fs cs => exact key _ h
 | son b => exact key _ h
 | vs b n => exact key _ h
 | vp b sz i o => exact key _ h
 | vw b sz o n => exact key _ h
def okB (ids : List Nat) (gn : List (Key × Nat)) (bx : List (Nat × ABox)) : Bool := bx.all (fun p => p.2.svs.all (okSb ids gn))
def Vpj (fn : Func) (args : List SV) (bx : List (Nat × ABox)) (gn : List (Key × Nat)) (res : SV) (bx' : List (Nat × ABox)) (gn' : List (Key × Nat)) : Bool :=
 fn.body.isSome && !(fn.name == "runtime.NumGoroutine") && decide (args.length <= fn.ntmps) && bx.all (fun p => decide (1000 <= p.1)) && gn.all (fun p => decide (1000 <= p.1.1) && decide (0 < p.1.2)) &&
  args.all (okSb (bx.map (·.1)) gn) && okB (bx.map (·.1)) gn bx && okSb (bx.map (·.1)) gn' res && okB (bx.map (·.1)) gn' bx' && (bx'.map (·.1) == bx.map (·.1)) && (gn'.map (·.1) == gn.map (·.1)) && bx'.all (fun p => decide (p.1 < 2000) || (Vb5 bx').contains p.1)
section
variable {P : Program}
theorem Vm7 {ids : List Nat} {gn : List (Key × Nat)} {bx : List (Nat × ABox)} (h : okB ids gn bx = true) : ∀ p ∈ bx, ∀ s ∈ p.2.svs, OkSV ids gn s :=
 fun p hp s hs => Ved (Ze.1 (Ze.1 h p hp) s hs)
def KS (P : Program) (fn : Func) (res : SV) (bx' : List (Nat × ABox)) (gn' : List (Key × Nat)) (_ : Unit) : Exit -> St -> Prop := Ends P fn res bx' gn'
theorem BEGs {f : FuncId} {fn : Func} {args : List SV} {bx bx' : List (Nat × ABox)} {gn gn' : List (Key × Nat)} {res : SV} (hf : P.funcs[f]? = some fn) (hok : Vpj fn args bx gn res bx' gn' = true)
  (h : Nx P (KS P fn res bx' gn') () (Vhd (Vbk fn) ⟨args ++ List.replicate (fn.ntmps - args.length) .junk, bx, gn⟩)) : CallTo P f args bx gn res bx' gn' := by
 simp only [Vpj, Zg, decide_eq_true_eq, Zm, beq_iff_eq] at hok; obtain ⟨⟨⟨⟨⟨⟨⟨⟨⟨⟨⟨h1, h2⟩, h3⟩, h4⟩, h5⟩, h6⟩, h7⟩, h8⟩, h9⟩, h10⟩, h11⟩, h12⟩ := hok; obtain ⟨c, hb⟩ := Z7.1 h1
 have e : Vbk fn = c := by simp [Vbk, hb]
 refine Vc9 hf hb h2 rfl h3 (fun p hp => ?_) (fun p hp => ?_) (fun s hs => Ved (Ze.1 h6 s hs)) (Vm7 h7) (Ved h8) (Vm7 h9) h10 h11 ?_ (fun p hp => ?_)
 ·have := Ze.1 h4 p hp; simpa using this
 ·have := Ze.1 h5 p hp; simpa using this
 ·rw [<- e]; exact h.x
 ·have := Ze.1 h12 p hp; simpa using this
theorem ENs {fn : Func} {res : SV} {bx' : List (Nat × ABox)} {gn' : List (Key × Nat)} {M : Unit} {X : Cf} (h : Vlr P fn X = some res) (hb : bx'.map (fun p => (stOf X).bx.lookup p.1) = bx'.map (fun p => some p.2)) (hg : gn'.map (fun p => (stOf X).gen p.1) = gn'.map (·.2)) : Nx P (KS P fn res bx' gn') M X := by
 have hb' : ∀ p ∈ bx', (stOf X).bx.lookup p.1 = some p.2 := fun p hp => List.map_inj_left.1 hb p hp
 have hg' : ∀ p ∈ gn', (stOf X).gen p.1 = p.2 := fun p hp => List.map_inj_left.1 hg p hp
 unfold Vlr at h
 split at h
 ·exact ⟨ends (.inl rfl) h rfl hb' hg'⟩
 ·exact ⟨ends (.inr rfl) h rfl hb' hg'⟩
 ·simp at h
def Vp9 (id : Nat) : Code -> Option (Array Oper)
 | .region i ops _ => if i = id then some ops else none
 | .seq x y => (Vp9 id x).orElse (fun _ => Vp9 id y)
 | .cond _ x y => (Vp9 id x).orElse (fun _ => Vp9 id y)
 | .block _ c => Vp9 id c
 | .loop c => Vp9 id c
 | _ => none
def Vab (id : Nat) (fn : Func) : Array Oper := (Vp9 id (Vbk fn)).getD #[]
def regO (id : Nat) (fn : Func) (i : Nat) : Oper := (Vab id fn).getD i ((Vab id fn).getD 0 default)
def okNew (fn : Func) (args : List SV) (nb : List (Nat × ABox)) (res : SV) : Bool :=
 fn.body.isSome && !(fn.name == "runtime.NumGoroutine") && decide (args.length <= fn.ntmps) && args.all (okSb [] []) && okSb (nb.map (·.1)) [] res && okB (nb.map (·.1)) [] nb
theorem BEGn {f : FuncId} {fn : Func} {args : List SV} {nb : List (Nat × ABox)} {res : SV} (hf : P.funcs[f]? = some fn) (hok : okNew fn args nb res = true)
  (h : Nx P (KS P fn res nb []) () (Vhd (Vbk fn) ⟨args ++ List.replicate (fn.ntmps - args.length) .junk, [], []⟩)) : Vgj P f args nb res := by
 simp only [okNew, Zg, decide_eq_true_eq, Zm] at hok; obtain ⟨⟨⟨⟨⟨h1, h2⟩, h3⟩, h4⟩, h5⟩, h6⟩ := hok; obtain ⟨c, hb⟩ := Z7.1 h1
 have e : Vbk fn = c := by simp [Vbk, hb]
 refine Vli hf hb h2 rfl h3 (fun s hs => Ved (Ze.1 h4 s hs)) (Ved h5) (Vm7 h6) ?_; rw [<- e]; exact h.x
end
end Go.Eng
namespace Go.Eng
open Go
section
variable {P : Program} {α : Type}
theorem gO {K : α -> Exit -> St -> Prop} {M : α} {X : Cf} (oc : OC) (hn : Nx P K M (adv P X oc.o)) (h : csOf (adv P X oc.o) = some oc.c := by kernel_rfl) : Nx P K M X := GO oc h hn
theorem uN {K : α -> Exit -> St -> Prop} {M : α} {X : Cf} (S0 : St) (n : Nat) (h : Nx P (KU P (lpC X) (lpK X) K n) M (Vhd (lpC X) S0)) (hX : isLp X = true := by kernel_rfl) (hw : Weak (stOf X) S0 := by exact WK (by kernel_rfl)) : Nx P K M X := UN S0 n hX hw h
theorem uA {c : Code} {ks : List Fm} {K : α -> Exit -> St -> Prop} {M : α} {X : Cf} {n : Nat} (S0 : St) (h : Nx P (KU P c ks K n) M (Vhd c S0)) (hX : finOf X = some .normal := by kernel_rfl) (hw : Weak (stOf X) S0 := by exact WK (by kernel_rfl)) : Nx P (KU P c ks K (n + 1)) M X := UA S0 hX hw h
theorem uO {c : Code} {ks : List Fm} {K : α -> Exit -> St -> Prop} {M : α} {X : Cf} {n : Nat} (oc : OC) (hn : Nx P K M (outX P ks X oc.o)) (h : csOf (outX P ks X oc.o) = some oc.c := by kernel_rfl) : Nx P (KU P c ks K n) M X := UO oc h hn
theorem bG {f : FuncId} {fn : Func} {args : List SV} {res : SV} (hf : P.funcs[f]? = some fn) (h : Nx P (KE P fn (fun _ : Unit => res) [] []) () (Vhd (Vbk fn) ⟨args ++ List.replicate (fn.ntmps - args.length) .junk, [], []⟩)) (hok : okFn fn args res = true := by kernel_rfl) : CallTo P f args [] [] res [] [] := BEG (fun _ : Unit => res) () hf hok h
theorem eN {fn : Func} {enc : α -> SV} {M : α} {X : Cf} (h : Vlr P fn X = some (enc M) := by kernel_rfl) : Nx P (KE P fn enc [] []) M X := EN h
theorem bGs {f : FuncId} {fn : Func} {args : List SV} {bx bx' : List (Nat × ABox)} {gn gn' : List (Key × Nat)} {res : SV} (hf : P.funcs[f]? = some fn)
  (h : Nx P (KS P fn res bx' gn') () (Vhd (Vbk fn) ⟨args ++ List.replicate (fn.ntmps - args.length) .junk, bx, gn⟩)) (hok : Vpj fn args bx gn res bx' gn' = true := by kernel_rfl) : CallTo P f args bx gn res bx' gn' := BEGs hf hok h
theorem eNs {fn : Func} {res : SV} {bx' : List (Nat × ABox)} {gn' : List (Key × Nat)} {M : Unit} {X : Cf} (h : Vlr P fn X = some res := by kernel_rfl) (hb : bx'.map (fun p => (stOf X).bx.lookup p.1) = bx'.map (fun p => some p.2) := by kernel_rfl) (hg : gn'.map (fun p => (stOf X).gen p.1) = gn'.map (·.2) := by kernel_rfl) : Nx P (KS P fn res bx' gn') M X := ENs h hb hg
end
end Go.Eng
namespace Go.Proofs.YtnpedjbgchdkbaaGreatDoor
open Go Go.Eng
theorem Ves {P : Program} {f : FuncId} {args : List SV} {p q : Nat × ABox} {gn : List (Key × Nat)} {res : SV} {bx' : List (Nat × ABox)} {gn' : List (Key × Nat)} (h : CallTo P f args [p, q] gn res bx' gn') : CallTo P f args [q, p] gn res bx' gn' :=
 ⟨h.1, fun G w vs hw hr hb hg => h.2 G w vs hw hr (fun x hx => hb x (by simp only [Zy, Zz, or_false] at hx ⊢; exact hx.symm)) hg⟩
theorem fnd0_to (x : DInline) (e z0 : Int) : CallTo Tryz.prog 104 [.av (Va8 x), jI e, .ptr 1000 0, .ptr 1001 0] [(1000, .cells 33 [jI 0, jS ⟨#[]⟩, jS ⟨#[]⟩, jS ⟨#[]⟩, jS ⟨#[]⟩, .nil, .nil, .nil, .nil, .nil]), (1001, .cells 3 [jI z0])] [] (jB (decide (e > 0))) [(1000, .cells 33 (Vcq x)), (1001, .cells 3 [jI e])] [] := by
 refine bGs Tryz.func104 ?_; refine gO (tn 9 z) ?_; exact eNs
theorem fnd1_to (y x : DInline) (e z0 : Int) : CallTo Tryz.prog 104 [.av (Va8 x), jI e, .ptr 1000 0, .ptr 1001 0] [(1000, .cells 33 (Vcq y)), (1001, .cells 3 [jI z0])] [] (jB (decide (e > 0))) [(1000, .cells 33 (Vcq x)), (1001, .cells 3 [jI e])] [] := by
 refine bGs Tryz.func104 ?_; refine gO (tn 9 z) ?_; exact eNs
theorem WO_ghost {P : Program} {ops : Array Oper} {l : List Oper} {Q : St -> Prop} {S S' : St} (hg : Vr6 S S') (h : WO P ops l Q S') : WO P ops l Q S := by
 intro more Q' G w a hr k; obtain ⟨G', h1, h2, h3⟩ := hg G w a hr; exact h more Q' G' w a h2 (fun S1 G1 a1 w1 q1 q2 q3 q4 => k S1 G1 a1 w1 q1 (h1.trans q2) q3 (fun i hi => (q4 i hi).trans (h3 i hi)))
def NOT : SV := .av (.rm [] [])
def NM : SV := .av (.val (.map none))
def Sr0 (s : ByteArray) : St := sx 58 [(0, jS s), (2, .ptr 2 0)] [(2, .cells 135 [NM, NM])] []
def Sr1 (s : ByteArray) : St := sx 58 [(0, jS s), (2, .ptr 2 0), (3, .ptr 3 0)] [(2, .cells 135 [NM, NM]), (3, .cells 135 [NOT, NOT])] []
theorem rn1 (s : ByteArray) : W Tryz.prog (.region 1 (Vab 1 Tryz.f69) false) (fun e S1 => e = .normal /\ Weak S1 (Sr1 s)) (Sr0 s) := by
 refine Vak ?_; rw [show (Vab 1 Tryz.f69).toList = [regO 1 Tryz.f69 0, regO 1 Tryz.f69 1, regO 1 Tryz.f69 2, regO 1 Tryz.f69 3, regO 1 Tryz.f69 4] by kernel_rfl]; refine Vim (.mp 7) 7 (by kernel_rfl) (Ve8 (t := 133) (k := 3) (e := 84) (r := none) (id := 7) (by kernel_rfl) (by kernel_rfl) (by intro x h; cases h) (by decide) (by kernel_rfl)) ?_; refine Vim (.mp 8) 8 (by kernel_rfl) (Ve8 (t := 133) (k := 3) (e := 84) (r := none) (id := 8) (by kernel_rfl) (by kernel_rfl) (by intro x h; cases h) (by decide) (by kernel_rfl)) ?_; refine WO_ghost (Via (id := 7) (ks := []) (vs := []) (by kernel_rfl)) ?_; refine WO_ghost (Via (id := 8) (ks := []) (vs := []) (by kernel_rfl)) ?_; exact Vfn (cs := [True, True, True]) [] 58 [(0, jS s), (2, .ptr 2 0), (3, .ptr 3 0)] [(2, .cells 135 [NM, NM]), (3, .cells 135 [NOT, NOT])] [] ⟨trivial, trivial, trivial, trivial⟩ (by kernel_rfl) ⟨rfl, WK (by kernel_rfl)⟩
def NoT (s : ByteArray) : Prop := ∀ j : Nat, j < s.size -> ((byt s j : Nat) : Int) ≠ 96
theorem rns_to (s : ByteArray) (hs : s.size <= 1073741824) (hb : NoT s) : CallTo Tryz.prog 69 [jS s] [] [] (.av (.agg [.rm [] [], .rm [] []])) [] [] := by
 refine BEG (fun _ : Unit => .av (.agg [.rm [] [], .rm [] []])) () Tryz.func69 (by kernel_rfl) ?_; refine gO (tn 1 (kq 1 z)) ?_; refine NXW (Sr1 s) (tn 1 z) (by kernel_rfl) ?_ (by kernel_rfl) ?_
 ·exact Vb6 (S' := Sr0 s) (WK (by kernel_rfl)) (Vbh (c' := .region 1 (Vab 1 Tryz.f69) false) (by kernel_rfl) (rn1 s))
 refine LP (fun N M S => ∃ v4 : Nat, (s.size < N + v4) /\ v4 <= s.size /\ M = () /\ S = (sx 58 [(0, (jS s)), (2, .ptr 2 0), (3, .ptr 3 0), (4, (jI ((v4 : Nat) : Int)))] [(2, .cells 135 [NM, NM]), (3, .cells 135 [NOT, NOT])] [])) (by kernel_rfl) (n := s.size + 1) ⟨0, by omega, by omega, rfl, rfl⟩ (WK (by kernel_rfl)) ?_; rintro n0 M S ⟨v4, hF0, hv, rfl, rfl⟩; obtain ⟨n0, rfl⟩ : ∃ k, n0 = k + 1 := ⟨n0 - 1, by omega⟩
 refine gO (tn 4 z) ?_; cases h : decide (((v4 : Nat) : Int) < ((Zb s : Nat) : Int)) with
 | false =>
  refine gO (kb h z) ?_; refine OUT (tn 2 z) (by kernel_rfl) ?_; exact EN (by kernel_rfl)
 | true =>
  have hp := of_decide_eq_true h; refine gO (kb h (tn 2 (kp (ib s ((v4 : Nat) : Int) (by omega)) (tn 1 (kb (b := (((byt s (Za ((v4 : Nat) : Int)) : Nat) : Int) != 96)) (d := true) (by rw [bne_iff_ne]; exact hb v4 (by omega)) (tn 1 (kn (wrE (((v4 : Nat) : Int) + 1) ((v4 + 1 : Nat) : Int) (by omega)) (tn 1 z)))))))) ?_; exact AG (m := n0) ⟨v4 + 1, by omega, by omega, rfl, rfl⟩ (WK (by kernel_rfl)) (by kernel_rfl) (Zo _)
end Go.Proofs.YtnpedjbgchdkbaaGreatDoor
namespace Go.Proofs.YtnpedjbgchdkbaaGreatDoor
open Go Go.Eng Go.RowKit
end Go.Proofs.YtnpedjbgchdkbaaGreatDoor
namespace Go.Eng
variable {P : Program}
section
variable {ev : Operand -> Value} {o : Oper} {w : World}
end
end Go.Eng
namespace Go.Proofs.YtnpedjbgchdkbaaGreatDoor
open Go Go.Eng Go.RowKit Go.Shelf
attribute [local go_sem] Oper.semAt_some
def pt (b o : Nat) : Value := .pointer (some ⟨b, o, none⟩)
def SEMI : ByteArray := ⟨#[59]⟩
theorem sidx_in (s : ByteArray) (w : World) (h : Lib.indexByte s.data.toList 59 = -1) : CallsIn Fence.wide 0 Tryz.prog 218 #[.string s, .string SEMI] w fun e w' => e = .returned (.int .i64 (-1)) /\ w' = w := by
 refine callsIn_of_wp Tryz.func218 rfl trivial ?_ rfl; simp only [Tryz.ntmps218, Z8, Zv, Yb, Nat.reduceAdd, Nat.reduceSub, Z4, Z3, Z9, Z6, Z1, Zw]
 have hi := (callsIn_wide (n := 0)).2 (Any.stringslite_Index_one Tryz.lays219 s 59 w); rw [h] at hi
 gi_wp2
 refine ⟨trivial, rfl, hi.mono ?_⟩; rintro e w' ⟨rfl, rfl⟩
 gi_wp2
 go_ret
 exact ⟨rfl, rfl⟩
def sw3 (s : ByteArray) (w : World) : World := ((w.alloc (.cells #[.string s] 9)).alloc (.cells #[.string SEMI] 9)).alloc (.cells #[.int .i64 0] 3)
def sfn (w : World) : Value := .func (.func 257) #[] #[pt (w.heap.size + 1) 0, pt w.heap.size 0, pt (w.heap.size + 2) 0]
theorem spl_in (s : ByteArray) (w : World) : CallsIn Fence.wide 0 Tryz.prog 229 #[.string s, .string SEMI, .int .i64 0] w fun e w' => e = .returned (sfn w) /\ w' = sw3 s w := by
 refine callsIn_of_wp Tryz.func229 rfl trivial ?_ rfl; simp only [Tryz.ntmps229, Z8, Zv, Yb, Nat.reduceAdd, Nat.reduceSub, Z4, Z3, Z9, Z6, Z1, Zw]
 gi_wp2
 go_ret
 exact ⟨rfl, rfl⟩
theorem sps_in (s : ByteArray) (w : World) : CallsIn Fence.wide 0 Tryz.prog 189 #[.string s, .string SEMI] w fun e w' => e = .returned (sfn w) /\ w' = sw3 s w := by
 refine callsIn_of_wp Tryz.func189 rfl trivial ?_ rfl; simp only [Tryz.ntmps189, Z8, Zv, Yb, Nat.reduceAdd, Nat.reduceSub, Z4, Z3, Z9, Z6, Z1, Zw]
 gi_wp2
 refine ⟨trivial, rfl, (spl_in s w).mono ?_⟩; rintro e w' ⟨rfl, rfl⟩; unfold sfn
 gi_wp2
 go_ret
 exact ⟨rfl, rfl⟩
abbrev OneS (s : ByteArray) := { x : ByteArray // x = s }
theorem sit_in (s : ByteArray) (h : Lib.indexByte s.data.toList 59 = -1) (n0 Bp Bs Bz : Nat) (w0 : World) (hp : Bp < w0.heap.size) (hs : Bs < w0.heap.size) (c1 : w0.cell? ⟨Bp, 0, none⟩ = some (.string SEMI)) (c2 : w0.cell? ⟨Bs, 0, none⟩ = some (.string s)) :
  SeqStopsK Fence.wide 0 Tryz.prog 257 #[pt Bp 0, pt Bs 0, pt Bz 0] (fun x : OneS s => #[.string x.1]) (Below n0) (fun xs => xs.length = 1) (fun pre => pre.length = 1) 1 w0 := by
 intro lp J Jx W hW hJ hJx hY h0
 have k1 : W.cell? ⟨Bp, 0, none⟩ = some (.string SEMI) := (hW.cell (p := ⟨Bp, 0, none⟩) hp).trans c1
 have k2 : W.cell? ⟨Bs, 0, none⟩ = some (.string s) := (hW.cell (p := ⟨Bs, 0, none⟩) hs).trans c2; obtain ⟨fn, tmps, assign, body, hy, hR⟩ := hY [] ⟨s, rfl⟩ W h0 (by simp); dsimp only at hy
 have hi := sidx_in s W h; clear hY hJ hJx hW c1 c2; refine callsIn_of_wp Tryz.func257 rfl trivial ?_ rfl; simp only [Tryz.ntmps257, Z8, Zv, Yb, Nat.reduceAdd, Nat.reduceSub, Z4, Z3, Z9, Z6, Z1, Zw]; unfold pt
 gi_wp2
 refine wpIn_loop_once ?_
 gi_wp2
 refine ⟨trivial, rfl, hi.mono ?_⟩; rintro e w' ⟨rfl, rfl⟩; clear hi
 gi_wp2
 refine ⟨rfl, hR.mono ?_⟩; rintro e W3 (⟨rfl, hJ3, -⟩ | ⟨rfl, hJx3⟩)
 ·clear hy hR
  gi_wp2
  go_end0
  exact ⟨⟨_, rfl⟩, .inl ⟨_, by simp, hJ3⟩⟩
 ·clear hy hR
  gi_wp2
  go_end0
  exact ⟨⟨_, rfl⟩, .inr ⟨_, by simp, hJx3⟩⟩
theorem raw_of {P : Program} {f : FuncId} {args : List SV} {vs : Array Value} {res : AV} {v : Value} (h : CallTo P f args [] [] (.av res) [] []) (hargs : ∀ (G : Gh) (w : World), RepSs G w args vs.toList) (hres : ∀ (U : Nat -> Nat) (w : World) (u : Value), Rep U w res u -> u = v) (w : World) :
  Calls P f vs w fun e w' => e = .returned v /\ Below w.heap.size w w' := by
 let G : Gh := { U := fun _ => 0, cp := fun _ => 0, ow := fun _ => none, gen := fun _ => 0, df := [] }
 have hw : Wf G w := ⟨fun κ κ' b h1 _ => by simp [G] at h1, fun κ b h1 => by simp [G] at h1, fun _ _ => rfl⟩
 have := h.2 G w vs.toList hw (hargs G w) (by simp) (by simp); simp only [Array.toArray_toList] at this; refine this.mono ?_; rintro e w' ⟨u, G', rfl, s1, s2, s3, _⟩; refine ⟨by rw [hres _ _ _ s3], s1.toExt.os, s1.toExt.tp, s1.toExt.output, s1.toExt.size, fun b hb => (s1.stay b hb (fun κ h => by simp [G] at h)).1⟩
def citZ : Value := .agg #[.string ⟨#[]⟩, .string ⟨#[]⟩, .string ⟨#[]⟩, .bool false]
theorem cit_in (s : ByteArray) (hs : s.size <= 1073741824) (h : citF s = (⟨⟨#[]⟩, ⟨#[]⟩, ⟨#[]⟩, false⟩, false)) (w : World) : Calls Tryz.prog 190 #[.string s] w fun e w' => e = .returned (.tuple #[citZ, .bool false]) /\ Below w.heap.size w w' := by
 have hc := citF_to s hs; rw [h] at hc; refine raw_of hc (fun G w => ⟨_, _, rfl, ⟨rfl, rfl⟩, rfl⟩) (fun U w u hu => ?_) w; obtain ⟨us, rfl, a, l1, e1, ha, b, l2, e2, hb, e3⟩ := hu; obtain ⟨vs, rfl, ha, -⟩ := ha; obtain ⟨x1, m1, f1, h1, x2, m2, f2, h2, x3, m3, f3, h3, x4, m4, f4, h4, f5⟩ := ha
 have e3 : l2 = [] := e3
 have f5 : m4 = [] := f5; subst e3 f5; obtain ⟨rfl, -⟩ := h1; obtain ⟨rfl, -⟩ := h2; obtain ⟨rfl, -⟩ := h3; obtain ⟨rfl, -⟩ := h4; obtain ⟨rfl, -⟩ := hb; subst f4 f3 f2; subst e2
 have g1 : vs = #[.string ⟨#[]⟩, .string ⟨#[]⟩, .string ⟨#[]⟩, .bool false] := Array.toList_inj.1 f1; subst g1
 have g2 : us = #[citZ, .bool false] := Array.toList_inj.1 e1; rw [g2]
end Go.Proofs.YtnpedjbgchdkbaaGreatDoor
namespace Go.Proofs.YtnpedjbgchdkbaaGreatDoor
open Go Go.Eng Go.RowKit Go.Shelf
attribute [local go_sem] Oper.semAt_some
def CTN : ByteArray := ⟨#[91, 93, 123, 96, 36, 10]⟩
theorem ctn_in (s : ByteArray) (hs : s.size <= 1073741824) (ha : A7 s) (h : ctnA s CTN = false) (w : World) : Calls Tryz.prog 188 #[.string s, .string CTN] w fun e w' => e = .returned (.bool false) /\ Below w.heap.size w w' := by
 have hc := ctnA_to s CTN hs (by decide) ha (A7.lit (by decide)); rw [h] at hc; exact raw_of hc (fun G w => ⟨_, _, rfl, ⟨rfl, rfl⟩, _, _, rfl, ⟨rfl, rfl⟩, rfl⟩) (fun U w u hu => hu.1) w
theorem Vkt (W : World) (v : Value) (t : TypeId) : (W.alloc (.cells #[v] t)).cell? ⟨W.heap.size, 0, none⟩ = some v /\ (W.alloc (.cells #[v] t)).frozen? ⟨W.heap.size, 0, none⟩ = false := by
 have h := World.alloc_heap_new W (.cells #[v] t); constructor <;> simp only [World.cell?, World.frozen?, h] <;> rfl
theorem sw3_cells (s : ByteArray) (A : World) : (sw3 s A).cell? ⟨A.heap.size, 0, none⟩ = some (.string s) /\ (sw3 s A).cell? ⟨A.heap.size + 1, 0, none⟩ = some (.string SEMI) /\ (sw3 s A).heap.size = A.heap.size + 3 /\ Below A.heap.size A (sw3 s A) := by
 unfold sw3; refine ⟨?_, ?_, by simp, ((((Below.refl _ A).alloc (Zk _) _).alloc (by simp) _).alloc (by simp; omega) _)⟩
 ·refine (World.cell?_of_block (Below.heap_alloc _ _ _ (by simp; omega))).trans ((World.cell?_of_block (Below.heap_alloc _ _ _ (by simp))).trans ?_); exact (Vkt A _ _).1
 ·refine (World.cell?_of_block (Below.heap_alloc _ _ _ (by simp))).trans ?_
  have := (Vkt (A.alloc (.cells #[.string s] 9)) (.string SEMI) 9).1; rwa [World.size_alloc] at this
theorem Vnq {β : Type} (B k : Nat) (o : Obj) (ho : o.isCells = true) : OwnFrom B (fun (_ : β) (W : World) => W.heap[k]? = some o) := by
 intro s W W' row hs hg hr; refine (hg.block k (Zi.1 hs).1 (fun e => ?_)).trans hs; obtain ⟨_, o', h1, h2⟩ := hr k e.symm; rw [hs] at h1; cases h1; rw [ho] at h2; cases h2
theorem bxd_set {W : World} {B : Nat} {t : TypeId} {v v' : Value} (h : Boxed W B t v) : Boxed (W.setCell ⟨B, 0, none⟩ v') B t v' := h.set v'
def oN : Obj := .cells #[Value.slice none 0 0] 31
def oF : Obj := .cells #[Value.bool false] 4
theorem cts_calls (s : ByteArray) (hs : s.size <= 1073741824) (ha : A7 s) (h1 : ctnA s CTN = false) (h2 : Lib.indexByte s.data.toList 59 = -1) (h3 : citF s = (⟨⟨#[]⟩, ⟨#[]⟩, ⟨#[]⟩, false⟩, false)) (w : World) :
    CallsIn Fence.wide 1 Tryz.prog 153 #[.string s] w fun e w' => e = .returned (.tuple #[.slice none 0 0, .bool false]) /\ Below w.heap.size w w' := by
  refine callsIn_of_wp_marks Tryz.func153 rfl trivial ?_ rfl; simp only [Tryz.ntmps153, Z8, Zv, Yb, Nat.reduceAdd, Nat.reduceSub, Z4, Z3, Z9, Z6, Z1, Zw]
  gi_wp2
  refine ⟨trivial, ((callsIn_wide (n := 0)).2 (ctn_in s hs ha h1 _)).mono ?_⟩; rintro e w1 ⟨rfl, hb1⟩
  gi_wp2
  refine ⟨trivial, (sps_in s _).mono ?_⟩; rintro e w' ⟨rfl, rfl⟩; unfold sfn pt
  gi_wp2
  obtain ⟨A, hA⟩ : ∃ A, A = w1.alloc (Obj.cells #[Value.slice none 0 0] 31) := ⟨_, rfl⟩
  have zA : A.heap.size = w1.heap.size + 1 := by rw [hA]; simp
  obtain ⟨c1, c2, z3, bA⟩ := sw3_cells s A; rw [zA] at c1 c2 z3
  have z1 : w.heap.size + 2 <= w1.heap.size := by have := hb1.size; simpa using this
  have q0 : w1.heap[w.heap.size]? = some oN := (hb1.block _ (by simp; omega)).trans ((Below.heap_alloc _ _ _ (by simp)).trans (World.alloc_heap_new w _))
  have q1 : w1.heap[w.heap.size + 1]? = some oF := (hb1.block _ (by simp)).trans (by
    have := World.alloc_heap_new (w.alloc (Obj.cells #[Value.slice none 0 0] 31)) (Obj.cells #[Value.bool false] 4)
    rwa [World.size_alloc] at this)
  have b1 : Below w.heap.size w w1 := (((Below.refl _ w).alloc (Zk _) _).alloc (by simp) _).trans (hb1.mono (by simp; omega))
  have bAA : Below w.heap.size w A := by rw [hA]; exact b1.alloc (by omega) _
  have q0' : A.heap[w.heap.size]? = some oN := by rw [hA]; exact (Below.heap_alloc _ _ _ (by omega)).trans q0
  have q1' : A.heap[w.heap.size + 1]? = some oF := by rw [hA]; exact (Below.heap_alloc _ _ _ (by omega)).trans q1
  rw [<- hA]
  have b3 : Below w.heap.size w (sw3 s A) := bAA.trans (bA.mono (by omega))
  have r0 : (sw3 s A).heap[w.heap.size]? = some oN := (bA.block _ (by omega)).trans q0'
  have r1 : (sw3 s A).heap[w.heap.size + 1]? = some oF := (bA.block _ (by omega)).trans q1'; obtain ⟨W0, hW0⟩ : ∃ W0, W0 = sw3 s A := ⟨_, rfl⟩
  rw [<- hW0] at c1 c2 z3 b3 r0 r1 ⊢
  have hseq := sit_in s h2 w.heap.size (w1.heap.size + 1 + 1) (w1.heap.size + 1) (w1.heap.size + 1 + 2) W0 (by omega) (by omega) c2 c1; clear hW0 bA bAA q0' q1' hA zA; refine wpIn_rangeFunc_ownF (gf := 257) (lb := #[pt (w1.heap.size + 1 + 1) 0, pt (w1.heap.size + 1) 0, pt (w1.heap.size + 1 + 2) 0]) rfl (Zk 1) rfl trivial (enters_of Tryz.func257 (by kernel_rfl) rfl) hseq belowK_t (belowK_b (by omega)) (Below.refl _ _) (fun _ => rfl)
    (fun pre W => (W.heap[w.heap.size]? = some oN /\ W.heap[w.heap.size + 1]? = some oF) /\ Below w.heap.size w W /\ pre = [])
    (fun c pre W => (W.heap[w.heap.size]? = some oN /\ W.heap[w.heap.size + 1]? = some oF) /\ Below w.heap.size w W /\ c = .ret)
    (((Vnq _ _ _ rfl).and (Vnq _ _ _ rfl)).and ((ownFrom_below (Zk _) (by omega)).and (fun _ _ _ _ h _ _ => h)))
    (fun c => ((Vnq _ _ _ rfl).and (Vnq _ _ _ rfl)).and ((ownFrom_below (Zk _) (by omega)).and (fun _ _ _ _ h _ _ => h)))
    ⟨⟨r0, r1⟩, b3, rfl⟩
    (fun x => { tmps := #[.string s, undef, pt w.heap.size 0, pt (w.heap.size + 1) 0, pt w1.heap.size 0, .string x.1, undef, undef, .string s, .bool false, .string s,
          .func (.func 257) #[] #[pt (w1.heap.size + 1 + 1) 0, pt (w1.heap.size + 1) 0, pt (w1.heap.size + 1 + 2) 0],
          .string x.1, undef, undef, undef, undef, undef, undef, undef, undef, undef, undef, undef, undef], defers := [] }) ?assign ?body ?done ?stop
  case assign =>
    intro l x W K hK
    gi_wp2
    exact hK
  case body =>
    rintro l pre ⟨x, rfl⟩ W ⟨⟨p0, p1⟩, hbl, rfl⟩ -
    unfold pt
    gi_wp2
    refine ⟨trivial, rfl, (CallsIn.inRound l ((callsIn_wide (n := 0)).2 (cit_in x hs h3 W))).mono ?_⟩; rintro e W2 ⟨rfl, hb2⟩; unfold citZ
    have z2 : w.heap.size + 2 <= W2.heap.size := by have := hb2.size; have := (Zi.1 p1).1; omega
    have p0' : W2.heap[w.heap.size]? = some oN := (hb2.block _ (Zi.1 p0).1).trans p0
    have p1' : W2.heap[w.heap.size + 1]? = some oF := (hb2.block _ (Zi.1 p1).1).trans p1
    have p0a : (W2.alloc (Obj.cells #[.string ⟨#[]⟩, .string ⟨#[]⟩, .string ⟨#[]⟩, .bool false] 64)).heap[w.heap.size]? = some oN := (Below.heap_alloc _ _ _ (by omega)).trans p0'
    have p1a : (W2.alloc (Obj.cells #[.string ⟨#[]⟩, .string ⟨#[]⟩, .string ⟨#[]⟩, .bool false] 64)).heap[w.heap.size + 1]? = some oF := (Below.heap_alloc _ _ _ (by omega)).trans p1'
    have e0 : (W2.alloc (Obj.cells #[.string ⟨#[]⟩, .string ⟨#[]⟩, .string ⟨#[]⟩, .bool false] 64)).cell? ⟨w.heap.size, 0, none⟩ = some (.slice none 0 0) /\ (W2.alloc (Obj.cells #[.string ⟨#[]⟩, .string ⟨#[]⟩, .string ⟨#[]⟩, .bool false] 64)).frozen? ⟨w.heap.size, 0, none⟩ = false := by simp only [World.cell?, World.frozen?, p0a, oN]; exact ⟨rfl, rfl⟩
    have p1b : ((W2.alloc (Obj.cells #[.string ⟨#[]⟩, .string ⟨#[]⟩, .string ⟨#[]⟩, .bool false] 64)).setCell ⟨w.heap.size, 0, none⟩ (.slice none 0 0)).heap[w.heap.size + 1]? = some oF := (Below.heap_setCell _ _ _ _ (by simp)).trans p1a
    have e1 : ((W2.alloc (Obj.cells #[.string ⟨#[]⟩, .string ⟨#[]⟩, .string ⟨#[]⟩, .bool false] 64)).setCell ⟨w.heap.size, 0, none⟩ (.slice none 0 0)).cell? ⟨w.heap.size + 1, 0, none⟩ = some (.bool false) /\ ((W2.alloc (Obj.cells #[.string ⟨#[]⟩, .string ⟨#[]⟩, .string ⟨#[]⟩, .bool false] 64)).setCell ⟨w.heap.size, 0, none⟩ (.slice none 0 0)).frozen? ⟨w.heap.size + 1, 0, none⟩ = false := by simp only [World.cell?, World.frozen?, p1b, oF]; exact ⟨rfl, rfl⟩
    obtain ⟨e0a, e0b⟩ := e0; obtain ⟨e1a, e1b⟩ := e1; clear hseq
    gi_wp2
    refine ⟨?_, ⟨?_, ?_⟩, ?_, rfl⟩
    · have k2 : KeepsOthers W W2 := ⟨hb2.size, fun k o hk _ => (hb2.block k (Zi.1 hk).1).trans hk⟩
      exact ((k2.trans (KeepsOthers.alloc _ _)).trans (KeepsOthers.setCell _ _ _)).trans (KeepsOthers.setCell _ _ _)
    · refine (Below.heap_setCell _ _ _ _ (by simp)).trans ?_; exact bxd_set (v := .slice none 0 0) (v' := .slice none 0 0) p0a
    · exact bxd_set (v := .bool false) (v' := .bool false) p1b
    · have z0 : w.heap.size + 2 <= W.heap.size := by have := (Zi.1 p1).1; omega
      exact (((hbl.trans (hb2.mono (by omega))).alloc (by omega) _).setCell (p := ⟨w.heap.size, 0, none⟩) (Zk _) _).setCell (p := ⟨w.heap.size + 1, 0, none⟩) (by simp) _
  case done =>
    rintro D xs W hD hS ⟨_, _, rfl⟩ hDk; simp at hS
  case stop =>
    rintro D c pre W hD hSp ⟨⟨p0, p1⟩, hbl, rfl⟩ hDk; refine wpIn_ret ?_
    have hne0 : w.heap.size ≠ D := by have := b3.size; have := (Zi.1 p1).1; omega
    have hne1 : w.heap.size + 1 ≠ D := by omega
    have f0 : (W.putObj D (.deferred none)).cell? ⟨w.heap.size, 0, none⟩ = some (.slice none 0 0) := by
      have : (W.putObj D (.deferred none)).heap[w.heap.size]? = some oN := (World.putObj_heap_other hne0).trans p0; simp only [World.cell?, this, oN]; rfl
    have f1 : (W.putObj D (.deferred none)).cell? ⟨w.heap.size + 1, 0, none⟩ = some (.bool false) := by
      have : (W.putObj D (.deferred none)).heap[w.heap.size + 1]? = some oF := (World.putObj_heap_other hne1).trans p1; simp only [World.cell?, this, oF]; rfl
    have l0 := run_loadVar_one (P := Tryz.prog) (t := 31) (by kernel_rfl) f0
    have l1 := run_loadVar_one (P := Tryz.prog) (t := 4) (by kernel_rfl) f1; refine ⟨by simp, .inl ⟨D, _, rfl, run_takeDeferred hDk, .tuple #[.slice none 0 0, .bool false], ?_, rfl, ?_⟩⟩
    · simp only [results, show Tryz.f153.results = #[.cell 2 31, .cell 3 4] from rfl]; simp [Sem.run_bind, asAddr, pt, l0, l1]
    · exact hbl.grown (grownBy_putObj' W D _) hbl.size (fun k e => by cases e; omega)
end Go.Proofs.YtnpedjbgchdkbaaGreatDoor
namespace Go.Proofs.YtnpedjbgchdkbaaGreatDoor
open Go Go.Eng Go.RowKit Go.Shelf
def NoC (s : ByteArray) : Prop := ∀ b ∈ s.data.toList, b ≠ 59 /\ b ≠ 64
theorem NoC.ext {s : ByteArray} (h : NoC s) (i j : Nat) : NoC (s.extract i j) := by
 intro b hb
 have e : (s.extract i j).data.toList = (s.data.toList.drop i).take (j - i) := by simp [List.extract_eq_take_drop]
 rw [e] at hb; exact h b (List.mem_of_mem_drop (List.mem_of_mem_take hb))
theorem Vo0 {c : UInt8} : ∀ {l : List UInt8}, (∀ b ∈ l, b ≠ c) -> Lib.indexByte l c = -1
 | [], _ => rfl
 | b :: l, h => by
  have h1 := h b (by simp)
  have h2 := Vo0 (l := l) (fun x hx => h x (by simp [hx])); simp only [Lib.indexByte, h2]
  have : (b == c) = false := by simpa using h1
  simp [this, h1]
theorem citF_no {s : ByteArray} (h : NoC s) : citF s = (⟨⟨#[]⟩, ⟨#[]⟩, ⟨#[]⟩, false⟩, false) := by
 have e : idxB s 64 = -1 := by
  unfold idxB; exact Vo0 (fun b hb => (h b hb).2)
 unfold citF; simp only [e]; rfl
def ctsP (s : ByteArray) : List DCited × Bool := ([], false)
theorem ctsT_to (s : ByteArray) (hs : s.size <= 1073741824) (ha : A7 s) (h : ctnA s CTN = true) : CallTo Tryz.prog 153 [jS s] [] [] (.av (.tup [.sl [], vB false])) [] [] := by
 have hc := ctnA_to s CTN hs (by decide) ha (A7.lit (by decide)); refine bG Tryz.func153 ?_; refine gO (tn 3 (kc hc (kb h (tn 2 z)))) ?_; exact eN
theorem cts_to (s : ByteArray) (hs : s.size <= 1073741824) (ha : A7 s) (hn : NoC s) : CallTo Tryz.prog 153 [jS s] [] [] (.av (.tup [.sl ((ctsP s).1.map Van), vB (ctsP s).2])) [] [] := by
 cases h : ctnA s CTN with
 | true => exact ctsT_to s hs ha h
 | false =>
  refine Vbp ⟨Tryz.f153, Tryz.func153, by kernel_rfl, by kernel_rfl⟩ (fun G w us h => args1 h) (fun G w => ?_) (fun w => callsIn_wide.1 (cts_calls s hs ha h (Vo0 (fun b hb => (hn b hb).1)) (citF_no hn) w)); exact ⟨_, rfl, ⟨_, _, rfl, Rep_nil _ _, _, _, rfl, ⟨rfl, rfl⟩, rfl⟩⟩
end Go.Proofs.YtnpedjbgchdkbaaGreatDoor
namespace Go.Proofs.YtnpedjbgchdkbaaGreatDoor
open Go Go.Eng
def cteP (s : ByteArray) (i : Int) : (DInline × Int) := cond (cond (decide ((idxA (Zc s (Za (i + 1)) (Zb s)) (⟨#[91, 93]⟩) : Int) < 0)) true (((byt s (Za ((i + 1) + (idxA (Zc s (Za (i + 1)) (Zb s)) (⟨#[91, 93]⟩)))) : Nat) : Int) != 93)) (DInline.mk 0 (⟨#[]⟩) (⟨#[]⟩) (⟨#[]⟩) (DAttr.mk (⟨#[]⟩) ([]) ([])) ([]) ([]) ([]), 0) (cond (!(ctsP (Zc s (Za (i + 1)) (Za ((i + 1) + (idxA (Zc s (Za (i + 1)) (Zb s)) (⟨#[91, 93]⟩)))))).2) (DInline.mk 0 (⟨#[]⟩) (⟨#[]⟩) (⟨#[]⟩) (DAttr.mk (⟨#[]⟩) ([]) ([])) ([]) ([]) ([]), 0) (DInline.mk 13 (⟨#[]⟩) (⟨#[]⟩) (⟨#[]⟩) (DAttr.mk (⟨#[]⟩) ([]) ([])) ([]) ((ctsP (Zc s (Za (i + 1)) (Za ((i + 1) + (idxA (Zc s (Za (i + 1)) (Zb s)) (⟨#[91, 93]⟩)))))).1) ([]), (i + (idxA (Zc s (Za (i + 1)) (Zb s)) (⟨#[91, 93]⟩))) + 2))
theorem cteP_to (s : ByteArray) (i : Int) (hs : s.size <= 1073741824) (h0 : 0 <= i) (h1 : i < s.size) (ha : A7 s) (hcn : NoC s) : CallTo Tryz.prog 115 [(jS s), (jI i)] [] [] (.av (.tup [(Va8 ((cteP s i).1)), (vI ((cteP s i).2))])) [] [] := by
 refine BEG (fun r : (DInline × Int) => (.av (.tup [(Va8 r.1), (vI r.2)]))) (cteP s i) Tryz.func115 (by kernel_rfl) ?_; refine UF (cteP.eq_1 ..) ?_
 have := Vbe s (Za (i + 1)) (Zb s)
 have := idxA_bd (Zc s (Za (i + 1)) (Zb s)) (⟨#[91, 93]⟩); refine gO (tn 4 (kn (wrE (i + 1) (i + 1) (by omega)) (kp (show 0 <= (i + 1 : Int) /\ (i + 1 : Int) <= ((Zb s : Nat) : Int) /\ ((Zb s : Nat) : Int) <= ((Zb s : Nat) : Int) from (by omega)) (kc (idxA_to (Zc s (Za (i + 1)) (Zb s)) (⟨#[91, 93]⟩) (by omega) (by decide) (by repeat (first | assumption | (with_reducible apply A7.ext) | (with_reducible apply A7.trm) | exact A7.lit (by decide))) (by repeat (first | assumption | (with_reducible apply A7.ext) | (with_reducible apply A7.trm) | exact A7.lit (by decide)))) (tn 4 (kj (decide ((idxA (Zc s (Za (i + 1)) (Zb s)) (⟨#[91, 93]⟩) : Int) < 0)) z (tn 2 (hn (fun h => by have j0 := h.2; have j0p := of_decide_eq_false j0; exact (wrE (i + 1) (i + 1) (by omega))) (tn 1 (hn (fun h => by have j0 := h.2; have j0p := of_decide_eq_false j0; exact (wrE ((i + 1) + (idxA (Zc s (Za (i + 1)) (Zb s)) (⟨#[91, 93]⟩))) ((i + 1) + (idxA (Zc s (Za (i + 1)) (Zb s)) (⟨#[91, 93]⟩))) (by omega))) (hp (fun h => by have j0 := h.2; have j0p := of_decide_eq_false j0; exact (ib s ((i + 1) + (idxA (Zc s (Za (i + 1)) (Zb s)) (⟨#[91, 93]⟩))) (by omega))) (tn 1 z)))))) z)))))) ?_; refine CS (fun h1 => ?_) (fun h1 => ?_)
 ·refine gO (kb h1 (tn 3 z)) ?_; exact EN (by kernel_rfl)
 ·obtain ⟨h1a, h1o⟩ := Va4 h1
  have h1ap := of_decide_eq_false h1a
  have h1op := Va7 h1o
  have := Vbe s (Za (i + 1)) (Za ((i + 1) + (idxA (Zc s (Za (i + 1)) (Zb s)) (⟨#[91, 93]⟩)))); refine gO (kb h1 (tn 2 (kn (wrE (i + 1) (i + 1) (by omega)) (tn 1 (kn (wrE (i + 1) (i + 1) (by omega)) (tn 1 (kn (wrE ((i + 1) + (idxA (Zc s (Za (i + 1)) (Zb s)) (⟨#[91, 93]⟩))) ((i + 1) + (idxA (Zc s (Za (i + 1)) (Zb s)) (⟨#[91, 93]⟩))) (by omega)) (kp (show 0 <= (i + 1 : Int) /\ (i + 1 : Int) <= (i + 1) + (idxA (Zc s (Za (i + 1)) (Zb s)) (⟨#[91, 93]⟩)) /\ (i + 1) + (idxA (Zc s (Za (i + 1)) (Zb s)) (⟨#[91, 93]⟩)) <= ((Zb s : Nat) : Int) from (by omega)) (kc (cts_to (Zc s (Za (i + 1)) (Za ((i + 1) + (idxA (Zc s (Za (i + 1)) (Zb s)) (⟨#[91, 93]⟩))))) (by omega) (by repeat (first | assumption | (with_reducible apply A7.ext) | (with_reducible apply A7.trm) | exact A7.lit (by decide))) (NoC.ext hcn _ _)) (tn 7 z)))))))))) ?_; refine CS (fun h2 => ?_) (fun h2 => ?_)
  ·have h2n := nott h2; refine gO (kb h2 (tn 3 z)) ?_; exact EN (by kernel_rfl)
  ·have h2n := notf h2; refine gO (kb h2 (tn 4 (kn (wrE (i + (idxA (Zc s (Za (i + 1)) (Zb s)) (⟨#[91, 93]⟩))) (i + (idxA (Zc s (Za (i + 1)) (Zb s)) (⟨#[91, 93]⟩))) (by omega)) (kn (wrE ((i + (idxA (Zc s (Za (i + 1)) (Zb s)) (⟨#[91, 93]⟩))) + 2) ((i + (idxA (Zc s (Za (i + 1)) (Zb s)) (⟨#[91, 93]⟩))) + 2) (by omega)) (tn 2 z))))) ?_; exact EN (by kernel_rfl)
def pceP (s : ByteArray) (i : Int) : (DPiece × Bool) := cond (((byt s (Za i) : Nat) : Int) == 92) (default) (cond (cond (((byt s (Za i) : Nat) : Int) == 32) (((byt s (Za i) : Nat) : Int) == 32) (((byt s (Za i) : Nat) : Int) == 10)) (cond (cond (decide ((skpS s i : Int) >= ((Zb s : Nat) : Int))) true (((byt s (Za (skpS s i)) : Nat) : Int) != 10)) (litP s i (skpS s i), true) (cond (decide ((skpS s ((skpS s i) + 1) : Int) > 0)) (DPiece.mk 0 (DInline.mk 2 (⟨#[]⟩) (⟨#[]⟩) (⟨#[]⟩) (DAttr.mk (⟨#[]⟩) ([]) ([])) ([]) ([]) ([])) (⟨#[]⟩) 0 false false false 0 (skpS s ((skpS s i) + 1)), false) (litP s i (i + 1), true))) (cond (((byt s (Za i) : Nat) : Int) == 38) (default) (cond (((byt s (Za i) : Nat) : Int) == 36) (default) (cond (((byt s (Za i) : Nat) : Int) == 96) (default) (cond (((byt s (Za i) : Nat) : Int) == 60) (default) (cond (((byt s (Za i) : Nat) : Int) == 123) (default) (cond (((byt s (Za i) : Nat) : Int) == 91) (cond (decide (((nmdP s i).2 : Int) > 0)) (DPiece.mk 0 ((nmdP s i).1) (⟨#[]⟩) 0 false false false 0 ((nmdP s i).2), false) (cond (decide (((cteP s i).2 : Int) > 0)) (DPiece.mk 0 ((cteP s i).1) (⟨#[]⟩) 0 false false false 0 ((cteP s i).2), false) (DPiece.mk 2 (DInline.mk 0 (⟨#[]⟩) (⟨#[]⟩) (⟨#[]⟩) (DAttr.mk (⟨#[]⟩) ([]) ([])) ([]) ([]) ([])) (⟨#[]⟩) 0 false false false 0 (i + 1), false))) (cond (((byt s (Za i) : Nat) : Int) == 33) (default) (cond (((byt s (Za i) : Nat) : Int) == 93) (DPiece.mk 3 (DInline.mk 0 (⟨#[]⟩) (⟨#[]⟩) (⟨#[]⟩) (DAttr.mk (⟨#[]⟩) ([]) ([])) ([]) ([]) ([])) (⟨#[]⟩) 0 false false false 0 (i + 1), false) (cond (cond (((byt s (Za i) : Nat) : Int) == 42) (((byt s (Za i) : Nat) : Int) == 42) (cond (((byt s (Za i) : Nat) : Int) == 95) (((byt s (Za i) : Nat) : Int) == 95) (((byt s (Za i) : Nat) : Int) == 126))) (default) (litP s i (i + 1), true)))))))))))
theorem pceP_to (s : ByteArray) (i : Int) (hs : s.size <= 1073741824) (h0 : 0 <= i) (h1 : i < s.size) (ha : A7 s) (hcn : NoC s) (hk : ((byt s (Za i) : Nat) : Int) ≠ 92 /\ ((byt s (Za i) : Nat) : Int) ≠ 38 /\ ((byt s (Za i) : Nat) : Int) ≠ 36 /\ ((byt s (Za i) : Nat) : Int) ≠ 96 /\ ((byt s (Za i) : Nat) : Int) ≠ 60 /\ ((byt s (Za i) : Nat) : Int) ≠ 123 /\ ((byt s (Za i) : Nat) : Int) ≠ 33 /\ ((byt s (Za i) : Nat) : Int) ≠ 42 /\ ((byt s (Za i) : Nat) : Int) ≠ 95 /\ ((byt s (Za i) : Nat) : Int) ≠ 126) : CallTo Tryz.prog 71 [(.av (.agg [(vS s), (.rm ([]) ([])), (.rm ([]) ([]))])), (jI i)] [] [] (.av (.tup [(Vcd ((pceP s i).1)), (vB ((pceP s i).2))])) [] [] := by
 refine BEG (fun r : (DPiece × Bool) => (.av (.tup [(Vcd r.1), (vB r.2)]))) (pceP s i) Tryz.func71 (by kernel_rfl) ?_; refine UF (pceP.eq_1 ..) ?_; refine gO (tn 13 (kp (ib s i (by omega)) (tn 2 z))) ?_; refine CSe (fun h1p h1 => ?_) (fun h1p h1 => ?_)
 ·exfalso
  have := eq_of_beq h1; omega
 ·refine gO (kb h1 (tn 2 (ks (((byt s (Za i) : Nat) : Int) == 32) [28] z (tn 2 z) z))) ?_; refine CS (fun h2 => ?_) (fun h2 => ?_)
  ·have := skpS_bd s i (by omega); refine gO (kb h2 (tn 2 (kc (skpS_to s i (by omega) (by omega) (by omega)) (tn 6 (kj (decide ((skpS s i : Int) >= ((Zb s : Nat) : Int))) z (tn 2 (hp (fun h => by have j0 := h.2; have j0p := of_decide_eq_false j0; exact (ib s (skpS s i) (by omega))) (tn 1 z))) z))))) ?_; refine CS (fun h3 => ?_) (fun h3 => ?_)
   ·refine gO (kb h3 (tn 3 (kc (litP_to s i (skpS s i) (by omega) (by omega) (by omega) (by omega)) (tn 2 z)))) ?_; exact EN (by kernel_rfl)
   ·obtain ⟨h3a, h3o⟩ := Va4 h3
    have h3ap := of_decide_eq_false h3a
    have h3op := Va7 h3o
    have := skpS_bd s ((skpS s i) + 1) (by omega); refine gO (kb h3 (tn 4 (kn (wrE ((skpS s i) + 1) ((skpS s i) + 1) (by omega)) (kc (skpS_to s ((skpS s i) + 1) (by omega) (by omega) (by omega)) (kg (show CallTo Tryz.prog 104 [(.av (.agg [(vI 2), (vS (⟨#[]⟩)), (vS (⟨#[]⟩)), (vS (⟨#[]⟩)), (vS (⟨#[]⟩)), (.sl []), (.sl []), (.sl []), (.sl []), (.sl [])])), (jI (skpS s ((skpS s i) + 1))), (.ptr 7 0), (.ptr 8 0)] [(8, (.cells 3 [(jI 0)])), (7, (.cells 33 [(jI 0), (jS (⟨#[]⟩)), (jS (⟨#[]⟩)), (jS (⟨#[]⟩)), (jS (⟨#[]⟩)), .nil, .nil, .nil, .nil, .nil]))] [] (jB (decide ((skpS s ((skpS s i) + 1) : Int) > 0))) [(7, (.cells 33 (Vcq (DInline.mk 2 (⟨#[]⟩) (⟨#[]⟩) (⟨#[]⟩) (DAttr.mk (⟨#[]⟩) ([]) ([])) ([]) ([]) ([]))))), (8, (.cells 3 [(jI (skpS s ((skpS s i) + 1)))]))] [] from Vac (by kernel_rfl) (Ves (Vaf (Vas (7, 0) (1000, 0) rfl) (Vaf (Vas (8, 0) (1001, 0) rfl) (fnd0_to (DInline.mk 2 (⟨#[]⟩) (⟨#[]⟩) (⟨#[]⟩) (DAttr.mk (⟨#[]⟩) ([]) ([])) ([]) ([]) ([])) (skpS s ((skpS s i) + 1)) 0))))) trivial (tn 2 z)))))) ?_; refine CSd (fun h4p h4 => ?_) (fun h4p h4 => ?_)
    ·refine gO (kb h4 (tn 5 z)) ?_; exact EN (by kernel_rfl)
    ·refine gO (kb h4 (tn 2 (kc (nxv_to s i (by omega) (by omega) (by omega) (by repeat (first | assumption | (with_reducible apply A7.ext) | (with_reducible apply A7.trm) | exact A7.lit (by decide)))) (tn 9 (kn (wrE (i + 1) (i + 1) (by omega)) (kc (litP_to s i (i + 1) (by omega) (by omega) (by omega) (by omega)) (tn 2 z))))))) ?_; exact EN (by kernel_rfl)
  ·refine gO (kb h2 (tn 2 z)) ?_; refine CSe (fun h5p h5 => ?_) (fun h5p h5 => ?_)
   ·exfalso
    have := eq_of_beq h5; omega
   ·refine gO (kb h5 (tn 2 z)) ?_; refine CSe (fun h6p h6 => ?_) (fun h6p h6 => ?_)
    ·exfalso
     have := eq_of_beq h6; omega
    ·refine gO (kb h6 (tn 2 z)) ?_; refine CSe (fun h7p h7 => ?_) (fun h7p h7 => ?_)
     ·exfalso
      have := eq_of_beq h7; omega
     ·refine gO (kb h7 (tn 2 z)) ?_; refine CSe (fun h8p h8 => ?_) (fun h8p h8 => ?_)
      ·exfalso
       have := eq_of_beq h8; omega
      ·refine gO (kb h8 (tn 2 z)) ?_; refine CSe (fun h9p h9 => ?_) (fun h9p h9 => ?_)
       ·exfalso
        have := eq_of_beq h9; omega
       ·refine gO (kb h9 (tn 2 z)) ?_; refine CSe (fun h10p h10 => ?_) (fun h10p h10 => ?_)
        ·refine CSd (fun h11p h11 => ?_) (fun h11p h11 => ?_)
         ·refine gO (kb h10 (tn 3 (kc (nmdP_to s i (by omega) (by omega) (by omega)) (tn 2 (kg (show CallTo Tryz.prog 104 [(.av (Va8 ((nmdP s i).1))), (jI ((nmdP s i).2)), (.ptr 7 0), (.ptr 8 0)] [(8, (.cells 3 [(jI 0)])), (7, (.cells 33 [(jI 0), (jS (⟨#[]⟩)), (jS (⟨#[]⟩)), (jS (⟨#[]⟩)), (jS (⟨#[]⟩)), .nil, .nil, .nil, .nil, .nil]))] [] (jB (decide (((nmdP s i).2 : Int) > 0))) [(7, (.cells 33 (Vcq ((nmdP s i).1)))), (8, (.cells 3 [(jI ((nmdP s i).2))]))] [] from Vac (by kernel_rfl) (Ves (Vaf (Vas (7, 0) (1000, 0) rfl) (Vaf (Vas (8, 0) (1001, 0) rfl) (fnd0_to ((nmdP s i).1) ((nmdP s i).2) 0))))) trivial (tn 1 (kb h11 (kb h11 (kb h11 (kb h11 (kb h11 (kb h11 (kb h11 (kb h11 (kb tt (tn 2 (kb h11 (tn 5 z)))))))))))))))))) ?_; exact EN (by kernel_rfl)
         ·refine gO (kb h10 (tn 3 (kc (nmdP_to s i (by omega) (by omega) (by omega)) (tn 2 (kg (show CallTo Tryz.prog 104 [(.av (Va8 ((nmdP s i).1))), (jI ((nmdP s i).2)), (.ptr 7 0), (.ptr 8 0)] [(8, (.cells 3 [(jI 0)])), (7, (.cells 33 [(jI 0), (jS (⟨#[]⟩)), (jS (⟨#[]⟩)), (jS (⟨#[]⟩)), (jS (⟨#[]⟩)), .nil, .nil, .nil, .nil, .nil]))] [] (jB (decide (((nmdP s i).2 : Int) > 0))) [(7, (.cells 33 (Vcq ((nmdP s i).1)))), (8, (.cells 3 [(jI ((nmdP s i).2))]))] [] from Vac (by kernel_rfl) (Ves (Vaf (Vas (7, 0) (1000, 0) rfl) (Vaf (Vas (8, 0) (1001, 0) rfl) (fnd0_to ((nmdP s i).1) ((nmdP s i).2) 0))))) trivial (tn 1 (kb h11 (tn 1 (kb h11 (tn 1 (kb h11 (tn 1 (kb h11 (kc (cteP_to s i (by omega) (by omega) (by omega) (by repeat (first | assumption | (with_reducible apply A7.ext) | (with_reducible apply A7.trm) | exact A7.lit (by decide))) hcn) (kb h11 (tn 1 (kb h11 (tn 1 (kb h11 (kg (show CallTo Tryz.prog 104 [(.av (Va8 ((cteP s i).1))), (jI ((cteP s i).2)), (.ptr 7 0), (.ptr 8 0)] [(8, (.cells 3 [(jI ((nmdP s i).2))])), (7, (.cells 33 (Vcq ((nmdP s i).1))))] [] (jB (decide (((cteP s i).2 : Int) > 0))) [(7, (.cells 33 (Vcq ((cteP s i).1)))), (8, (.cells 3 [(jI ((cteP s i).2))]))] [] from Vac (by kernel_rfl) (Ves (Vaf (Vas (7, 0) (1000, 0) rfl) (Vaf (Vas (8, 0) (1001, 0) rfl) (fnd1_to ((nmdP s i).1) ((cteP s i).1) ((cteP s i).2) ((nmdP s i).2)))))) trivial (kb h11 z))))))))))))))))))))) ?_; refine CSd (fun h12p h12 => ?_) (fun h12p h12 => ?_)
          ·refine gO (kb h12 (tn 2 (kb h12 (tn 5 z)))) ?_; exact EN (by kernel_rfl)
          ·refine gO (kb h12 (tn 1 (kn (wrE (i + 1) (i + 1) (by omega)) (tn 3 z)))) ?_; exact EN (by kernel_rfl)
        ·refine gO (kb h10 (tn 2 z)) ?_; refine CSe (fun h13p h13 => ?_) (fun h13p h13 => ?_)
         ·exfalso
          have := eq_of_beq h13; omega
         ·refine gO (kb h13 (tn 2 z)) ?_; refine CSe (fun h14p h14 => ?_) (fun h14p h14 => ?_)
          ·refine gO (kb h14 (tn 1 (kn (wrE (i + 1) (i + 1) (by omega)) (tn 3 z)))) ?_; exact EN (by kernel_rfl)
          ·refine gO (kb h14 (tn 2 (ks (((byt s (Za i) : Nat) : Int) == 42) [157] z (tn 2 (ks (((byt s (Za i) : Nat) : Int) == 95) [157] z (tn 2 z) z)) z))) ?_; refine CS (fun h15 => ?_) (fun h15 => ?_)
           ·exfalso
            have a42 : (((byt s (Za i) : Nat) : Int) == 42) = false := beq_false_of_ne (by omega)
            have a95 : (((byt s (Za i) : Nat) : Int) == 95) = false := beq_false_of_ne (by omega)
            have a126 : (((byt s (Za i) : Nat) : Int) == 126) = false := beq_false_of_ne (by omega); rw [a42, a95, a126] at h15; exact absurd h15 (by decide)
           ·refine gO (kb h15 (tn 2 (kb ff (tn 2 (kc (nxv_to s i (by omega) (by omega) (by omega) (by repeat (first | assumption | (with_reducible apply A7.ext) | (with_reducible apply A7.trm) | exact A7.lit (by decide)))) (tn 9 (kn (wrE (i + 1) (i + 1) (by omega)) (kc (litP_to s i (i + 1) (by omega) (by omega) (by omega) (by omega)) (tn 2 z))))))))) ?_; exact EN (by kernel_rfl)
end Go.Proofs.YtnpedjbgchdkbaaGreatDoor
namespace Go.Eng
variable {P : Program}
def Vi9 (ops : Array Oper) (n : Nat) : Nat -> Array Bool -> Bool
  | 0, L => (Zn n).all (fun i => L.getD i false) && Region.seqB .any ops (ops.size - n) n L
  | f + 1, L => !(Region.ready .any ops L).isEmpty && (Region.ready .any ops L).all (fun i => (decide (i < n) && Vi9 ops n f (L.setIfInBounds i true)) ||
      (decide (i = n) && decide (f = 0) && !L.getD 0 false && (Zn n).all (fun i => decide (i = 0) || L.getD i false) && decide (Region.ready .any ops (L.setIfInBounds n true) = [0]) && Region.seqB .any ops (ops.size - (n + 1)) (n + 1) ((L.setIfInBounds n true).setIfInBounds 0 true)))
def opdOk (ds : List Nat) (i : Nat) (o : Oper) : Operand -> Bool
 | .tmp t => !ds.contains t || o.after.toList.any (fun e => Region.binds .any e && decide (e.on < i) && (ds[e.on]? == some t))
 | _ => true
def Vkd (P : Program) (ds : List Nat) : Nat -> List Oper -> St -> Option (List Prop × St)
 | _, [], S => some ([], S)
 | i, o :: rest, S => match o.guard, o.dst with
  | none, some d => match still o.op && Vc0 o.op && !opVs o S && decide (ds[i]? = some d) && decide (d < S.fr.length) && o.op.operands.toList.all (opdOk ds i o), Vaw P o S with
   | true, some r => match Vkd P ds (i + 1) rest (S.put (some d) r.v) with
    | some (cs, S') => some (r.ok :: cs, S')
    | none => none
   | _, _ => none
  | _, _ => none
theorem Vpu {ds : List Nat} : ∀ (l : List Oper) (i : Nat) (S Sc : St) (cs : List Prop), Vkd P ds i l S = some (cs, Sc) -> Sc.fr.length = S.fr.length /\ Sc.bx = S.bx /\ Sc.gn = S.gn
 | [], i, S, Sc, cs, h => by simp only [Vkd, Zf, Zj] at h; obtain ⟨_, rfl⟩ := h; exact ⟨rfl, rfl, rfl⟩
 | o :: rest, i, S, Sc, cs, h => by
  unfold Vkd at h
  split at h
  ·split at h
   ·split at h
    ·rename_i h2; simp only [Zf, Zj] at h; obtain ⟨_, rfl⟩ := h; obtain ⟨q1, q2, q3⟩ := Vpu rest _ _ _ _ h2; exact ⟨by rw [q1]; simp [St.put], q2, q3⟩
    ·simp at h
   ·simp at h
  ·simp at h
theorem Vgf {ds : List Nat} : ∀ (l : List Oper) (i : Nat) (S Sc : St) (cs : List Prop), Vkd P ds i l S = some (cs, Sc) -> ∀ t : Nat, (∀ j, i <= j -> j < i + l.length -> ds[j]? ≠ some t) -> Sc.fr[t]? = S.fr[t]?
 | [], i, S, Sc, cs, h, t, ht => by simp only [Vkd, Zf, Zj] at h; obtain ⟨_, rfl⟩ := h; rfl
 | o :: rest, i, S, Sc, cs, h, t, ht => by
  unfold Vkd at h
  split at h
  ·rename_i d hg hd
   split at h
   ·rename_i r hc ha; simp only [Zg, decide_eq_true_eq] at hc
    split at h
    ·rename_i h2; simp only [Zf, Zj] at h; obtain ⟨_, rfl⟩ := h; rw [Vgf rest (i + 1) _ _ _ h2 t (fun j h1 h3 => ht j (by omega) (by simp only [Zv]; omega))]
     have : d ≠ t := fun e => ht i (Zk _) (by simp) (by rw [<- e]; exact hc.1.1.2)
     simp only [St.put, Zq]; rw [if_neg this]
    ·simp at h
   ·simp at h
  ·simp at h
theorem headL_at {ds : List Nat} (hnd : ds.Nodup) : ∀ (l : List Oper) (i : Nat) (S Sc : St) (cs : List Prop), Vkd P ds i l S = some (cs, Sc) -> All cs -> ∀ (k : Nat) (o : Oper), l[k]? = some o ->
  ∃ (d : Nat) (Si : St) (p : Prop) (v : SV), o.guard = none /\ o.dst = some d /\ ds[i + k]? = some d /\ d < S.fr.length /\ still o.op = true /\ Vc0 o.op = true /\ opVs o Si = false /\ Vaw P o Si = some ⟨p, v, Si⟩ /\ p /\ Sc.fr[d]? = some v /\ Si.bx = S.bx /\ Si.gn = S.gn /\
   (∀ x ∈ o.op.operands, opdOk ds (i + k) o x = true) /\ (∀ t : Nat, (∀ j, i <= j -> j < i + k -> ds[j]? ≠ some t) -> Si.fr[t]? = S.fr[t]?) /\ (∀ j d', i <= j -> j < i + k -> ds[j]? = some d' -> Si.fr[d']? = Sc.fr[d']?)
 | [], i, S, Sc, cs, h, hc, k, o, ho => by simp at ho
 | o' :: rest, i, S, Sc, cs, h, hc, k, o, ho => by
  have hall := h; unfold Vkd at h
  split at h
  ·rename_i d hg hd
   split at h
   ·rename_i r hx ha; simp only [Zg, decide_eq_true_eq, Zm] at hx; obtain ⟨⟨⟨⟨⟨x1, x2⟩, x3⟩, x4⟩, x5⟩, x6⟩ := hx
    split at h
    ·rename_i cs2 S2 h2; simp only [Zf, Zj] at h; obtain ⟨rfl, rfl⟩ := h
     have hst := Vek ha x1
     have hother : ∀ t : Nat, (∀ j, i + 1 <= j -> j < i + 1 + rest.length -> ds[j]? ≠ some t) -> S2.fr[t]? = (S.put (some d) r.v).fr[t]? := Vgf rest _ _ _ _ h2
     have hput : (S.put (some d) r.v).fr[d]? = some r.v := by simp only [St.put, Zq]; simp [x5]
     have hdn : ∀ j, ds[j]? = some d -> j = i := fun j hj => by
      have h1 := Z5.1 hj
      have h3 := Z5.1 x4; obtain ⟨g1, g2⟩ := h1; obtain ⟨g3, g4⟩ := h3
      have hp := List.pairwise_iff_getElem.1 hnd; rcases Nat.lt_trichotomy j i with hlt | he | hlt
      ·exact absurd (g2.trans g4.symm) (hp j i g1 g3 hlt)
      ·exact he
      ·exact absurd (g4.trans g2.symm) (hp i j g3 g1 hlt)
     cases k with
     | zero =>
      simp only [List.getElem?_cons_zero, Zf] at ho; subst ho; refine ⟨d, S, r.ok, r.v, hg, hd, x4, x5, x1, x2, x3, by rw [ha, res_self hst], hc.1, ?_, rfl, rfl, fun x hx => Ze.1 x6 x (by simpa using hx), fun t _ => rfl, fun j d' h3 h4 => by omega⟩; rw [hother d (fun j h3 _ h5 => by have := hdn j h5; omega)]; exact hput
     | succ k =>
      simp only [List.getElem?_cons_succ] at ho; obtain ⟨d2, Si, p, v, y1, y2, y3, y4, y5, y6, y7, y8, y9, y10, y11, y12, y13, y14, y15⟩ := headL_at hnd rest (i + 1) _ _ _ h2 hc.2 k o ho
      have e : i + 1 + k = i + (k + 1) := by omega
      rw [e] at y3 y13 y14 y15; refine ⟨d2, Si, p, v, y1, y2, y3, by simpa [St.put] using y4, y5, y6, y7, y8, y9, y10, y11, y12, y13, fun t ht => ?_, fun j d' h3 h4 h5 => ?_⟩
      ·rw [y14 t (fun j h3 h4 => ht j (by omega) h4)]
       have : d ≠ t := fun e => ht i (Zk _) (by omega) (by rw [<- e]; exact x4)
       simp only [St.put, Zq]; rw [if_neg this]
      ·by_cases hj : j = i
       ·subst hj; rw [x4] at h5; simp only [Zf] at h5; subst h5; rw [y14 d (fun j h6 _ h8 => by have := hdn j h8; omega), hput, hother d (fun j h6 _ h8 => by have := hdn j h8; omega), hput]
       ·exact y15 j d' (by omega) h4 h5
    ·simp at h
   ·simp at h
  ·simp at h
def slot0 (S Sc : St) (d : Nat) : St := { Sc with fr := Sc.fr.set d (S.fr.getD d .junk) }
def Vjw (P : Program) (ops : Array Oper) (n : Nat) (S : St) : Option (List Prop × St × St) :=
 match Vkd P (ops.toList.filterMap (·.dst)) 0 (ops.toList.take n) S, ops[n]?, ops[0]? with
 | some (c1, Sc), some o, some o0 => match o.guard, o.dst, o0.dst with
  | none, some dn, some d0 => match Vaw P o Sc, Vaw P o (slot0 S Sc d0) with
   | some r, some r0 => match Vaw P o0 (r0.st.put (some dn) r0.v) with
    | some q => match Vcs P (ops.toList.map (·.dst)) (ops.toList.drop (n + 1)) [] (r.st.put (some dn) r.v) with
     | some (c2, _, T) => some (c1 ++ (r.ok :: r0.ok :: q.ok :: c2), T, (q.st.put (some d0) q.v))
     | none => none
    | none => none
   | _, _ => none
  | _, _, _ => none
 | _, _, _ => none
def pushMid (P : Program) (ops : Array Oper) (n : Nat) (S : St) : Option St :=
 match Vkd P (ops.toList.filterMap (·.dst)) 0 (ops.toList.take n) S, ops[n]? with
 | some (_, Sc), some o => (Vaw P o Sc).map (fun r => r.st.put o.dst r.v)
 | _, _ => none
def pushOk (ops : Array Oper) (n : Nat) : Bool := Vi9 ops n n (Zt ops.size false) && decide ((ops.toList.filterMap (·.dst)).Nodup) && decide (0 < n) && decide (n < ops.size)
theorem W_pushR {id : Nat} {ops : Array Oper} {S T T0 : St} {cs : List Prop} (n : Nat) (hm : P.follows .mixedOrders = true) (hB : pushOk ops n = true) (h : Vjw P ops n S = some (cs, T, T0)) (hmid : pushMid P ops n S = some T0) (hc : All cs) : W P (.region id ops true) (fun e S1 => e = .normal /\ S1 = T) S := by
 simp only [pushOk, Zg, decide_eq_true_eq] at hB; obtain ⟨⟨⟨hB, hnd⟩, hn0⟩, hnlt⟩ := hB; obtain ⟨ds, hds⟩ : ∃ ds, ops.toList.filterMap (·.dst) = ds := ⟨_, rfl⟩
 unfold Vjw at h; unfold pushMid at hmid; rw [hds] at hnd h hmid
 split at h
 case h_2 => simp at h
 rename_i c1 Sc on o0 hh hon ho0; rw [hh, hon] at hmid; simp only at h hmid
 split at h
 case h_2 => simp at h
 rename_i dn d0 hgn hdn hd0
 split at h
 case h_2 => simp at h
 rename_i r r0 har har0
 split at h
 case h_2 => simp at h
 rename_i q haq
 split at h
 case h_2 => simp at h
 rename_i c2 ors2 T2 hrun; simp only [Zf, Zj] at h; obtain ⟨rfl, rfl, hT0⟩ := h; rw [har, hdn] at hmid; simp only [Option.map_some, Zf] at hmid
 have hTe : q.st.put (some d0) q.v = r.st.put (some dn) r.v := by rw [hT0, hmid]
 obtain ⟨hc1, hcr, hcr0, hcq, hc2⟩ := Vau hc; obtain ⟨hlen, hbx, hgn2⟩ := Vpu _ _ _ _ _ hh
 have hat := headL_at hnd _ _ _ _ _ hh hc1
 have hoth := Vgf _ _ _ _ _ hh
 have htake : ∀ k, k < n -> (ops.toList.take n)[k]? = ops[k]? := fun k hk => by simp [List.getElem?_take, hk]
 have hltl : (ops.toList.take n).length = n := by simp; omega
 have hhead : ∀ i, i < n -> ∀ o, ops[i]? = some o -> ∃ (d : Nat) (Si : St) (p : Prop) (v : SV), o.guard = none /\ o.dst = some d /\ ds[i]? = some d /\ d < S.fr.length /\ still o.op = true /\ Vc0 o.op = true /\ opVs o Si = false /\ Vaw P o Si = some ⟨p, v, Si⟩ /\ p /\ Sc.fr[d]? = some v /\ Si.bx = S.bx /\ Si.gn = S.gn /\
   (∀ x ∈ o.op.operands, opdOk ds i o x = true) /\ (∀ t : Nat, (∀ j, j < i -> ds[j]? ≠ some t) -> Si.fr[t]? = S.fr[t]?) /\ (∀ j d', j < i -> ds[j]? = some d' -> Si.fr[d']? = Sc.fr[d']?) := by
  intro i hi o ho; obtain ⟨d, Si, p, v, y1, y2, y3, y4, y5, y6, y7, y8, y9, y10, y11, y12, y13, y14, y15⟩ := hat i o ((htake i hi).trans ho); simp only [Nat.zero_add] at y3 y13 y14 y15; exact ⟨d, Si, p, v, y1, y2, y3, y4, y5, y6, y7, y8, y9, y10, y11, y12, y13, fun t ht => y14 t (fun j _ hj => ht j hj), fun j d' hj => y15 j d' (Nat.zero_le _) hj⟩
 have hdn' : ∀ (i j t : Nat), ds[i]? = some t -> ds[j]? = some t -> i = j := by
  intro i j t hi hj; obtain ⟨g1, g2⟩ := Z5.1 hi; obtain ⟨g3, g4⟩ := Z5.1 hj
  have hp := List.pairwise_iff_getElem.1 hnd; rcases Nat.lt_trichotomy i j with hlt | he | hlt
  ·exact absurd (g2.trans g4.symm) (hp i j g1 g3 hlt)
  ·exact he
  ·exact absurd (g4.trans g2.symm) (hp j i g3 g1 hlt)
 intro G0 w0 a0 hr0; obtain ⟨hstep0, hr0'⟩ := hr0.draw; apply wp_region_any hm
 -- the chain behind
 have tail : ∀ (L : Array Bool) (G : Gh) (w : World) (a : Act), Region.seqB .any ops (ops.size - (n + 1)) (n + 1) L = true -> Rel G w (r.st.put (some dn) r.v) a -> Step G0 w0 G w -> (∀ i, Fx i -> G.ow (i, 0) = G0.ow (i, 0)) ->
   wpAny P .any ops (lift (fun e S1 => e = .normal /\ S1 = T2) G0 w0) (ops.size - (n + 1)) L a w := by
  intro L G w a hs hr hst how
  have hl : (ops.toList.drop (n + 1)).length = ops.size - (n + 1) := by simp
  have := wpAny_of_seq (md := .any) (ops.toList.drop (n + 1)) (n + 1) L a w (fun j => by simp [List.getElem?_drop]) (by rw [hl]; exact hs)
   (Vda _ _ _ _ _ _ hrun hc2 G w a hr (lift (fun e S1 => e = .normal /\ S1 = T2) G0 w0) (fun G' a' w' q1 q2 q3 => ⟨T2, G', ⟨rfl, rfl⟩, hst.trans q1, q2, fun i hi => (q3 i hi).trans (how i hi)⟩))
  rwa [hl] at this
 have one : ∀ (o : Oper) (S' : St) (p : Res) (i f : Nat) (L : Array Bool) (G : Gh) (w : World) (a : Act), ops[i]? = some o -> o.guard = none -> Vaw P o S' = some p -> p.ok -> Rel G w S' a -> Step G0 w0 G w -> (∀ i, Fx i -> G.ow (i, 0) = G0.ow (i, 0)) ->
   (∀ G' w' a', Rel G' w' (p.st.put o.dst p.v) a' -> Step G0 w0 G' w' -> (∀ i, Fx i -> G'.ow (i, 0) = G0.ow (i, 0)) -> wpAny P .any ops (lift (fun e S1 => e = .normal /\ S1 = T2) G0 w0) f L a' w') ->
   wpOp P ops (lift (fun e S1 => e = .normal /\ S1 = T2) G0 w0) i (wpAny P .any ops (lift (fun e S1 => e = .normal /\ S1 = T2) G0 w0) f L) a w := by
  intro o S' p i f L G w a ho hg hast hp hr hst how hnext; obtain ⟨nx, u, w', G', x1, x2, x3, x4, x5, x6⟩ := Vb9 hast hp G w a hr; unfold wpOp; simp only [ho]; rw [if_pos (Vao hg a)]; refine .inl ?_
  have fin := hnext G' w' (a.put o.dst u) (x4.put o.dst x5) (hst.trans x3) (fun i hi => (x6 i hi).trans (how i hi)); unfold Oper.wp; rw [x1]; rcases x2 with rfl | ⟨rfl, rfl⟩
  ·rw [Oper.upon_value]; exact fin
  ·rw [Oper.upon_skip]; exact fin
 have main : ∀ (f : Nat) (L : Array Bool) (G : Gh) (w : World) (a : Act) (S' : St), Vi9 ops n f L = true -> L.size = ops.size -> S'.bx = S.bx -> S'.gn = S.gn -> S'.fr.length = S.fr.length ->
   (∀ j d, j < n -> L.getD j false = true -> ds[j]? = some d -> S'.fr[d]? = Sc.fr[d]?) -> (∀ t : Nat, (∀ j, j < n -> L.getD j false = true -> ds[j]? ≠ some t) -> S'.fr[t]? = S.fr[t]?) -> Rel G w S' a -> Step G0 w0 G w -> (∀ i, Fx i -> G.ow (i, 0) = G0.ow (i, 0)) ->
   wpAny P .any ops (lift (fun e S1 => e = .normal /\ S1 = T2) G0 w0) (f + (ops.size - n)) L a w := by
  intro f
  induction f with
  | zero =>
   intro L G w a S' hb hsz h1 h2 h3 h4 h5 hr hst how; simp only [Vi9, Zg] at hb; obtain ⟨hall, hseq⟩ := hb
   have hall' : ∀ j, j < n -> L.getD j false = true := fun j hj => Ze.1 hall j (Zr.2 hj)
   have hSS : S' = Sc := by
    have hfr : S'.fr = Sc.fr := by
     apply List.ext_getElem?; intro t
     by_cases ht : ∃ j, j < n /\ ds[j]? = some t
     ·obtain ⟨j, hj, hjt⟩ := ht; exact h4 j t hj (hall' j hj) hjt
     ·have ht' : ∀ j, j < n -> ds[j]? ≠ some t := fun j hj e => ht ⟨j, hj, e⟩
      rw [h5 t (fun j hj _ => ht' j hj), hoth t (fun j _ hj => ht' j (by omega))]
    obtain ⟨f1, b1, g1⟩ := S'; obtain ⟨f2, b2, g2⟩ := Sc; simp only at hfr h1 h2 hbx hgn2; rw [hfr, h1, h2, hbx, hgn2]
   subst hSS
   have hl : (ops.toList.drop n).length = ops.size - n := by simp
   have hdrop : ops.toList.drop n = on :: ops.toList.drop (n + 1) := by
    have hlt : n < ops.toList.length := by simpa using hnlt
    rw [List.drop_eq_getElem_cons hlt]
    have : ops.toList[n] = on := by
     have h9 : ops[n]? = some ops[n] := Zp hnlt; rw [hon] at h9; simp only [Zf] at h9; simpa using h9.symm
    rw [this]
   have hw : WO P ops (ops.toList.drop n) (fun S1 => S1 = T2) S' := by
    rw [hdrop]; refine Vc8 hgn (Vb9 har) hcr ?_; rw [hdn]; intro more Q' G2 w2 a2 hr2 hq2; exact Vbq _ _ _ _ _ _ hrun hc2 G2 w2 a2 hr2 Q' (fun G3 a3 w3 q1 q2 q3 => hq2 T2 G3 a3 w3 rfl q1 q2 q3)
   have hw2 := hw [] (lift (fun e S1 => e = .normal /\ S1 = T2) G0 w0) G w a hr (fun S2 G2 a2 w2 q1 q2 q3 q4 => ⟨S2, G2, ⟨rfl, q1⟩, hst.trans q2, q3, fun i hi => (q4 i hi).trans (how i hi)⟩); rw [List.append_nil] at hw2; rw [Nat.zero_add]
   have := wpAny_of_seq (md := .any) (ops.toList.drop n) n L a w (fun j => by simp [List.getElem?_drop]) (by rw [hl]; exact hseq) hw2; rwa [hl] at this
  | succ f ih =>
   intro L G w a S' hb hsz h1 h2 h3 h4 h5 hr hst how; simp only [Vi9, Zg, Zm, List.isEmpty_eq_false_iff] at hb; obtain ⟨hne, hall⟩ := hb; rw [show f + 1 + (ops.size - n) = (f + (ops.size - n)) + 1 by omega]; refine ⟨fun h0 => absurd h0 hne, fun i hi => ?_⟩
   have hi2 := Ze.1 hall i hi; simp only [Z2, Zg, decide_eq_true_eq, Zm] at hi2; obtain ⟨hun, o, ho, hdep⟩ := mem_ready.1 hi
   have hlisted : i < L.size := by rw [hsz]; exact (Zi.1 ho).1
   rcases hi2 with ⟨hin, hbi⟩ | ⟨⟨⟨⟨⟨rfl, rfl⟩, hl0⟩, hlall⟩, hrdy⟩, hseq⟩
   ·obtain ⟨d, Si, p, v, y1, y2, y3, y4, y5, y6, y7, y8, y9, y10, y11, y12, y13, y14, y15⟩ := hhead i hin o ho
    have hast : Vaw P o S' = some ⟨p, v, S'⟩ := by
     obtain ⟨f1, b1, g1⟩ := S'; obtain ⟨f2, b2, g2⟩ := Si; simp only at h1 h2 y11 y12; subst h1 h2 y11 y12
     have := Vel (fr' := f1) y6 y7 (fun x hx => ?_) y8
     ·rw [this]; rfl
     ·have hok := y13 x hx; cases x with
      | tmp t =>
       simp only [opdOk, Z2, Zm, List.any_eq_true, Zg, decide_eq_true_eq, beq_iff_eq] at hok; simp only [St.ev, Zu]; congr 1; rcases hok with hok | ⟨e, he, ⟨hbe, hel⟩, het⟩
       ·have hnt : ∀ j : Nat, ds[j]? ≠ some t := fun j hj => by
         have := Zx hj; rw [List.contains_eq_mem] at hok; simp [this] at hok
        rw [y14 t (fun j _ => hnt j), h5 t (fun j _ _ => hnt j)]
       ·have hle := hdep e (by simpa using he) hbe; rw [y15 e.on t hel het, h4 e.on t (by omega) hle het]
      | _ => rfl
    refine one o S' _ i _ _ G w a ho y1 hast y9 hr hst how (fun G' w' a' hr' hst' how' => ?_); rw [y2] at hr'; refine ih _ G' w' a' (S'.put (some d) v) hbi (by simp [hsz]) h1 h2 (by simp [St.put, h3]) (fun j d' hj hl hd' => ?_) (fun t ht => ?_) hr' hst' how'
    ·simp only [St.put, Zq]
     by_cases hji : d = d'
     ·subst hji; rw [if_pos rfl, if_pos (by rw [h3]; exact y4), y10]
     ·rw [if_neg hji]
      have hij : i ≠ j := fun e => hji (by rw [e] at y3; rw [y3] at hd'; exact Option.some.inj hd')
      refine h4 j d' hj ?_ hd'; rw [<- hl]; simp only [Zd]; rw [Zh hij]
    ·have hdt : d ≠ t := fun e => ht i hin (by simp [Zd, hlisted]) (by rw [<- e]; exact y3)
     simp only [St.put, Zq]; rw [if_neg hdt]; refine h5 t (fun j hj hl => ht j hj ?_); simp only [Zd] at hl ⊢
     by_cases hij : i = j
     ·subst hij; simp [hlisted]
     ·rw [Zh hij]; exact hl
   ·obtain rfl : on = o := Option.some.inj (hon.symm.trans ho); obtain ⟨d, Si, p, v, y1, y2, y3, y4, y5, y6, y7, y8, y9, y10, y11, y12, y13, y14, y15⟩ := hhead 0 hn0 o0 ho0; rw [hd0] at y2; simp only [Zf] at y2; subst y2
    have hall' : ∀ j, j < i -> j ≠ 0 -> L.getD j false = true := fun j hj h0 => by
     have := Ze.1 hlall j (Zr.2 hj); simp only [Z2, decide_eq_true_eq] at this; exact this.resolve_left h0
    have hSS : S' = slot0 S Sc d0 := by
     have hfr : S'.fr = Sc.fr.set d0 (S.fr.getD d0 .junk) := by
      apply List.ext_getElem?; intro t; rw [Zq]
      by_cases htd : d0 = t
      ·subst htd; rw [if_pos rfl, if_pos (by omega), h5 d0 (fun j hj hl hjd => ?_)]
       ·simp [y4]
       ·have := hdn' j 0 d0 hjd y3; subst this; rw [hl0] at hl; cases hl
      ·rw [if_neg htd]
       by_cases ht : ∃ j, j < i /\ ds[j]? = some t
       ·obtain ⟨j, hj, hjt⟩ := ht; refine h4 j t hj (hall' j hj (fun h0 => ?_)) hjt; subst h0; rw [y3] at hjt; exact htd (Option.some.inj hjt)
       ·have ht' : ∀ j, j < i -> ds[j]? ≠ some t := fun j hj e => ht ⟨j, hj, e⟩
        rw [h5 t (fun j hj _ => ht' j hj), hoth t (fun j _ hj => ht' j (by omega))]
     obtain ⟨f1, b1, g1⟩ := S'; obtain ⟨f2, b2, g2⟩ := Sc; simp only at hfr h1 h2 hbx hgn2; simp only [slot0]; rw [hfr, h1, h2, hbx, hgn2]
    subst hSS; refine one on _ _ i _ _ G w a hon hgn har0 hcr0 hr hst how (fun G' w' a' hr' hst' how' => ?_); rw [hdn] at hr'
    have hsz1 : 0 + (ops.size - i) = (ops.size - (i + 1)) + 1 := by omega
    rw [hsz1]; refine ⟨fun h0 => (by rw [hrdy] at h0; cases h0), fun k hk => ?_⟩; rw [hrdy] at hk; obtain rfl : k = 0 := by simpa using hk
    refine one o0 _ _ 0 _ _ G' w' a' ho0 y1 haq hcq hr' hst' how' (fun G2 w2 a2 hr2 hst2 how2 => ?_); rw [hd0, hTe] at hr2; exact tail _ G2 w2 a2 hseq hr2 hst2 how2
 have := main n (Zt ops.size false) G0 _ a0 S hB (by simp) rfl rfl rfl (fun j d _ hl => by rw [getD_replicate_false] at hl; cases hl) (fun _ _ => rfl) hr0' hstep0 (fun _ _ => rfl); rwa [show n + (ops.size - n) = ops.size by omega] at this
end Go.Eng
namespace Go.Eng
open Go
section
variable {P : Program} {α : Type}
def KQ (P : Program) (fn : Func) (enc : α -> SV) (bxf : α -> List (Nat × ABox)) (gnf : α -> List (Key × Nat)) (M : α) : Exit -> St -> Prop := Ends P fn (enc M) (bxf M) (gnf M)
theorem ENk {fn : Func} {enc : α -> SV} {bxf : α -> List (Nat × ABox)} {gnf : α -> List (Key × Nat)} {M : α} {X : Cf} (h : Vlr P fn X = some (enc M)) (hb : (bxf M).map (fun p => (stOf X).bx.lookup p.1) = (bxf M).map (fun p => some p.2)) (hg : (gnf M).map (fun p => (stOf X).gen p.1) = (gnf M).map (·.2)) : Nx P (KQ P fn enc bxf gnf) M X := by
 have hb' : ∀ p ∈ bxf M, (stOf X).bx.lookup p.1 = some p.2 := fun p hp => List.map_inj_left.1 hb p hp
 have hg' : ∀ p ∈ gnf M, (stOf X).gen p.1 = p.2 := fun p hp => List.map_inj_left.1 hg p hp
 unfold Vlr at h
 split at h
 ·exact ⟨ends (.inl rfl) h rfl hb' hg'⟩
 ·exact ⟨ends (.inr rfl) h rfl hb' hg'⟩
 ·simp at h
def ABox.toK : ABox -> ABox
 | .vec e sz l => .vck e sz l
 | x => x
theorem toK_rep {G : Gh} {w : World} {id : Nat} {x : ABox} (h : RepB G w id x) : RepB G w id x.toK := by cases x <;> exact h
def kept (bx : List (Nat × ABox)) : List (Nat × ABox) := bx.map (fun p => (p.1, p.2.toK))
theorem BEGv (enc : α -> SV) (bxf : α -> List (Nat × ABox)) (gnf : α -> List (Key × Nat)) (M : α) {f : FuncId} {fn : Func} {args : List SV} {bx : List (Nat × ABox)} {gn : List (Key × Nat)} (hf : P.funcs[f]? = some fn) (hok : (Vpj fn args bx gn (enc M) (bxf M) (gnf M) && (bxf M).all (fun p => decide (p.1 < 2000))) = true)
  (h : Nx P (KQ P fn enc bxf gnf) M (Vhd (Vbk fn) ⟨args ++ List.replicate (fn.ntmps - args.length) .junk, bx, gn⟩)) : CallTo P f args bx gn (enc M) (kept (bxf M)) (gnf M) := by
 rw [Zg] at hok; obtain ⟨hok, hlo⟩ := hok; simp only [Vpj, Zg, decide_eq_true_eq, Zm, beq_iff_eq] at hok; obtain ⟨⟨⟨⟨⟨⟨⟨⟨⟨⟨⟨h1, h2⟩, h3⟩, h4⟩, h5⟩, h6⟩, h7⟩, h8⟩, h9⟩, h10⟩, h11⟩, h12⟩ := hok; obtain ⟨c, hb⟩ := Z7.1 h1
 have e : Vbk fn = c := by simp [Vbk, hb]
 have hk1 : (kept (bxf M)).map (·.1) = (bxf M).map (·.1) := by simp [kept]
 refine Vfr (bx1 := bxf M) hf hb h2 rfl h3 (fun p hp => ?_) (fun p hp => ?_) (fun s hs => Ved (Ze.1 h6 s hs)) (Vm7 h7) (Ved h8) (Vm7 h9) (hk1.trans h10) h11 ?_ (fun p hp => ?_) (fun p hp => ?_)
 ·have := Ze.1 h4 p hp; simpa using this
 ·have := Ze.1 h5 p hp; simpa using this
 ·rw [<- e]; refine Vqz h.x (fun e S hE => ?_); cases e with
  | normal => obtain ⟨⟨keep, h1⟩, h2, h3⟩ := hE; exact ⟨⟨keep, _, h1, .inl rfl⟩, h2, h3⟩
  | ret => obtain ⟨⟨keep, h1⟩, h2, h3⟩ := hE; exact ⟨⟨keep, _, h1, .inl rfl⟩, h2, h3⟩
  | _ => exact hE.elim
 ·simp only [kept, Ya] at hp; obtain ⟨q, hq, rfl⟩ := hp
  have := Ze.1 hlo q hq; exact .inl (by simpa using this)
 ·simp only [kept, Ya] at hp; obtain ⟨q, hq, rfl⟩ := hp; exact ⟨q.2, hq, fun _ _ h => toK_rep h⟩
theorem ghost_tellB {S : St} {c k b e sz : Nat} (hs : Vml S c k = .nil) (hb : b < 1000 \/ 2000 <= b) (hn : S.names b = false) : Vr6 S ((Vf3 S c k (.vs b 0)).addBox b (.vec e sz [])) := by
 intro G w a hr
 let G' : Gh := { G with ow := fun κ => if κ = (b, 0) then none else G.ow κ }
 have how : ∀ κ c, G'.ow κ = some c -> G.ow κ = some c := by
  intro κ c h; simp only [G'] at h
  split at h
  ·cases h
  ·exact h
 have hkp : ∀ κ, κ ≠ (b, 0) -> Keep G w G' w κ := fun κ hκ => ⟨by simp only [G']; rw [if_neg hκ], fun _ _ => ⟨rfl, rfl⟩⟩
 have hstep : Step G w G' w := ⟨⟨fun _ => Zk _, Imm.refl _ _, Zk _, rfl, rfl, rfl, fun _ _ => rfl, fun _ => Zk _, fun κ h0 _ => hkp κ (by intro e; rw [e] at h0; simp at h0)⟩, fun _ _ _ => ⟨rfl, rfl⟩, fun κ c h => .inl ⟨κ, how κ c h⟩⟩
 have hwf : Wf G' w := ⟨fun κ κ' c h h' => hr.wf.inj κ κ' c (how κ c h) (how κ' c h'), fun κ c h => hr.wf.lt κ c (how κ c h), hr.wf.zero⟩
 have hr1 : Rel G' w S a := hr.but hn hstep.toExt hwf hkp rfl
 have hbx : RepB G' w b (.vec e sz []) := Or.inl ⟨rfl, by simp [G']⟩
 have hput : Rel G' w (Vf3 S c k (.vs b 0)) a := by
  unfold Vf3
  split
  ·rename_i ty l hl; simp only [Vml, hl] at hs; refine ⟨hr1.wf, hr1.size, hr1.fr, fun p hp => ?_, hr1.gn, hr1.defers⟩; simp only [St.setBox, Ya] at hp; obtain ⟨q, hq, rfl⟩ := hp
   split
   ·rename_i hqb
    have hb := hr1.bx _ (Va9 hl); simp only at hb ⊢; rw [hqb]; obtain ⟨blk, arr, g1, g2, g3, g4, g5⟩ := hb; refine ⟨blk, arr, g1, g2, g3, ?_, g5⟩
    have key : ∀ (l : List SV) (k : Nat) (us : List Value), l.getD k .junk = .nil -> RepSs G' w l us -> RepSs G' w (l.set k (.vs b 0)) us := by
     intro l
     induction l with
     | nil => intro k us _ hu; exact hu
     | cons s l ih =>
      intro k us hw hu; obtain ⟨u, us', e, h2, h3⟩ := hu; cases k with
      | zero =>
       simp only [List.getD_cons_zero] at hw; subst hw; exact ⟨u, us', e, Or.inl ⟨rfl, h2, by simp [G']⟩, h3⟩
      | succ k => exact ⟨u, us', e, h2, ih k us' (by simpa using hw) h3⟩
    exact key l k _ hs g4
   ·exact hr1.bx q hq
  ·exact hr1
 exact ⟨G', hstep, hput.add hbx, fun i hi => by simp only [G']; rw [if_neg (by intro h; simp at h; omega)]⟩
theorem TELLB {K : α -> Exit -> St -> Prop} {M : α} {X : Cf} (c k b e sz : Nat) (h : (Vml (stOf X) c k, decide (b < 1000) || decide (2000 <= b), (stOf X).names b) = (.nil, true, false)) (hn : Nx P K M (reSt X ((Vf3 (stOf X) c k (.vs b 0)).addBox b (.vec e sz [])))) : Nx P K M X := by
 simp only [Zj, Z2, decide_eq_true_eq] at h; exact GHOST (ghost_tellB h.1 h.2.1 h.2.2) hn
def Vlt (ops : Array Oper) (k : Nat) : List Nat := match ops[k]? with
 | some o => (o.after.toList.filter (Region.binds .any)).map (·.on)
 | none => []
theorem Vpm {ops : Array Oper} {k : Nat} {o : Oper} (ho : ops[k]? = some o) {d : Nat} : d ∈ Vlt ops k ↔ ∃ e ∈ o.after, Region.binds .any e = true /\ e.on = d := by
 simp only [Vlt, ho, Ya, List.mem_filter, Array.mem_toList_iff]; constructor
 ·rintro ⟨e, ⟨h1, h2⟩, h3⟩; exact ⟨e, h1, h2, h3⟩
 ·rintro ⟨e, h1, h2, h3⟩; exact ⟨e, ⟨h1, h2⟩, h3⟩
def clos (ops : Array Oper) : Nat -> List Nat -> List Nat
 | 0, c => c
 | k + 1, c => clos ops k (if c.contains k then c ++ Vlt ops k else c)
theorem clos_sub {ops : Array Oper} {L : Nat -> Bool} (hd : ∀ i, L i = true -> ∀ d ∈ Vlt ops i, L d = true) : ∀ (k : Nat) (c : List Nat), (∀ j ∈ c, L j = true) -> ∀ j ∈ clos ops k c, L j = true
 | 0, c, h => h
 | k + 1, c, h => by
  refine clos_sub hd k _ (fun j hj => ?_)
  split at hj
  ·rename_i hk; rcases List.mem_append.1 hj with hj | hj
   ·exact h j hj
   ·exact hd k (h k (by simpa using hk)) j hj
  ·exact h j hj
def marks (m : Nat) (p : Nat -> Bool) : Array Bool := ((Zn m).map p).toArray
theorem marks_get (m : Nat) (p : Nat -> Bool) (i : Nat) : (marks m p).getD i false = (decide (i < m) && p i) := by
 simp only [marks, Zd]; rw [List.getElem?_toArray, List.getElem?_map]
 by_cases h : i < m
 ·rw [List.getElem?_range h]; simp [h]
 ·rw [List.getElem?_eq_none (by simpa using h)]; simp [h]
theorem marks_eq {m : Nat} {L : Array Bool} (p : Nat -> Bool) (hs : L.size = m) (hp : ∀ i, i < m -> L.getD i false = p i) : L = marks m p := by
 apply Array.ext
 ·simp [marks, hs]
 ·intro i h1 h2
  have h3 := hp i (by omega)
  have h4 := marks_get m p i; rw [Zd, Zp h1] at h3; rw [Zd, Zp h2] at h4; simp only [Option.getD_some] at h3 h4; rw [h3, h4]; simp; omega
def headsP (ops : Array Oper) (n : Nat) : Bool :=
 decide (n < ops.size) && (Zn n).all (fun i => (Vlt ops i).all (fun d => decide (d < i))) &&
 (Zn ops.size).all (fun i => decide (i <= n) || (Vlt ops i).any (fun d => decide (n <= d))) &&
 (Zn n).all (fun j => decide (j = 0) || (clos ops n (Vlt ops n)).contains j) &&
 Region.seqB .any ops (ops.size - n) n (marks ops.size (fun i => decide (i < n))) &&
 ((clos ops n (Vlt ops n)).contains 0 || (decide (Region.ready .any ops ((marks ops.size (fun i => decide (i < n) && decide (i ≠ 0))).setIfInBounds n true) = [0]) &&
  Region.seqB .any ops (ops.size - (n + 1)) (n + 1) (((marks ops.size (fun i => decide (i < n) && decide (i ≠ 0))).setIfInBounds n true).setIfInBounds 0 true)))
theorem Vpw {L : Array Bool} {i : Nat} (h : i < L.size) : L.getD i true = L.getD i false := by
 simp [Array.getD, h]
theorem least {p : Nat -> Bool} (i : Nat) (h : p i = true) : ∃ k, p k = true /\ k <= i /\ ∀ j, j < k -> p j = false := by
 induction i using Nat.strongRecOn with
 | _ i ih =>
  by_cases hx : ∃ j, j < i /\ p j = true
  ·obtain ⟨j, hj, hp⟩ := hx; obtain ⟨k, k1, k2, k3⟩ := ih j hj hp; exact ⟨k, k1, by omega, k3⟩
  ·refine ⟨i, h, Zk i, fun j hj => ?_⟩; cases hb : p j with
   | false => rfl
   | true => exact absurd ⟨j, hj, hb⟩ hx
theorem Vqh {p : Nat -> Bool} {n f : Nat} (h : (Zn n).countP p = f + 1) : ∃ i, i < n /\ p i = true := by
 have : 0 < (Zn n).countP p := by omega
 obtain ⟨i, hi, hp⟩ := List.countP_pos_iff.1 this; exact ⟨i, Zr.1 hi, hp⟩
theorem Vmk {n i : Nat} {p q : Nat -> Bool} (hi : i < n) (hpi : p i = true) (hqi : q i = false) (ho : ∀ j, j ≠ i -> q j = p j) {f : Nat} (h : (Zn n).countP p = f + 1) : (Zn n).countP q = f := by
 induction n generalizing f with
 | zero => omega
 | succ n ih =>
  rw [List.range_succ, List.countP_append] at h ⊢; simp only [List.countP_cons, List.countP_nil, Nat.zero_add] at h ⊢
  by_cases e : i = n
  ·subst e
   have hc : (Zn i).countP q = (Zn i).countP p := by
    apply List.countP_congr; intro j hj
    have := Zr.1 hj; rw [ho j (by omega)]
   rw [hpi] at h; rw [hqi, hc]; simp at h ⊢; omega
  ·rw [ho n (fun h => e h.symm)]; cases hpn : p n with
   | true =>
    rw [hpn] at h; simp at h ⊢
    have hpos : 0 < (Zn n).countP p := List.countP_pos_iff.2 ⟨i, Zr.2 (by omega), hpi⟩; obtain ⟨f', hf'⟩ : ∃ f', (Zn n).countP p = f' + 1 := ⟨(Zn n).countP p - 1, by omega⟩
    have := ih (by omega) hf'; omega
   | false =>
    rw [hpn] at h; simp at h ⊢; exact ih (by omega) h
theorem headsC_of {ops : Array Oper} {n : Nat} (h : headsP ops n = true) : ∀ (f : Nat) (L : Array Bool), L.size = ops.size -> (∀ i, n <= i -> L.getD i false = false) -> (∀ i, L.getD i false = true -> ∀ d ∈ Vlt ops i, L.getD d false = true) ->
  (Zn n).countP (fun i => !L.getD i false) = f -> Vi9 ops n f L = true := by
 simp only [headsP, Zg, decide_eq_true_eq, Ze, Zr, Z2, List.any_eq_true, List.contains_eq_mem] at h; obtain ⟨⟨⟨⟨⟨hn, hlow⟩, hhi⟩, hcl⟩, hseq⟩, hlate⟩ := h; intro f
 induction f with
 | zero =>
  intro L hs hge hdc hc
  have hall : ∀ i, i < n -> L.getD i false = true := fun i hi => by
   rw [List.countP_eq_zero] at hc
   have := hc i (Zr.2 hi); simpa using this
  have hL : L = marks ops.size (fun i => decide (i < n)) := marks_eq _ hs (fun i hi => by
   by_cases hin : i < n
   ·rw [hall i hin]; simp [hin]
   ·rw [hge i (by omega)]; simp [hin])
  simp only [Vi9, Zg, Ze, Zr]; exact ⟨hall, by rw [hL]; exact hseq⟩
 | succ f ih =>
  intro L hs hge hdc hc; simp only [Vi9, Zg, Zm, List.isEmpty_eq_false_iff, Ze]; constructor
  ·-- the least one that is not listed is ready
   have hex := Vqh hc; obtain ⟨i, hi, hmin⟩ : ∃ i, (i < n /\ L.getD i false = false) /\ ∀ j, j < i -> L.getD j false = true := by
    obtain ⟨i, h1, h2⟩ := hex; obtain ⟨k, k1, k2, k3⟩ := least (p := fun j => !L.getD j false) i h2; exact ⟨k, ⟨by omega, by simpa using k1⟩, fun j hj => by simpa using k3 j hj⟩
   intro hemp
   have hio : i < ops.size := by omega
   have : i ∈ Region.ready .any ops L := by
    rw [mem_ready]; refine ⟨by rw [Vpw (by omega)]; exact hi.2, ops[i], Zp hio, fun e he hb => hmin _ ?_⟩; exact hlow i hi.1 _ ((Vpm (Zp hio)).2 ⟨e, he, hb, rfl⟩)
   rw [hemp] at this; cases this
  ·intro i hi; obtain ⟨hun, o, ho, hdep⟩ := mem_ready.1 hi
   have hio : i < ops.size := (Zi.1 ho).1; rw [Vpw (by omega)] at hun
   have hdep' : ∀ d ∈ Vlt ops i, L.getD d false = true := fun d hd => by
    obtain ⟨e, he, hb, rfl⟩ := (Vpm ho).1 hd; exact hdep e he hb
   by_cases hin : i < n
   ·simp only [Z2, Zg, decide_eq_true_eq]; refine .inl ⟨hin, ih _ (by simpa using hs) (fun j hj => ?_) (fun j hj d hd => ?_) ?_⟩
    ·rw [Zd, Zh (by omega), <- Zd]; exact hge j hj
    ·have hset : ∀ k, k ≠ i -> (L.setIfInBounds i true).getD k false = L.getD k false := fun k hk => by
      rw [Zd, Zh (fun e => hk e.symm), <- Zd]
     have hself : (L.setIfInBounds i true).getD i false = true := by
      rw [Zd, Zl (by omega)]; rfl
     by_cases hji : j = i
     ·subst hji
      have := hdep' d hd
      by_cases hdi : d = j
      ·rw [hdi]; exact hself
      ·rw [hset d hdi]; exact this
     ·rw [hset j hji] at hj
      have := hdc j hj d hd
      by_cases hdi : d = i
      ·rw [hdi]; exact hself
      ·rw [hset d hdi]; exact this
    ·refine Vmk hin (by simpa using hun) ?_ (fun j hj => ?_) hc
     ·rw [Zd, Zl (by omega)]; rfl
     ·rw [Zd, Zh (fun e => hj e.symm), <- Zd]
   ·have hi0 : i = n := by
     rcases hhi i hio with h | ⟨d, hd, hnd⟩
     ·omega
     ·have := hdep' d hd; rw [hge d hnd] at this; cases this
    subst hi0
    have hC := clos_sub hdc i _ hdep'
    have hrest : ∀ j, j < i -> j ≠ 0 -> L.getD j false = true := fun j hj h0 => by
     rcases hcl j hj with h | h
     ·exact absurd h h0
     ·exact hC j h
    have hex := Vqh hc; obtain ⟨k, hk, hk2⟩ := hex
    have hk0 : k = 0 := by
     rcases Nat.eq_zero_or_pos k with h | h
     ·exact h
     ·rw [hrest k hk (by omega)] at hk2; cases hk2
    subst hk0
    have h0f : L.getD 0 false = false := by simpa using hk2
    have hf0 : f = 0 := by
     have : (Zn i).countP (fun j => !(L.setIfInBounds 0 true).getD j false) = f := by
      refine Vmk hk hk2 ?_ (fun j hj => ?_) hc
      ·rw [Zd, Zl (by omega)]; rfl
      ·rw [Zd, Zh (fun e => hj e.symm), <- Zd]
     rw [<- this, List.countP_eq_zero]; intro j hj
     have hj' := Zr.1 hj
     by_cases h0 : j = 0
     ·subst h0; rw [Zd, Zl (by omega)]; simp
     ·rw [Zd, Zh (fun e => h0 e.symm), <- Zd, hrest j hj' h0]; simp
    have hL : L = marks ops.size (fun j => decide (j < i) && decide (j ≠ 0)) := marks_eq _ hs (fun j hj => by
     by_cases hji : j < i
     ·by_cases h0 : j = 0
      ·subst h0; rw [h0f]; simp
      ·rw [hrest j hji h0]; simp [hji, h0]
     ·rw [hge j (by omega)]; simp [hji])
    rcases hlate with h | ⟨hr, hsq⟩
    ·have := hC 0 h; rw [h0f] at this; cases this
    ·simp only [Z2, Zg, decide_eq_true_eq, Zm, Ze, Zr]; refine .inr ⟨⟨⟨⟨⟨trivial, hf0⟩, h0f⟩, fun j hj => ?_⟩, by rw [hL]; exact hr⟩, by rw [hL]; exact hsq⟩
     by_cases h0 : j = 0
     ·exact .inl h0
     ·exact .inr (hrest j hj h0)
def pushOk' (ops : Array Oper) (n : Nat) : Bool := headsP ops n && decide ((ops.toList.filterMap (·.dst)).Nodup) && decide (0 < n)
theorem pushOk_of {ops : Array Oper} {n : Nat} (h : pushOk' ops n = true) : pushOk ops n = true := by
 simp only [pushOk', Zg, decide_eq_true_eq] at h; obtain ⟨⟨h1, h2⟩, h3⟩ := h
 have hn : n < ops.size := by
  simp only [headsP, Zg, decide_eq_true_eq] at h1; exact h1.1.1.1.1.1
 have hz : ∀ i, (Zt ops.size false).getD i false = false := fun i => by
  rw [Zd, Array.getElem?_replicate]
  split <;> rfl
 simp only [pushOk, Zg, decide_eq_true_eq]; refine ⟨⟨⟨headsC_of h1 n _ (by simp) (fun i _ => hz i) (fun i hi => by rw [hz i] at hi; cases hi) ?_, h2⟩, h3⟩, hn⟩; rw [List.countP_eq_length.2 (fun i _ => by rw [hz i]; rfl), List.length_range]
theorem W_pushX {id : Nat} {ops : Array Oper} {S : St} (n : Nat) (hm : P.follows .mixedOrders = true) (hB : pushOk' ops n = true) (n0 : Nat) (sl : List (Nat × SV)) (bx : List (Nat × ABox)) (gn : List (Key × Nat)) {cs : List Prop} (hc : All cs)
  (h : seenO ((Vjw P ops n S).map (fun q => (q.1, [], q.2.1))) (Vkc sl) (bkeys bx) = some (cs, [], n0, Vjf sl, bvals bx, gn)) (hmid : (Vjw P ops n S).map (fun q => q.2.2) = pushMid P ops n S) :
  W P (.region id ops true) (fun e S1 => e = .normal /\ Weak S1 (sx n0 sl bx gn)) S := by
 unfold seenO at h
 split at h
 ·rename_i cs' o S1 hr; simp only [Zf, Zj] at h; obtain ⟨rfl, rfl, h4⟩ := h; cases hp : Vjw P ops n S with
  | none => rw [hp] at hr; cases hr
  | some q =>
   obtain ⟨c, T, T0⟩ := q; rw [hp] at hr hmid; simp only [Option.map_some, Zf, Zj, true_and] at hr; obtain ⟨rfl, rfl⟩ := hr; refine Vqz (W_pushR n hm (pushOk_of hB) hp hmid.symm hc) ?_; rintro e S1 ⟨rfl, rfl⟩; exact ⟨rfl, Vh9 (n := n0) (l := sl) (bx := bx) (gn := gn) h4⟩
 ·simp at h
end
end Go.Eng
namespace Go.Proofs.YtnpedjbgchdkbaaGreatDoor
open Go Go.Eng
def rdC (s : ByteArray) (n m : Nat) (refs : Int) : ABox := .cells 86 [jS s, .vs 2001 n, .vs 2002 m, jI refs]
def elB (els : List DElem) : ABox := .vec 112 21 (els.map Vep)
def brB (brs : List Int) : ABox := .vec 3 1 (brs.map vI)
def rdB (s : ByteArray) (els : List DElem) (brs : List Int) (refs : Int) : List (Nat × ABox) := [(1000, rdC s els.length brs.length refs), (2001, elB els), (2002, brB brs)]
def inE (x : DInline) : DElem := DElem.mk 0 (DPiece.mk 0 x ⟨#[]⟩ 0 false false false 0 0) false 0
def refB (k : Int) : Bool := cond (k == 9) (k == 9) (cond (k == 16) (k == 16) (cond (k == 12) (k == 12) (cond (k == 14) (k == 14) (k == 13))))
def kRef (k : Int) {H : Prop} (r : OCx H) : OCx H := ks (k == 9) [6] z (tn 2 (ks (k == 16) [6] z (tn 2 (ks (k == 12) [6] z (tn 2 (ks (k == 14) [6] z (tn 2 z) z)) z)) z)) r
def adS (s : ByteArray) (els : List DElem) (brs : List Int) (refs : Int) (x : DInline) : St := sx 31 [(0, .ptr 1000 0), (3, .ptr 3 0)] ((3, .cells 33 (Vcq x)) :: rdB s els brs refs) []
def cBnd (n b sz : Nat) (l : List AV) (x : AV) : Prop := n <= l.length /\ Uni sz [x] /\ (n + ([x] : List AV).length) * b <= 140737488355328
theorem uni1 {sz : Nat} {x : AV} (h : x.cells.length = sz) (ht : x.isTup = false) : Uni sz [x] := by
 intro y hy; simp only [Zy, Zz, or_false] at hy; subst hy; exact ⟨h, ht⟩
theorem rdB_snoc (s : ByteArray) (els : List DElem) (brs : List Int) (refs : Int) (e : DElem) : [(1000, rdC s (els.length + 1) brs.length refs), (2001, ABox.vec 112 21 ((els.map Vep).take els.length ++ [Vep e])), (2002, brB brs)] = rdB s (els ++ [e]) brs refs := by
 simp [rdB, elB, List.take_of_length_le]
theorem ad8 (s : ByteArray) (els : List DElem) (brs : List Int) (refs : Int) (x : DInline) (he : els.length <= 1073741824) : W Tryz.prog (.region 8 (Vab 8 Tryz.f73) true) (fun e S1 => e = .normal /\ Weak S1 (sx 31 [] (rdB s (els ++ [inE x]) brs refs) [])) (adS s els brs refs x) := by
 have hu : Uni 21 [Vep (inE x)] := uni1 rfl rfl
 have hC : cBnd els.length 272 21 (els.map Vep) (Vep (inE x)) := ⟨by simp, hu, by simp; omega⟩
 rw [<- rdB_snoc]; exact W_pushX (cs := [True, True, True, True, True, True, True, True, Uni 21 [Vep (inE x)], cBnd els.length 272 21 (els.map Vep) (Vep (inE x)), cBnd els.length 272 21 (els.map Vep) (Vep (inE x)), True, True, True, True]) 9 (by kernel_rfl) (by kernel_rfl) 31 [] _ [] ⟨trivial, trivial, trivial, trivial, trivial, trivial, trivial, trivial, hu, hC, hC, trivial, trivial, trivial, trivial, trivial⟩ (by kernel_rfl) (by kernel_rfl)
theorem add_to (s : ByteArray) (els : List DElem) (brs : List Int) (refs : Int) (x : DInline) (he : els.length <= 1073741824) (hr : 0 <= refs /\ refs <= 1073741824) :
  CallTo Tryz.prog 73 [.ptr 1000 0, .av (Va8 x)] (rdB s els brs refs) [] Vaj (rdB s (els ++ [inE x]) brs (cond (refB x.fKind) (refs + 1) refs)) [] := by
 cases hb : refB x.fKind with
 | true =>
  refine bGs Tryz.func73 ?_; refine gO (tn 5 (kRef x.fKind (kb hb (tn 4 (kn (wrE (refs + 1) (refs + 1) (by omega)) (tn 3 z)))))) ?_; refine NXW (sx 31 [] (rdB s (els ++ [inE x]) brs (refs + 1)) []) z (by kernel_rfl) ?_ (by kernel_rfl) ?_
  ·refine Vb6 (S' := adS s els brs (refs + 1) x) (WK (by kernel_rfl)) ?_; exact Vbh (c' := .region 8 (Vab 8 Tryz.f73) true) (by kernel_rfl) (ad8 s els brs (refs + 1) x he)
  exact eNs
 | false =>
  refine bGs Tryz.func73 ?_; refine gO (tn 5 (kRef x.fKind (kb hb z))) ?_; refine NXW (sx 31 [] (rdB s (els ++ [inE x]) brs refs) []) z (by kernel_rfl) ?_ (by kernel_rfl) ?_
  ·refine Vb6 (S' := adS s els brs refs x) (WK (by kernel_rfl)) ?_; exact Vbh (c' := .region 8 (Vab 8 Tryz.f73) true) (by kernel_rfl) (ad8 s els brs refs x he)
  exact eNs
end Go.Proofs.YtnpedjbgchdkbaaGreatDoor
namespace Go.Proofs.YtnpedjbgchdkbaaGreatDoor
open Go Go.Eng Go.RowKit
def itoa (k : Nat) : ByteArray := ⟨(Lib.decDigits k).toArray⟩
theorem argsI {G : Gh} {w : World} {c : Int} {us : List Value} (h : RepSs G w [jI c] us) : us.toArray = #[.int .i64 c] := by
 obtain ⟨u, l, rfl, h1, h2⟩ := h
 have h3 : l = [] := h2; subst h3; rw [h1.1]
theorem itoa_to (k : Nat) (h : k < 100) : CallTo Tryz.prog 74 [jI ((k : Nat) : Int)] [] [] (jS (itoa k)) [] [] := by
 refine Vbp ⟨Tryz.f74, Tryz.func74, by kernel_rfl, by kernel_rfl⟩ (fun G w us h => argsI h) (fun G w => ⟨rfl, rfl⟩) (fun w => ?_); refine (Any.strconv_Itoa_small Tryz.lays171 k h w).mono fun e w' ⟨he, hw⟩ => ⟨he, by rw [hw]; exact Below.refl _ _⟩
theorem atoi_itoa : ∀ k, k < 100 -> Lib.atoi (Lib.decDigits k) = some ((k : Nat) : Int) /\ (Lib.decDigits k).length <= 18 := by
 have : (Zn 100).all (fun k => decide (Lib.atoi (Lib.decDigits k) = some ((k : Nat) : Int)) && decide ((Lib.decDigits k).length <= 18)) = true := by kernel_rfl
 intro k hk
 have := Ze.1 this k (Zr.2 hk); simpa using this
theorem atoi_to (k : Nat) (h : k < 100) : CallTo Tryz.prog 122 [jS (itoa k)] [] [] (.av (.tup [vI ((k : Nat) : Int), .val .nilIface])) [] [] := by
 obtain ⟨h1, h2⟩ := atoi_itoa k h
 have e : (itoa k).data.toList = Lib.decDigits k := rfl
 have hz : (itoa k).size = (Lib.decDigits k).length := by rw [Lib.size_eq, e]
 refine Vbp ⟨Tryz.f122, Tryz.func122, by kernel_rfl, by kernel_rfl⟩ (fun G w us h => args1 h) (fun G w => ⟨_, rfl, ⟨_, _, rfl, ⟨rfl, rfl⟩, _, _, rfl, ⟨rfl, rfl⟩, rfl⟩⟩) (fun w => ?_); refine (Any.strconv_Atoi Tryz.lays172 (itoa k) ((k : Nat) : Int) (by omega) (by rw [e]; exact h1) w).mono ?_; rintro e w' ⟨he, t, hw⟩; exact ⟨he, by rw [hw]; exact Lib.bytesWorld_below _ _ _⟩
end Go.Proofs.YtnpedjbgchdkbaaGreatDoor
namespace Go.Proofs.YtnpedjbgchdkbaaGreatDoor
open Go Go.Eng
def stC (ps : List DPiece) (n : Nat) : ABox := .cells 214 [jL (ps.map Vay), .vs 2001 n, .nil, .nil, .nil, .nil, .nil, .nil, .nil, .nil, .nil, .nil, .nil, .nil, .nil, .nil, .nil, .nil, .nil, .nil, .nil]
def emB (els : List DEm) : ABox := .vec 218 15 (els.map aEm)
def stB (ps : List DPiece) (els : List DEm) : List (Nat × ABox) := [(1000, stC ps els.length), (2001, emB els)]
def insE (els : List DEm) (e : DEm) (at' : Int) : DEm := { e with fbefore := (el els at'.toNat).fbefore, fnext := at' }
def setN (els : List DEm) (k : Nat) (v : Int) : List DEm := els.set k { el els k with fnext := v }
def setP (els : List DEm) (k : Nat) (v : Int) : List DEm := els.set k { el els k with fbefore := v }
def insM (els : List DEm) (e : DEm) (at' : Int) : List DEm := setP (setN (els ++ [insE els e at']) (el els at'.toNat).fbefore.toNat els.length) at'.toNat els.length
def inS (ps : List DPiece) (els : List DEm) (e : DEm) (at' : Int) : St := sx 52 [(0, .ptr 1000 0), (2, jI at'), (4, .ptr 4 0), (7, jI ((els.length : Nat) : Int))] ((4, .cells 218 (sEm (insE els e at'))) :: stB ps els) []
def inT (ps : List DPiece) (els : List DEm) (e : DEm) (at' : Int) : St := sx 52 [(0, .ptr 1000 0), (2, jI at'), (4, .ptr 4 0), (7, jI ((els.length : Nat) : Int))] [(1000, stC ps (els.length + 1)), (2001, emB (els ++ [insE els e at'])), (4, .cells 218 (sEm (insE els e at')))] []
def cBndE (n : Nat) (l : List AV) (x : AV) : Prop := n <= l.length /\ Uni 15 [x] /\ (n + ([x] : List AV).length) * 232 <= 140737488355328
theorem uniE (e : DEm) : Uni 15 [aEm e] := by
 intro y hy; simp only [Zy, Zz, or_false] at hy; subst hy; exact ⟨rfl, rfl⟩
theorem in3 (ps : List DPiece) (els : List DEm) (e : DEm) (at' : Int) (hn : els.length <= 1073741824) : W Tryz.prog (.region 3 (Vab 3 Tryz.f162) true) (fun x S1 => x = .normal /\ Weak S1 (inT ps els e at')) (inS ps els e at') := by
 have hC : cBndE els.length (els.map aEm) (aEm (insE els e at')) := ⟨by simp, uniE _, by simp; omega⟩
 have hu := uniE (insE els e at')
 have h := W_pushX (P := Tryz.prog) (id := 3) (ops := Vab 3 Tryz.f162) (S := inS ps els e at') (cs := [True, True, True, True, True, True, Uni 15 [aEm (insE els e at')], cBndE els.length (els.map aEm) (aEm (insE els e at')), cBndE els.length (els.map aEm) (aEm (insE els e at')), True, True, True, True]) 7 (by kernel_rfl) (by kernel_rfl) 52 [(0, .ptr 1000 0), (2, jI at'), (4, .ptr 4 0), (7, jI ((els.length : Nat) : Int))] [(1000, stC ps (els.length + 1)), (2001, .vec 218 15 ((els.map aEm).take els.length ++ [aEm (insE els e at')])), (4, .cells 218 (sEm (insE els e at')))] [] ⟨trivial, trivial, trivial, trivial, trivial, trivial, hu, hC, hC, trivial, trivial, trivial, trivial, trivial⟩ (by kernel_rfl) (by kernel_rfl); rw [show (els.map aEm).take els.length ++ [aEm (insE els e at')] = (els ++ [insE els e at']).map aEm by simp [List.take_of_length_le]] at h; exact h
theorem set_em (els : List DEm) (k : Nat) (v : Int) (hk : k < els.length) : (els.map aEm).set k (((els.map aEm).getD k (.val undef)).upd 14 (vI v)) = (setN els k v).map aEm := by
 unfold setN; rw [List.map_set]; congr 1
 have e : el els k = els[k] := by simp [el, hk]
 rw [Zu, List.getElem?_map, Zs hk, e]; rfl
theorem set_emP (els : List DEm) (k : Nat) (v : Int) (hk : k < els.length) : (els.map aEm).set k (((els.map aEm).getD k (.val undef)).upd 13 (vI v)) = (setP els k v).map aEm := by
 unfold setP; rw [List.map_set]; congr 1
 have e : el els k = els[k] := by simp [el, hk]
 rw [Zu, List.getElem?_map, Zs hk, e]; rfl
theorem st_em (els : List DEm) (f : Int) (off : Nat) (v : Int) (ho : off < 15) (hf : 0 <= f /\ f < els.length) : 0 <= f /\ f < (((els.map aEm).length : Nat) : Int) /\ off + 1 <= ((els.map aEm).getD f.toNat (.val undef)).cells.length /\ ((els.map aEm).getD f.toNat (.val undef)).isTup = false /\ (vI v).isTup = false /\ (vI v).cells.length = 1 /\ 0 < 1 := by
 have hk : f.toNat < els.length := by omega
 have e : (els.map aEm).getD f.toNat (.val undef) = aEm els[f.toNat] := by
  rw [Zu, List.getElem?_map, Zs hk]; rfl
 rw [e]; exact ⟨hf.1, by simpa using hf.2, ho, rfl, rfl, rfl, by decide⟩
theorem ins_to (ps : List DPiece) (els : List DEm) (e : DEm) (at' : Int) (hn : els.length <= 1073741824) (ha : 0 <= at' /\ at' < els.length) (hb : 0 <= (el els at'.toNat).fbefore /\ (el els at'.toNat).fbefore < els.length) :
  CallTo Tryz.prog 162 [.ptr 1000 0, .av (cEm e), jI at'] (stB ps els) [] (jI ((els.length : Nat) : Int)) (stB ps (insM els e at')) [] := by
 have hst : stB ps (insM els e at') = [(1000, stC ps (els.length + 1)), (2001, emB (insM els e at'))] := by simp [stB, insM, setP, setN]
 rw [hst]; refine bGs Tryz.func162 ?_; refine gO (tn 8 (tn 5 (kp ha (tn 1 (ke (elI_aEm els at' ha.1 ha.2) (tn 5 z)))))) ?_; refine NXW (inT ps els e at') z (by kernel_rfl) ?_ (by kernel_rfl) ?_
 ·refine Vb6 (S' := inS ps els e at') (WK (by kernel_rfl)) ?_; exact Vbh (c' := .region 3 (Vab 3 Tryz.f162) true) (by kernel_rfl) (in3 ps els e at' hn)
 have hl1 : (els ++ [insE els e at']).length = els.length + 1 := by simp
 have hb2 : 0 <= (el els at'.toNat).fbefore /\ (el els at'.toNat).fbefore < (((els ++ [insE els e at']).length : Nat) : Int) := ⟨hb.1, by rw [hl1]; omega⟩
 have hb3 : 0 <= (el els at'.toNat).fbefore /\ (el els at'.toNat).fbefore < ((els.length + 1 : Nat) : Int) := ⟨hb.1, by omega⟩
 refine DR3 (tn 7 (kp hb3 (tn 1 (kp (st_em (els ++ [insE els e at']) _ 14 ((els.length : Nat) : Int) (by decide) hb2) (kq 5 z))))) (by kernel_rfl) (by kernel_rfl) (by kernel_rfl) ?_; refine BOX (e := 218) (sz := 15) 2001 (by kernel_rfl) (set_em (els ++ [insE els e at']) (el els at'.toNat).fbefore.toNat ((els.length : Nat) : Int) (by omega)) ?_
 have hl2 : (setN (els ++ [insE els e at']) (el els at'.toNat).fbefore.toNat ((els.length : Nat) : Int)).length = els.length + 1 := by simp [setN]
 have ha2 : 0 <= at' /\ at' < (((setN (els ++ [insE els e at']) (el els at'.toNat).fbefore.toNat ((els.length : Nat) : Int)).length : Nat) : Int) := ⟨ha.1, by rw [hl2]; omega⟩
 have ha3 : 0 <= at' /\ at' < ((els.length + 1 : Nat) : Int) := ⟨ha.1, by omega⟩
 refine gO (tn 6 (kp ha3 (tn 1 (kp (st_em (setN (els ++ [insE els e at']) (el els at'.toNat).fbefore.toNat ((els.length : Nat) : Int)) at' 13 ((els.length : Nat) : Int) (by decide) ha2) (kq 6 z))))) ?_; refine BOX (e := 218) (sz := 15) 2001 (by kernel_rfl) (set_emP (setN (els ++ [insE els e at']) (el els at'.toNat).fbefore.toNat ((els.length : Nat) : Int)) at'.toNat ((els.length : Nat) : Int) (by omega)) ?_; refine gO (tn 2 z) ?_; exact eNs
end Go.Proofs.YtnpedjbgchdkbaaGreatDoor
namespace Go.Eng
variable {P : Program}
def nil21 : Value := .agg #[.slice none 0 0, .slice none 0 0, .slice none 0 0, .slice none 0 0, .slice none 0 0, .slice none 0 0, .slice none 0 0, .slice none 0 0, .slice none 0 0, .slice none 0 0, .slice none 0 0, .slice none 0 0, .slice none 0 0, .slice none 0 0, .slice none 0 0, .slice none 0 0, .slice none 0 0, .slice none 0 0, .slice none 0 0, .slice none 0 0, .slice none 0 0]
theorem WO_st21 {ops : Array Oper} {o1 o2 : Oper} {rest : List Oper} {Q : St -> Prop} {S : St} {t m1 m2 d1 d2 bt b2 n2 : Nat} {l1 : List AV} {pl : List (Nat × Nat)}
  (ho1 : o1.op = .build t #[(0, .tmp m1), (1, .tmp m2)]) (hd1 : o1.dst = some d1) (hg1 : o1.guard = none) (ho2 : o2.op = .box t (.tmp d1)) (hd2 : o2.dst = some d2) (hg2 : o2.guard = none)
  (hi : tInfo P t = some (21, bt, some nil21)) (hpl : Vn6 P t = some pl) (hp0 : pl[0]? = some (0, 1)) (hp1 : pl[1]? = some (1, 1)) (hm1 : S.fr[m1]? = some (.av (.sl l1))) (hm2 : S.fr[m2]? = some (.vs b2 n2)) (hl1 : d1 < S.fr.length) (hid : d2 < 1000) (hn : (S.put (some d1) .junk).names d2 = false)
  (hb2 : b2 ≠ d2)
  (h : WO P ops rest Q (((S.put (some d1) .junk).addBox d2 (.cells t ([.av (.sl l1), .vs b2 n2] ++ List.replicate 19 .nil))).put (some d2) (.ptr d2 0))) : WO P ops (o1 :: o2 :: rest) Q S := by
 intro more Q' G w a hr hq
 have hsz : a.tmps.size = S.fr.length := hr.size.symm
 have r1 := hr.fr m1 _ hm1
 have r2 := hr.fr m2 _ hm2; obtain ⟨u1, eu1⟩ : ∃ u, a.eval (.tmp m1) = u := ⟨_, rfl⟩
 obtain ⟨u2, eu2⟩ : ∃ u, a.eval (.tmp m2) = u := ⟨_, rfl⟩
 have r1' : RepS G w (.av (.sl l1)) u1 := by rw [<- eu1]; exact r1
 have r2' : RepS G w (.vs b2 n2) u2 := by rw [<- eu2]; exact r2
 obtain ⟨a1, c1, es1, z1, rfl, _⟩ := id r1'
 have hv2 : ∃ ad k c, u2 = .slice ad k c := by
  rcases r2' with ⟨_, h, _⟩ | ⟨blk, _, _, h, _⟩
  ·exact ⟨_, _, _, h⟩
  ·exact ⟨_, _, _, h⟩
 obtain ⟨a2, k2, c2, rfl⟩ := hv2; obtain ⟨arr, harr⟩ : ∃ arr : Array Value, arr = #[.slice a1 l1.length c1, .slice a2 k2 c2] ++ Zt 19 (.slice none 0 0) := ⟨_, rfl⟩
 have hf : Instr.fill (fun i => pl[i]?) nil21.cells [(0, .slice a1 l1.length c1), (1, .slice a2 k2 c2)] = some arr := by
  rw [harr]
  have h0 : Instr.fill (fun i => ([(0, 1), (1, 1)] : List (Nat × Nat))[i]?) nil21.cells [(0, .slice a1 l1.length c1), (1, .slice a2 k2 c2)] = some (#[.slice a1 l1.length c1, .slice a2 k2 c2] ++ Zt 19 (.slice none 0 0)) := by kernel_rfl
  refine Vki (p2 := fun i => pl[i]?) (fun i q hq => ?_) _ _ _ h0
  match i, hq with
  | 0, hq => rw [hp0]; exact hq
  | 1, hq => rw [hp1]; exact hq
  | i + 2, hq => simp at hq
 have x1 : (execOp a.eval o1).run P w = .ok (.value (.agg arr)) w := by
  unfold Vn6 at hpl
  split at hpl
  ·rename_i fs hu
   have hmm := run_places w fs.toList _ hpl
   have hm2 : (fs.mapM (fun f => do pure (f.offset, <- sizeOf f.type)) : Sem (Array (Nat × Nat))).run P w = .ok pl.toArray w := by
    rw [Array.mapM_eq_mapM_toList]; simp only [Sem.run_map, hmm, Result.andThen_ok]
   simp only [bind_pure_comp] at hm2; simp [execOp, ho1, Instr.build, Val hi, run_underlying' hu, hm2, eu1, eu2, hf]
  ·simp at hpl
 simp only [Zw, wpList]; rw [if_pos (Vao hg1 a)]; refine .inl ?_; unfold Oper.wp; rw [x1, Oper.upon_value, hd1]
 have hr1 : Rel G w (S.put (some d1) .junk) (a.put (some d1) (.agg arr)) := hr.put (some d1) trivial
 have ed1 : (a.put (some d1) (.agg arr)).eval (.tmp d1) = .agg arr := Nb_same (by omega); generalize a.put (some d1) (.agg arr) = a9 at hr1 ed1 ⊢; rw [if_pos (Vao hg2 _)]; refine .inl ?_
 try unfold Oper.wp
 have hnil : ∀ n, RepSs G w (List.replicate n .nil) (List.replicate n (.slice none 0 0)) := by
  intro n
  induction n with
  | zero => rfl
  | succ n ih => exact ⟨_, _, rfl, rfl, ih⟩
 have hs : RepSs G w ([.av (.sl l1), .vs b2 n2] ++ List.replicate 19 .nil) arr.toList := by
  rw [harr]
  show RepSs G w (.av (.sl l1) :: .vs b2 n2 :: List.replicate 19 .nil) (.slice a1 l1.length c1 :: .slice a2 k2 c2 :: List.replicate 19 (.slice none 0 0)); exact ⟨_, _, rfl, r1', _, _, rfl, r2', hnil 19⟩
 obtain ⟨e1, e2, e3⟩ := hr1.newBox hn t hs (by
  intro s hs; simp only [Zw, Z1, Zy] at hs; rcases hs with rfl | rfl | hs
  ·rfl
  ·simp [SV.names, hb2]
  ·rw [List.eq_of_mem_replicate hs]; rfl) (by
  intro x hx; rw [harr] at hx; simp only [Array.toList_append, Zw, Z1, Zy, Array.toList_replicate] at hx; rcases hx with rfl | rfl | hx
  ·rfl
  ·rfl
  ·rw [List.eq_of_mem_replicate hx]; rfl)
 have x2 : (execOp a9.eval o2).run P w = .ok (.value (.pointer (some ⟨w.heap.size, 0, none⟩))) (w.alloc (.cells arr.toList.toArray t)) := by
  simp [execOp, ho2, ed1, Instr.box, newVar, newRow, Value.cells]
 rw [x2, Oper.upon_value, hd2]
 have hr2 := e2.put (some d2) e3; exact h more Q' _ _ _ hr2 (fun S' G2 a2 w4 p1 p2 p3 p4 => hq S' G2 a2 w4 p1 (e1.trans p2) p3 (fun i hi' => (p4 i hi').trans (by simp only [Gh.bind]; rw [if_neg (by intro h; simp only [Zj] at h; omega)])))
end Go.Eng
namespace Go.Proofs.YtnpedjbgchdkbaaGreatDoor
open Go Go.Eng
def em0 : DEm := default
def emZ : Value := .agg #[.int .i64 0, .string ⟨#[]⟩, .string ⟨#[]⟩, .string ⟨#[]⟩, .string ⟨#[]⟩, .slice none 0 0, .slice none 0 0, .slice none 0 0, .slice none 0 0, .slice none 0 0, .bool false, .int .i64 0, .int .i64 0, .int .i64 0, .int .i64 0]
theorem emZ_rep (U : Nat -> Nat) (w : World) : Rep U w (aEm em0) emZ := by
 rw [aEm_eq]
 have hn : Rep U w (.sl []) (.slice none 0 0) := ⟨none, 0, [], 0, rfl, rfl, by simp, by simp, by simp, by simp, .inl rfl⟩
 refine ⟨_, rfl, ?_, ?_⟩
 ·exact ⟨_, _, rfl, ⟨rfl, rfl⟩, _, _, rfl, ⟨rfl, rfl⟩, _, _, rfl, ⟨rfl, rfl⟩, _, _, rfl, ⟨rfl, rfl⟩, _, _, rfl, ⟨rfl, rfl⟩, _, _, rfl, hn, _, _, rfl, hn, _, _, rfl, hn, _, _, rfl, hn, _, _, rfl, hn, _, _, rfl, ⟨rfl, rfl⟩, _, _, rfl, ⟨rfl, rfl⟩, _, _, rfl, ⟨rfl, rfl⟩, _, _, rfl, ⟨rfl, rfl⟩, _, _, rfl, ⟨rfl, rfl⟩, rfl⟩
 ·intro x hx; simp only [Zy, Zz, or_false] at hx; rcases hx with rfl | rfl | rfl | rfl | rfl | rfl | rfl | rfl | rfl | rfl | rfl | rfl | rfl | rfl | rfl <;> rfl
theorem em_box (n : Nat) (h1 : 1 <= n) (id : Nat) (G : Gh) (w : World) (blk : Nat) (hb : blk < w.heap.size) (ho : G.ow (id, 0) = some blk) (hw : w.heap[blk]? = some (.cells (madeCells emZ.cells (n * 15)) 218 (0, 0))) (hU : G.U blk = 0) (hc : G.cp blk = n) : RepB G w id (.vec 218 15 [aEm em0]) := by
 obtain ⟨rest, hr⟩ := made_head emZ.cells n h1; refine .inr ⟨blk, _, [emZ], hb, ho, hw, hU, ?_, ⟨_, _, rfl, emZ_rep _ _, rfl⟩, ?_, ⟨rest, ?_⟩, ?_⟩
 ·rw [hc, size_madeCells]; exact Zk _
 ·intro x hx; simp only [Zy, Zz, or_false] at hx; subst hx; rfl
 ·have : (madeCells emZ.cells (n * 15)).toList = emZ.cells.toList ++ rest := hr; rw [this]; rfl
 ·intro c hc
  have hc2 : c ∈ emZ.cells.toList := by simpa [Va0] using hc
  simp only [emZ, Value.cells, Zy, Zz, or_false] at hc2; rcases hc2 with rfl | rfl | rfl | rfl | rfl | rfl | rfl | rfl | rfl | rfl | rfl | rfl | rfl | rfl | rfl <;> rfl
def mtS (ps : List DPiece) : St := sx 83 [(0, jL (ps.map Vay)), (3, .ptr 14 0)] [(14, .cells 214 ([jL (ps.map Vay), .vs 12 1] ++ List.replicate 19 .nil)), (12, .vec 218 15 [aEm em0])] []
theorem mt1 (ps : List DPiece) (hn : ps.length <= 1073741824) : W Tryz.prog (.region 1 (Vab 1 Tryz.f119) false) (fun e S1 => e = .normal /\ Weak S1 (mtS ps)) (sx 83 [(0, jL (ps.map Vay))] [] []) := by
 have hw : IntKind.i64.wrap ((((ps.map Vay).length : Nat) : Int) + 1) = ((ps.length + 1 : Nat) : Int) := wrE _ _ (by simp; omega); refine Vak ?_; rw [show (Vab 1 Tryz.f119).toList = [regO 1 Tryz.f119 0, regO 1 Tryz.f119 1, regO 1 Tryz.f119 2, regO 1 Tryz.f119 3, regO 1 Tryz.f119 4, regO 1 Tryz.f119 5, regO 1 Tryz.f119 6, regO 1 Tryz.f119 7] by kernel_rfl]; refine Vap (jL (ps.map Vay)) 8 (by kernel_rfl) (by kernel_rfl) ?_; refine Vap (jL (ps.map Vay)) 9 (by kernel_rfl) (by kernel_rfl) ?_; refine Vap (jI (((ps.map Vay).length : Nat) : Int)) 10 (by kernel_rfl) (by kernel_rfl) ?_; refine Vap (jI (IntKind.i64.wrap ((((ps.map Vay).length : Nat) : Int) + 1))) 11 (by kernel_rfl) (by kernel_rfl) ?_; rw [hw]; refine Vim (.vs 12 1) 12 (by kernel_rfl) (Vgo (x := .const (.int .i64 1)) (y := .tmp 11) (t := 208) (e := 218) (sz := 15) (bt := 232) (z := emZ) (m := 1) (n := ps.length + 1) (id := 12) (k := .i64) (k' := .i64) (X := .vec 218 15 [aEm em0]) (by kernel_rfl) (by kernel_rfl) (by kernel_rfl) (by omega) (by kernel_rfl) (by kernel_rfl) (by omega) (by omega) (by decide) (by kernel_rfl) (fun G w blk h1 h2 h3 h4 h5 => em_box (ps.length + 1) (by omega) 12 G w blk h1 h2 h3 h4 h5)) ?_; refine WO_st21 (t := 214) (m1 := 8) (m2 := 12) (d1 := 13) (d2 := 14) (bt := 504) (b2 := 12) (n2 := 1) (l1 := ps.map Vay) (pl := [(0, 1), (1, 1), (2, 18), (20, 1)]) (by kernel_rfl) (by kernel_rfl) (by kernel_rfl) (by kernel_rfl) (by kernel_rfl) (by kernel_rfl) (by kernel_rfl) (by kernel_rfl) rfl rfl (by kernel_rfl) (by kernel_rfl) (Nat.lt_of_lt_of_eq (by decide : 13 < 83) (by kernel_rfl)) (by decide) (by kernel_rfl) (by decide) ?_; refine Vap (.ptr 14 0) 3 (by kernel_rfl) (by kernel_rfl) ?_; exact Vbw rfl ⟨rfl, WK (by kernel_rfl)⟩
def mkE (x : DInline) : DEm := DEm.mk x false 0 0 0 0
def Vnz (x : DInline) : Bool := cond ((x.fKind : Int) != 1) true (!eqs x.fText (⟨#[]⟩))
def Vdj (els : List DEm) (p : DPiece) : List DEm := cond (Vnz p.fInline) (insM els (mkE p.fInline) 0) els
def mtL (ps : List DPiece) : List DEm := ps.foldl Vdj [em0]
theorem insM_len (els : List DEm) (e : DEm) (a : Int) : (insM els e a).length = els.length + 1 := by simp [insM, setP, setN]
theorem insM_bef (els : List DEm) (e : DEm) : (el (insM els e 0) 0).fbefore = els.length := by
 have h : 0 < (setN (els ++ [insE els e 0]) (el els (0 : Int).toNat).fbefore.toNat els.length).length := by simp [setN]
 unfold insM setP; simp only [el]; rw [show (0 : Int).toNat = 0 from rfl, List.getElem?_set_self (by simp [setN])]; rfl
def stD (ps : List DPiece) (n : Nat) : ABox := .cells 214 ([jL (ps.map Vay), .vs 12 n] ++ List.replicate 19 .nil)
def stE (ps : List DPiece) (els : List DEm) : List (Nat × ABox) := [(14, stD ps els.length), (12, emB els)]
theorem insL_to (ps : List DPiece) (els : List DEm) (e : DEm) (hn : els.length <= 1073741824) (h0 : 0 < els.length) (hb : 0 <= (el els 0).fbefore /\ (el els 0).fbefore < els.length) :
  CallTo Tryz.prog 162 [.ptr 14 0, .av (cEm e), jI 0] (stE ps els) [] (jI ((els.length : Nat) : Int)) (stE ps (insM els e 0)) [] :=
 Vac (by kernel_rfl) (Vaf (Vas (14, 0) (1000, 0) rfl) (Vaf (Vas (12, 0) (2001, 0) rfl) (ins_to ps els e 0 hn ⟨Int.le_refl _, by omega⟩ hb)))
theorem mtL_inv (ps : List DPiece) : ∀ els : List DEm, 0 < els.length -> (0 <= (el els 0).fbefore /\ (el els 0).fbefore < els.length) -> 0 < (ps.foldl Vdj els).length /\ (ps.foldl Vdj els).length <= els.length + ps.length /\ 0 <= (el (ps.foldl Vdj els) 0).fbefore /\ (el (ps.foldl Vdj els) 0).fbefore < (ps.foldl Vdj els).length := by
 induction ps with
 | nil => intro els h0 hb; exact ⟨h0, by simp, hb⟩
 | cons p ps ih =>
  intro els h0 hb; rw [List.foldl_cons]
  have hs : 0 < (Vdj els p).length /\ (Vdj els p).length <= els.length + 1 /\ 0 <= (el (Vdj els p) 0).fbefore /\ (el (Vdj els p) 0).fbefore < (Vdj els p).length := by
   unfold Vdj; cases Vnz p.fInline with
   | true => simp only [cond_true, insM_len, insM_bef]; omega
   | false => simp only [cond_false]; exact ⟨h0, by omega, hb⟩
  have := ih (Vdj els p) hs.1 hs.2.2; simp only [Zv]; omega
theorem tk1 {α : Type} [Inhabited α] {l : List α} {v : Nat} (h : v < l.length) : l.take (v + 1) = l.take v ++ [el l v] := by
 rw [List.take_succ_eq_append_getElem h]; simp [el, h]
theorem dT {p : Prop} [Decidable p] (h : p) : decide p = true := decide_eq_true h
theorem dF {p : Prop} [Decidable p] (h : ¬ p) : decide p = false := decide_eq_false h
theorem isr0 {p : DPiece} (h : p.fKind = 0) : isrP p = false := by
 unfold isrP; rw [h]; rfl
theorem mtc_to (ps : List DPiece) (hn : ps.length <= 536870912) (hk : ∀ p ∈ ps, p.fKind = 0) : Vgj Tryz.prog 119 [jL (ps.map Vay)] (stE ps (mtL ps)) (.ptr 14 0) := by
 have hlq := Va2 Vay ps; refine BEGn Tryz.func119 (by kernel_rfl) ?_; refine gO (tn 1 (kq 1 z)) ?_; refine NXW (mtS ps) (tn 3 z) (by kernel_rfl) ?_ (by kernel_rfl) ?_
 ·refine Vb6 (S' := sx 83 [(0, jL (ps.map Vay))] [] []) (WK (by kernel_rfl)) ?_; exact Vbh (c' := .region 1 (Vab 1 Tryz.f119) false) (by kernel_rfl) (mt1 ps (by omega))
 refine LP (n := ps.length + 1) (fun N M S => ∃ (v : Nat) (els : List DEm), v <= ps.length /\ els = (ps.take v).foldl Vdj [em0] /\ ps.length - v < N /\ M = () /\ S = (sx 83 [(3, .ptr 14 0), (15, jL (ps.map Vay)), (16, jI ((lenM Vay ps : Nat) : Int)), (17, jI ((v : Nat) : Int))] (stE ps els) [])) (by kernel_rfl) ⟨0, [em0], by omega, rfl, by omega, rfl, rfl⟩ (WK (by kernel_rfl)) ?_; rintro n0 M S ⟨v, els, hv, hels, hF0, rfl, rfl⟩; obtain ⟨n0, rfl⟩ : ∃ k, n0 = k + 1 := ⟨n0 - 1, by omega⟩
 have hinv := mtL_inv (ps.take v) [em0] (by decide) (by decide); rw [<- hels] at hinv
 have htl : (ps.take v).length = v := by rw [List.length_take]; omega
 rw [htl] at hinv; obtain ⟨i1, i2, i3⟩ := hinv
 have hl1 : ([em0] : List DEm).length = 1 := rfl
 by_cases h1 : v < ps.length
 ·have hd : decide (((v : Nat) : Int) < ((lenM Vay ps : Nat) : Int)) = true := dT (by omega)
  have hp : (el ps v).fKind = 0 := hk _ (Vff (l := ps) (i := v) h1)
  have hi := isrP_to (el ps v); cases hkp : Vnz (el ps v).fInline with
  | true =>
   have hkq : cond (((el ps v).fKind : Int) == 0) (Vnz (el ps v).fInline) false = true := by rw [hp]; exact hkp
   have hins := insL_to ps els (mkE (el ps v).fInline) (by omega) i1 i3; refine gO (tn 1 (kb hd (tn 1 (ke (Vq3 ps v h1) (tn 5 (kc hi (tn 1 (kb (isr0 hp) (tn 4 (kj (((el ps v).fKind : Int) == 0) (tn 5 (kj (((el ps v).fInline.fKind : Int) != 1) z (tn 4 z) z)) z (tn 1 (kb hkq (tn 4 (kg hins trivial (kn (wrE (((v : Nat) : Int) + 1) ((v + 1 : Nat) : Int) (by omega)) (tn 1 z)))))))))))))))) ?_; exact AG (m := n0) ⟨v + 1, insM els (mkE (el ps v).fInline) 0, by omega, by rw [tk1 h1, List.foldl_append, <- hels]; simp only [List.foldl_cons, List.foldl_nil, Vdj, hkp, cond_true], by omega, rfl, rfl⟩ (WK (by kernel_rfl)) (by kernel_rfl) (Zo _)
  | false =>
   have hkq : cond (((el ps v).fKind : Int) == 0) (Vnz (el ps v).fInline) false = false := by rw [hp]; exact hkp
   refine gO (tn 1 (kb hd (tn 1 (ke (Vq3 ps v h1) (tn 5 (kc hi (tn 1 (kb (isr0 hp) (tn 4 (kj (((el ps v).fKind : Int) == 0) (tn 5 (kj (((el ps v).fInline.fKind : Int) != 1) z (tn 4 z) z)) z (tn 1 (kb hkq (kn (wrE (((v : Nat) : Int) + 1) ((v + 1 : Nat) : Int) (by omega)) (tn 1 z)))))))))))))) ?_; exact AG (m := n0) ⟨v + 1, els, by omega, by rw [tk1 h1, List.foldl_append, <- hels]; simp only [List.foldl_cons, List.foldl_nil, Vdj, hkp, cond_false], by omega, rfl, rfl⟩ (WK (by kernel_rfl)) (by kernel_rfl) (Zo _)
 ·have hd : decide (((v : Nat) : Int) < ((lenM Vay ps : Nat) : Int)) = false := dF (by omega)
  have hvn : v = ps.length := by omega
  have hm : mtL ps = els := by rw [hels, hvn, List.take_length]; rfl
  rw [hm]; refine gO (tn 1 (kb hd z)) ?_; refine OUT (tn 2 z) (by kernel_rfl) ?_; exact eNs
end Go.Proofs.YtnpedjbgchdkbaaGreatDoor
