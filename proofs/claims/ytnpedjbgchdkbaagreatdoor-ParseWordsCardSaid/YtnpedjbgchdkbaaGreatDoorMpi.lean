/- Texts joined by a program (merge.py). -/
import Derived.Test.YtnpedjbgchdkbaaGreatDoorMph
import Derived.RangeFuncRecord
import Derived.RangeFuncIn
import Derived.Test.YtnpedjbgchdkbaaGreatDoorMpf
import Derived.Lib.Bytealg
import Derived.Lib.Builder
import Derived.Lib.UnsafeStr
import Derived.Lib.ConvBytes
import Derived.Lib.Atoi
import Derived.Laws.Externs
set_option linter.unusedSimpArgs false
set_option linter.unusedVariables false
open Nat renaming le_refl -> Za
open Array renaming getD_eq_getD_getElem? -> Zb
open Array renaming getElem?_modify -> Zc
open Nat renaming blt_eq -> Zd
open Option.some renaming injEq -> Ze
open Nat renaming zero_le -> Zf
open Array renaming getElem?_setIfInBounds -> Zg
namespace Go.CE
variable {P : Program}
theorem trX_tmp {t : Nat} (S : St) (ht : t < 576) : (trX (.tmp t)).get S = fget S.lo S.hi (slot t) := by
 have hb : Nat.blt t 576 = true := by rw [Zd]; exact ht
 simp only [trX, hb]; cases slot t <;> rfl
theorem trX_big {t : Nat} (S : St) (ht : ¬ t < 576) : (trX (.tmp t)).get S = .junk := by
 have hb : Nat.blt t 576 = false := by
  cases hb : Nat.blt t 576 with
  | false => rfl
  | true => rw [Zd] at hb; exact absurd hb ht
 simp only [trX, hb]
theorem no_defer {o : Oper} {call : Vag} {S : St} {v : CVal} {hp : HT} {nx : ID} (h : (trO P o).run call S = .ok v hp nx) : ∀ c, o.op ≠ .defer c := by
 intro c ho; unfold trO at h; rw [ho] at h; cases h
theorem bc_true {x : Bool} (h : bc x false true = true) : x = false := by cases x <;> first | rfl | cases h
theorem bc_and {x y : Bool} (h : bc x y false = true) : x = true /\ y = true := by cases x <;> first | exact ⟨rfl, h⟩ | cases h
theorem bc_imp {x y : Bool} (h : bc x y true = true) (hx : x = true) : y = true := by subst hx; exact h
theorem gives_ok {g : HT -> Rs} {v : CVal} {H : HT} (h : Viu g v H = true) : ∃ hp nx, g H = .ok v hp nx := by
 unfold Viu at h; cases hg : g H with
 | no => rw [hg] at h; cases h
 | ok u hp nx =>
  rw [hg] at h
  have := ceq_eq v u h; subst this; exact ⟨hp, nx, rfl⟩
section
variable {call : Vag} {nt : Nat} {all : List Oper} {S S' : St} {σ : Nat -> St} {v : Nat -> CVal} {f : Nat -> Ft} {ρ0 : Loc} {w0 : World}
theorem DC.inc (h : DC P call nt all S S' σ v f ρ0 w0) {j : Nat} (hj : j < all.length) (hf : f j = .a) : (σ (j + 1)).nx.n = (σ j).nx.n + 1 := by
 obtain ⟨hd, hp, nx, he, hst⟩ := h.trc.stp j all[j] (by simp); obtain ⟨p1, p2, p3, p4⟩ := Vbi ⟨(σ j).lo, (σ j).hi, hp, nx, (σ j).df, (σ j).rd⟩ all[j].dst (v j); rw [<- he] at p2; rw [p2]; rcases hst with ⟨_, hrun, hf'⟩ | ⟨_, _, _, _, hf'⟩
 ·have hk := op_kind hrun; rw [<- hf', hf] at hk; obtain ⟨c, k1, _⟩ := hk; exact Vdv k1
 ·rw [hf] at hf'; cases hf'
theorem DI.operands (h : DC P call nt all S S' σ v f ρ0 w0) {L : Nat -> Bool} {i : Nat} (hg : Gd all L i) {ρ : Loc} {w : World} {a : Act} (hd : DI all nt S σ f ρ0 w0 L ρ w a) : ∀ x ∈ (all[i]'hg.lt).op.operands, VR ρ (evS (σ i) x) (a.eval x) := by
 intro x hx; cases x with
 | tmp t =>
  by_cases ht : t < 576
  ·have h1 := hd.fr t ht
   rw [h.slot_eq hg ht (by
    simp only [looks, List.mem_append, List.mem_filterMap]
    exact .inl ⟨.tmp t, by simpa using hx, rfl⟩)] at h1
   show VR ρ ((trX (.tmp t)).get (σ i)) _; rw [trX_tmp _ ht]; exact h1
  ·show VR ρ ((trX (.tmp t)).get (σ i)) _; rw [trX_big _ ht]; simp only [VR]
 | const v => exact Vr0 ρ v
 | global g => simp only [evS, trX, VR]
 | func f => simp only [evS, trX, VR]; exact ⟨#[], #[], rfl, by simp [VRs], by simp [VRs]⟩
theorem DI.guard (h : DC P call nt all S S' σ v f ρ0 w0) {ops : Array Oper} (hops : ops.toList = all) {L : Nat -> Bool} {i : Nat} (hg : Gd all L i) {ρ : Loc} {w : World} {a : Act} (hd : DI all nt S σ f ρ0 w0 L ρ w a) {b : Bool} (hgr : Grd all nt (all[i]'hg.lt) (σ i) b) : Region.wanted (all[i]'hg.lt) (yielded ops a.tmps) = b := by
 rcases hgr with ⟨h1, rfl⟩ | ⟨j, want, t, g, h1, h2, h3, h4, h5⟩
 ·simp [Region.wanted, h1]
 ·have ht : t < 576 := Nat.lt_of_lt_of_le h4 h.sm
  have hv := hd.fr t ht; rw [h.slot_eq hg ht (by simp [looks, h1, Vfg, h2, h3])] at hv; rw [<- trX_tmp _ ht] at hv
  have hlt : t < a.tmps.size := by rw [hd.size]; exact h4
  have hu : a.tmps[t]? = some a.tmps[t] := by simp [hlt]
  have hgd : a.tmps.getD t undef = a.tmps[t] := by simp [Zb, hlt]
  rw [hgd] at hv
  have hgo : ops[j]? = some g := by rw [<- hops] at h2; simpa using h2
  rcases h5 with ⟨h5, rfl⟩ | ⟨q, h5, rfl⟩
  ·rw [h5] at hv; simp only [VR] at hv; obtain ⟨us, hus, _⟩ := hv; rw [hus] at hu; simp only [Region.wanted, h1, Vfs hgo h3 hu]; rfl
  ·rw [h5] at hv; rw [hv.b_eq] at hu; simp only [Region.wanted, h1, Vfs hgo h3 hu]; cases q <;> cases want <;> rfl
theorem DI.tri (h : DC P call nt all S S' σ v f ρ0 w0) {L : Nat -> Bool} {i : Nat} (hg : Gd all L i) {ρ : Loc} {w : World} {a : Act} (hd : DI all nt S σ f ρ0 w0 L ρ w a) {hp : HT} {nx : ID}
  (hrun : (trO P (all[i]'hg.lt)).run call (σ i) = .ok (v i) hp nx) (hf : f i = ftOf P (all[i]'hg.lt) call (σ i) (v i)) (hhp : (σ (i + 1)).hp = hp) (hnx : (σ (i + 1)).nx = nx) :
  Tri P (all[i]'hg.lt) (evS (σ i)) (ML σ f all.length L) (σ i).nx (v i) (ML σ f all.length (Eng.also L i)) (σ (i + 1)).nx /\ ∀ b, f i = .s b -> ∀ k, k < all.length -> L k = false -> f k = .a -> b ≠ (σ k).nx := by
 have hi := hg.lt
 have hnd := no_defer hrun
 have hoper := hd.operands h hg
 have hk := op_kind hrun; rw [<- hf] at hk
 have before : ∀ j, j < i -> L j = false -> Vcb (Vd4 σ f j) (Vd4 σ f i) = true := fun j hj hL => h.okp j i hj hi (hg.bef j hj hL)
 have after : ∀ j, i < j -> j < all.length -> L j = true -> Vcb (Vd4 σ f i) (Vd4 σ f j) = true := fun j hj hjn hL => h.okp i j hj hjn (hg.aft j hj hL)
 have lt_end : ∀ j, j < all.length -> f j = .a -> (σ j).nx.n < S'.nx.n := by
  intro j hj hfa
  have h1 := h.inc hj hfa
  have h2 := h.le (j + 1) all.length (by omega) (Za _); rw [<- h.lst] at h2; omega
 cases hfi : f i with
 | p =>
  rw [hfi] at hk; obtain ⟨k1, k2, k3⟩ := hk
  have hM : ML σ f all.length (Eng.also L i) = ML σ f all.length L := by
   funext x; exact Vb0 (by rw [hfi]; exact id)
  rw [hM, hnx, k2]; exact ⟨(k3 _ _).tri hnd, fun b hb => by cases hb⟩
 | l b u g =>
  rw [hfi] at hk; obtain ⟨rfl, k1, k2, k3, k4, k5⟩ := hk
  have hM : ML σ f all.length (Eng.also L i) = ML σ f all.length L := by
   funext x; exact Vb0 (by rw [hfi]; exact id)
  rw [hM, hnx, k2]; refine ⟨?_, fun b hb => by cases hb⟩
  have key : ∃ H hp' nx', ML σ f all.length L b = hget H b /\ g H = .ok (v i) hp' nx' := by
   -- from a place in the text before i on
   have low : ∀ m, m <= i -> (∀ j, m <= j -> j < all.length -> L j = true -> ¬ Tch (f j) (σ j).nx b) -> ML σ f all.length L b = hget (σ m).hp b -> ∃ H hp' nx', ML σ f all.length L b = hget H b /\ g H = .ok (v i) hp' nx' := by
    intro m hm hno hML
    by_cases hall : ∀ j, m <= j -> j < i -> ¬ Tch (f j) (σ j).nx b
    ·have := Vfj (T := fun j => Tch (f j) (σ j).nx b) (cur := fun j => hget (σ j).hp b) (n := all.length) (fun j hj hT => h.mem hj hT) i hm (by omega) hall; exact ⟨(σ i).hp, _, _, hML.trans this.symm, k4⟩
    ·have hex : ∃ j, m <= j /\ j < i /\ Tch (f j) (σ j).nx b := by
      apply Classical.byContradiction; intro hne; exact hall (fun j h1 h2 h3 => hne ⟨j, h1, h2, h3⟩)
     -- the first
     have hleast : ∃ j, m <= j /\ j < i /\ Tch (f j) (σ j).nx b /\ ∀ k, m <= k -> k < j -> ¬ Tch (f k) (σ k).nx b := by
      obtain ⟨j, h1, h2, h3⟩ := hex
      have : ∀ n j, j <= n -> m <= j -> j < i -> Tch (f j) (σ j).nx b -> ∃ j, m <= j /\ j < i /\ Tch (f j) (σ j).nx b /\ ∀ k, m <= k -> k < j -> ¬ Tch (f k) (σ k).nx b := by
       intro n
       induction n with
       | zero => intro j hj h1 h2 h3; exact ⟨j, h1, h2, h3, fun k _ hk => by omega⟩
       | succ n ih =>
        intro j hj h1 h2 h3
        by_cases hq : ∃ k, m <= k /\ k < j /\ Tch (f k) (σ k).nx b
        ·obtain ⟨k, q1, q2, q3⟩ := hq; exact ih k (by omega) q1 (by omega) q3
        ·exact ⟨j, h1, h2, h3, fun k q1 q2 q3 => hq ⟨k, q1, q2, q3⟩⟩
      exact this j j (Za _) h1 h2 h3
     obtain ⟨j, h1, h2, h3, h4⟩ := hleast
     have hcj := Vfj (T := fun j => Tch (f j) (σ j).nx b) (cur := fun j => hget (σ j).hp b) (n := all.length) (fun j hj hT => h.mem hj hT) j h1 (by omega) h4
     have hLj : L j = false := by
      cases hL : L j with
      | false => rfl
      | true => exact absurd h3 (hno j h1 (by omega) hL)
     have hok := before j h2 hLj
     have hgv : Viu g (v i) (σ j).hp = true := by
      simp only [Vd4, Vcb, hfi] at hok; cases hfj : f j with
      | p => rw [hfj] at h3; exact h3.elim
      | l _ _ _ => rw [hfj] at h3; exact h3.elim
      | s c =>
       rw [hfj] at h3 hok
       have h3 : b = c := h3; subst h3; exact (bc_and (bc_imp hok ((ID.same_iff _ _).2 rfl))).1
      | a => rw [hfj] at hok; exact (bc_and hok).1
      | g => rw [hfj] at hok; exact (bc_and hok).1
     obtain ⟨hp', nx', hgo⟩ := gives_ok hgv; exact ⟨(σ j).hp, hp', nx', hML.trans hcj.symm, hgo⟩
   rcases Vc2 (T := fun j => Tch (f j) (σ j).nx b) (cur := fun j => hget (σ j).hp b) (L := L) all.length with ⟨e, g1, g2, g3, g4, g5⟩ | ⟨g1, g2⟩
   ·rcases Nat.lt_trichotomy e i with q | q | q
    ·exact low (e + 1) q (fun j h1 h2 h3 => g4 j (by omega) h2 h3) g5
    ·subst q; rw [hg.un] at g2; cases g2
    ·have hok := after e q g1 g2
     have hgv : Viu g (v i) (σ (e + 1)).hp = true := by
      simp only [Vd4, Vcb, hfi] at hok; cases hfe : f e with
      | p => rw [hfe] at g3; exact g3.elim
      | l _ _ _ => rw [hfe] at g3; exact g3.elim
      | s c =>
       rw [hfe] at g3 hok
       have g3 : b = c := g3; subst g3; exact bc_imp hok ((ID.same_iff _ _).2 rfl)
      | a =>
       rw [hfe] at g3
       have g3 : b = (σ e).nx := g3
       have hle := h.le i e (by omega) (by omega)
       have := h.nm' (k := i) (by omega) (i := b) (by rw [g3]; exact hle) (by rw [g3]; exact lt_end e g1 hfe); exact absurd this k3
      | g => rw [hfe] at hok; exact hok
     obtain ⟨hp', nx', hgo⟩ := gives_ok hgv; exact ⟨(σ (e + 1)).hp, hp', nx', g5, hgo⟩
   ·exact low 0 (by omega) (fun j _ h2 h3 => g1 j h2 h3) g2
  obtain ⟨H, hp', nx', q1, q2⟩ := key; exact (k5 H _ _ _ q2 _ _ q1).tri hnd
 | s b =>
  rw [hfi] at hk; obtain ⟨c, off, x, x1, x2, k1, k2, k3, k4⟩ := hk
  have hb : ∃ y, ρ b = some y := by
   have := hoper x x1; rw [x2] at this; obtain ⟨blk, o', room, q1, _⟩ := this.p_eq; exact ⟨_, q1⟩
  have hfree : ∀ k, k < all.length -> L k = false -> f k = .a -> b ≠ (σ k).nx := by
   intro k hk hL hfa he; obtain ⟨y, hy⟩ := hb
   have h1 := h.inc hk hfa; rw [hd.free k hk hL b (by rw [he]; exact Za _) (by rw [he]; omega)] at hy; cases hy
  have later : ∀ j, i < j -> j < all.length -> L j = true -> ¬ Tch (f j) (σ j).nx b := by
   intro j hj hjn hL hT
   have hok := after j hj hjn hL; simp only [Vd4, Vcb, hfi] at hok; cases hfj : f j with
   | p => rw [hfj] at hT; exact hT
   | l _ _ _ => rw [hfj] at hT; exact hT
   | s c' =>
    rw [hfj] at hT hok
    have hT : b = c' := hT; subst hT
    have := bc_true hok; rw [(ID.same_iff _ _).2 rfl] at this; cases this
   | a =>
    rw [hfj] at hT
    have hT : b = (σ j).nx := hT
    have hle := h.le i j (by omega) (by omega); exact k1 (h.nm' (k := i) (by omega) (by rw [hT]; exact hle) (by rw [hT]; exact lt_end j hjn hfj))
   | g => rw [hfj] at hok; cases hok
  have hMb : ML σ f all.length L b = hget (σ i).hp b := by
   refine Vcw (n := all.length) (fun j hj hT => h.mem hj hT) (Za _) (by omega) (fun j hj hT => ?_) (fun j hj hjn hL hT => ?_)
   ·cases hL : L j with
    | true => rfl
    | false =>
     exfalso
     have hok := before j hj hL; simp only [Vd4, Vcb, hfi] at hok; cases hfj : f j with
     | p => rw [hfj] at hT; exact hT
     | l _ _ _ => rw [hfj] at hT; exact hT
     | s c' =>
      rw [hfj] at hT hok
      have hT : b = c' := hT; subst hT
      have := bc_true hok; rw [(ID.same_iff _ _).2 rfl] at this; cases this
     | a =>
      rw [hfj] at hT; exact hfree j (by omega) hL hfj hT
     | g => rw [hfj] at hok; cases hok
   ·by_cases e : j = i
    ·subst e; rw [hg.un] at hL; cases hL
    ·exact later j (by omega) hjn hL hT
  have hM : ML σ f all.length (Eng.also L i) = Mem.set (ML σ f all.length L) b c := by
   funext x
   by_cases hx : x = b
   ·subst hx
    have := Vbu (T := fun j => Tch (f j) (σ j).nx x) (cur := fun j => hget (σ j).hp x) (L := L) hi (by show Tch (f i) _ _; rw [hfi]; rfl) later; refine this.trans ?_
    show hget (σ (i + 1)).hp x = _; rw [hhp, k2, Vfc]; simp [Mem.set]
   ·simp only [Mem.set, if_neg hx]; exact Vb0 (by rw [hfi]; exact hx)
  rw [hM, hnx, k3]; refine ⟨(k4 _ _ hMb).tri hnd, fun b' hb' => ?_⟩; cases hb'; exact hfree
 | a =>
  rw [hfi] at hk; obtain ⟨c, k1, k2, k3⟩ := hk
  have hinc := h.inc hi hfi
  have hM : ML σ f all.length (Eng.also L i) = Mem.set (ML σ f all.length L) (σ i).nx c := by
   funext x
   by_cases hx : x = (σ i).nx
   ·subst hx
    have := Vbu (T := fun j => Tch (f j) (σ j).nx (σ i).nx) (cur := fun j => hget (σ j).hp (σ i).nx) (L := L) hi (by show Tch (f i) _ _; rw [hfi]; rfl) (fun j hj hjn hL hT => by
     have hok := after j hj hjn hL; simp only [Vd4, Vcb, hfi] at hok; cases hfj : f j with
     | p => rw [hfj] at hT; exact hT
     | l _ _ _ => rw [hfj] at hT; exact hT
     | s b =>
      rw [hfj] at hT; exact hd.st j hjn hL b hfj i hi hg.un hfi hT.symm
     | a =>
      rw [hfj] at hT
      have hT : (σ i).nx = (σ j).nx := hT
      have hle := h.le (i + 1) j (by omega) (by omega); rw [<- hT] at hle; omega
     | g => rw [hfj] at hok; cases hok)
    refine this.trans ?_
    show hget (σ (i + 1)).hp (σ i).nx = _; rw [hhp, k2, Vfc]; simp [Mem.set]
   ·simp only [Mem.set, if_neg hx]; exact Vb0 (by rw [hfi]; exact hx)
  rw [hM, hnx]; exact ⟨(k3 _).tri hnd, fun b hb => by cases hb⟩
 | g =>
  have hT : ∀ x, Tch (f i) (σ i).nx x := fun x => by rw [hfi]; trivial
  have own : ∀ x, (∀ j, i < j -> j < all.length -> L j = true -> ¬ Tch (f j) (σ j).nx x) -> ML σ f all.length L x = hget (σ i).hp x /\ ML σ f all.length (Eng.also L i) x = hget (σ (i + 1)).hp x := by
   intro x hx; refine ⟨Vcw (n := all.length) (fun j hj hT => h.mem hj hT) (Za _) (by omega) (fun j hj hT => ?_) (fun j hj hjn hL hT => ?_), Vbu (T := fun j => Tch (f j) (σ j).nx x) (cur := fun j => hget (σ j).hp x) hi (hT x) hx⟩
   ·cases hL : L j with
    | true => rfl
    | false =>
     exfalso
     have hok := before j hj hL; simp only [Vd4, Vcb, hfi] at hok; cases hfj : f j with
     | p => rw [hfj] at hT; exact hT
     | l _ _ _ => rw [hfj] at hT; exact hT
     | s c' => rw [hfj] at hok; cases hok
     | a => rw [hfj] at hok; cases hok
     | g => rw [hfj] at hok; cases hok
   ·by_cases e : j = i
    ·subst e; rw [hg.un] at hL; cases hL
    ·exact hx j (by omega) hjn hL hT
  have other : ∀ x, (∃ j, i < j /\ j < all.length /\ L j = true /\ Tch (f j) (σ j).nx x) -> hget (σ i).hp x = .no /\ hget (σ (i + 1)).hp x = .no /\ ML σ f all.length (Eng.also L i) x = ML σ f all.length L x := by
   rintro x ⟨j, hj, hjn, hL, hTj⟩
   have hok := after j hj hjn hL; simp only [Vd4, Vcb, hfi] at hok
   have hlate : ML σ f all.length (Eng.also L i) x = ML σ f all.length L x := Vit (T := fun j => Tch (f j) (σ j).nx x) hj hjn hL hTj; cases hfj : f j with
   | p => rw [hfj] at hTj; exact hTj.elim
   | l _ _ _ => rw [hfj] at hTj; exact hTj.elim
   | s c' => rw [hfj] at hok; cases hok
   | a =>
    rw [hfj] at hTj
    have hTj : x = (σ j).nx := hTj
    have h1 := h.le i j (by omega) (by omega)
    have h2 := h.le (i + 1) j (by omega) (by omega)
    have h3 := lt_end j hjn hfj; exact ⟨h.nm' (by omega) (by rw [hTj]; exact h1) (by rw [hTj]; exact h3), h.nm' (by omega) (by rw [hTj]; exact h2) (by rw [hTj]; exact h3), hlate⟩
   | g => rw [hfj] at hok; cases hok
  have em : ∀ x, (∀ j, i < j -> j < all.length -> L j = true -> ¬ Tch (f j) (σ j).nx x) \/ (∃ j, i < j /\ j < all.length /\ L j = true /\ Tch (f j) (σ j).nx x) := by
   intro x; rcases Classical.em (∃ j, i < j /\ j < all.length /\ L j = true /\ Tch (f j) (σ j).nx x) with q | q
   ·exact .inr q
   ·exact .inl (fun j h1 h2 h3 h4 => q ⟨j, h1, h2, h3, h4⟩)
  have htri := op_tri h.hcall hrun; rw [<- hhp, <- hnx] at htri; refine ⟨htri.frame (fun x hx => ?_) (fun x hx => ?_), fun b hb => by cases hb⟩
  ·rcases em x with q | q
   ·exact (own x q).1
   ·exact absurd (other x q).1 hx
  ·rcases em x with q | q
   ·obtain ⟨o1, o2⟩ := own x q; rw [o2] at hx ⊢
    split
    ·rename_i h1; exact absurd h1 hx
    ·rfl
   ·obtain ⟨o1, o2, o3⟩ := other x q; rw [o1, o2]; exact o3
theorem DI.step (h : DC P call nt all S S' σ v f ρ0 w0) {ops : Array Oper} (hops : ops.toList = all) {L : Nat -> Bool} {i : Nat} (hg : Gd all L i) {ρ : Loc} {w : World} {a : Act} (hd : DI all nt S σ f ρ0 w0 L ρ w a) {ro : Option Nat} {Q : Exit -> Act -> World -> Prop} {K : Act -> World -> Prop}
  (hK : ∀ ρ' w' a', DI all nt S σ f ρ0 w0 (Eng.also L i) ρ' w' a' -> K a' w') : wpOpIn (FR ro) 0 P ops Q i K a w := by
 have hi := hg.lt
 have hoi : ops[i]? = some all[i] := by
  have : ops.toList[i]? = some all[i] := by rw [hops]; simp
  simpa using this
 obtain ⟨hdst, hp, nx, he, hst⟩ := h.trc.stp i all[i] (by simp); obtain ⟨p1, p2, p3, p4⟩ := Vbi ⟨(σ i).lo, (σ i).hi, hp, nx, (σ i).df, (σ i).rd⟩ all[i].dst (v i); rw [<- he] at p1 p2; unfold wpOpIn; simp only [hoi]; rcases hst with ⟨hgr, hrun, hf⟩ | ⟨hgr, hv, h1, h2, hf⟩
 ·rw [hd.guard h hops hg hgr, if_pos rfl]; obtain ⟨htri, hs⟩ := hd.tri h hg hrun hf p1 p2; exact htri ro ρ w a K Q (hd.operands h hg) hd.hr (hd.free i hi hg.un) (fun ρ' u w' e1 e2 e3 => hK ρ' w' _ (hd.next h hg e1 e2 e3 hs))
 ·rw [hd.guard h hops hg hgr]; simp only [Bool.false_eq_true, if_false]; refine ⟨fun _ _ => trivial, hK ρ w _ (hd.next h hg ?_ ?_ ?_ ?_)⟩
  ·have hM : ML σ f all.length (Eng.also L i) = ML σ f all.length L := by
    funext x; exact Vb0 (by rw [hf]; exact id)
   rw [hM, p2]; simp only; rw [h2]; exact Ev.refl _ _ _ _
  ·have hM : ML σ f all.length (Eng.also L i) = ML σ f all.length L := by
    funext x; exact Vb0 (by rw [hf]; exact id)
   rw [hM]; exact hd.hr
  ·rw [hv]; exact Vdf ρ
  ·intro b hb; rw [hf] at hb; cases hb
end
end Go.CE
namespace Go.CE
variable {P : Program}
theorem Vnv : ∀ (l : List Oper) (acc : List Nat), masks l acc = Eng.masks l acc
 | [], acc => rfl
 | o :: l, acc => Vnv l (acc ++ [Vm9 o acc])
theorem Vpl {M : List Nat} {i j : Nat} (h : (M.getD i 0).testBit j = false) : ∀ b, j < b -> (j, i) ∈ loose M i b
 | 0, hb => by omega
 | b + 1, hb => by
  unfold loose; rcases Nat.lt_or_ge j b with q | q
  ·have ih := Vpl h b q
   split
   ·exact ih
   ·exact List.mem_cons_of_mem _ ih
  ·have : j = b := by omega
   subst this; rw [h]; simp
theorem Vf8 {M : List Nat} {i j : Nat} (hj : j < i) (h : (M.getD i 0).testBit j = false) : ∀ n, i < n -> (j, i) ∈ Vfw M n
 | 0, hn => by omega
 | n + 1, hn => by
  unfold Vfw; rcases Nat.lt_or_ge i n with q | q
  ·exact List.mem_append_right _ (Vf8 hj h n q)
  ·have : i = n := by omega
   subst this; exact List.mem_append_left _ (Vpl h i hj)
theorem Vk1 {rs : List Rec} : ∀ {l : List (Nat × Nat)}, Vee rs l = true -> ∀ q ∈ l, ∃ r s, rs[q.1]? = some r /\ rs[q.2]? = some s /\ Vcb r s = true
 | [], _, q, hq => by cases hq
 | p :: l, h, q, hq => by
  have h : (match rs[p.1]?, rs[p.2]? with | some r, some s => bc (Vcb r s) (Vee rs l) false | _, _ => false) = true := h
  split at h
  ·rename_i r s h1 h2; obtain ⟨g1, g2⟩ := bc_and h; rcases List.mem_cons.1 hq with rfl | hq
   ·exact ⟨r, s, h1, h2, g1⟩
   ·exact Vk1 g2 q hq
  ·cases h
theorem Vmo {ops : List Oper} : ∀ {n : Nat}, backOk ops n = true -> ∀ i o, i < n -> ops[i]? = some o -> ∀ e ∈ o.after, Region.binds .any e = true -> e.on < i
 | 0, _, i, _, hi, _ => by omega
 | n + 1, h, i, o, hi, ho => by
  unfold backOk at h
  split at h
  ·rename_i h1 h2; rcases Nat.lt_or_ge i n with q | q
   ·exact Vmo h1 i o q ho
   ·have : i = n := by omega
    subst this; rw [ho] at h2; intro e he hb; simp only [List.all_eq_true] at h2
    have := h2 e (by simpa using he); rw [hb] at this; simpa [Zd] using this
  ·cases h
theorem kd_l {op : Op} {x : Operand} (h : kd P op = .l x) : ∃ t, op = .load t x := by
 cases op with
 | load t y => simp only [kd, Kd.l.injEq] at h; exact ⟨t, by rw [h]⟩
 | slice t x lo hi mx => cases mx <;> cases h
 | convert s d y =>
  simp only [kd] at h
  split at h <;> cases h
 | call c =>
  obtain ⟨callee, args, tys⟩ := c; cases callee with
  | builtin b =>
   simp only [kd] at h
   repeat' (split at h)
   all_goals cases h
  | _ => cases h
 | _ => cases h
theorem read_ft {o : Oper} {call : Vag} {S : St} {v : CVal} {hp : HT} {nx : ID} (hr : (kd P o.op).read = true) (h : (trO P o).run call S = .ok v hp nx) : ftOf P o call S v = .p \/ ∃ b u g, ftOf P o call S v = .l b u g := by
 cases hk : kd P o.op with
 | p => exact .inl (ftOf_p hk)
 | l x =>
  obtain ⟨t, ho⟩ := kd_l hk; obtain ⟨b, off, h1, _⟩ := Vk8 ho h; right; unfold ftOf; rw [hk]; simp only [h1]; exact ⟨_, _, _, rfl⟩
 | s x => rw [hk] at hr; cases hr
 | a => rw [hk] at hr; cases hr
 | g => rw [hk] at hr; cases hr
theorem stp_pure {call : Vag} {nt : Nat} {all : List Oper} {o : Oper} {S S' : St} {v : CVal} {f : Ft} (h : Stp P call nt all o S v f S') (hk : (kd P o.op).pure = true) : f = .p := by
 obtain ⟨_, hp, nx, _, h⟩ := h; rcases h with ⟨_, _, rfl⟩ | ⟨_, _, _, _, rfl⟩
 ·cases hq : kd P o.op with
  | p => exact ftOf_p hq
  | _ => rw [hq] at hk; cases hk
 ·rfl
theorem stp_read {call : Vag} {nt : Nat} {all : List Oper} {o : Oper} {S S' : St} {v : CVal} {f : Ft} (h : Stp P call nt all o S v f S') (hk : (kd P o.op).read = true) : f = .p \/ ∃ b u g, f = .l b u g := by
 obtain ⟨_, hp, nx, _, h⟩ := h; rcases h with ⟨_, hrun, rfl⟩ | ⟨_, _, _, _, rfl⟩
 ·exact read_ft hk hrun
 ·exact .inl rfl
theorem Vj1 (r s : Rec) (h : r.f = .p \/ s.f = .p) : Vcb r s = true := by
 unfold Vcb; rcases h with h | h
 ·rw [h]
 ·rw [h]; cases r.f <;> rfl
theorem cold_ok {call : Vag} {nt : Nat} {all : List Oper} {S S' : St} {σ : Nat -> St} {v : Nat -> CVal} {f : Nat -> Ft} (ht : Trc P call nt all S S' σ v f) {j i : Nat} (hj : j < all.length) (hi : i < all.length) (h : hot P all (j, i) = false) : Vcb (Vd4 σ f j) (Vd4 σ f i) = true := by
 have sj := ht.stp j all[j] (by simp)
 have si := ht.stp i all[i] (by simp); unfold hot at h; simp only [List.getElem?_eq_getElem hj, List.getElem?_eq_getElem hi] at h
 split at h
 ·rename_i h1; exact Vj1 _ _ (.inl (stp_pure sj h1))
 ·exact Vj1 _ _ (.inr (stp_pure si (by assumption)))
 ·have h1 : (kd P all[j].op).read = true := by assumption
  have h2 : (kd P all[i].op).read = true := by assumption
  rcases stp_read sj h1 with q | ⟨b, u, g, q⟩
  ·exact Vj1 _ _ (.inl q)
  ·rcases stp_read si h2 with q' | ⟨b', u', g', q'⟩
   ·exact Vj1 _ _ (.inr q')
   ·simp only [Vcb, Vd4, q, q']
 ·cases h
theorem HR.heap {ρ : Loc} {M : Mem} {w w' : World} (h : HR ρ M w) (hw : w'.heap = w.heap) : HR ρ M w' :=
 ⟨fun i hi => by obtain ⟨blk, off, room, h1, h2⟩ := h.obj i hi; exact ⟨blk, off, room, h1, h2.mono (Sub.refl ρ) (by rw [hw])⟩, h.inj⟩
theorem draw_ok {call : Vag} (hm : P.follows .mixedOrders = true) (hcall : CallOk P call) (nt : Nat) (id : Nat) (ops : Array Oper) : Vbb P nt call (Vm0 P ops.toList nt) (.region id ops true) := by
 intro S e S' h; generalize hall : ops.toList = all at h
 have hlen : ops.size = all.length := by rw [<- hall]; simp
 have hgt : ∀ i : Nat, ops[i]? = all[i]? := by intro i; rw [<- hall]; simp
 unfold Vm0 at h
 split at h
 ·rename_i hback hapart
  have hrun : ∃ r, (Vey P all nt ((Vfw (masks all []) all.length).filter (hot P all)) all).run call S [] = r /\ r ≠ .no /\ r.out = some (e, S') := by
   split at h
   ·rename_i hnil; rw [hnil]; refine ⟨_, rfl, ?_, ?_⟩
    ·rw [trOps_D]; intro hno; rw [hno] at h; cases h
    ·rw [trOps_D]; exact h
   ·rename_i q l hq; rw [hq]; exact ⟨_, rfl, fun hno => (by simp only [hno] at h; cases h), h⟩
  obtain ⟨r, hrun, hno, hout⟩ := hrun; obtain ⟨S1, σ, v, f, rfl, h1, h2, h3, rs, _, h4, h5⟩ := trace all 0 (Zf _) rfl S [] r rfl hrun hno; cases hout
  have trc : Trc P call nt all S S' σ v f := ⟨h1, h2, fun j o ho => h3 j o (Zf _) ho⟩
  have hle : ∀ j k, j <= k -> k <= all.length -> (σ j).nx.n <= (σ k).nx.n := fun j k hjk hk => trc.le hcall j k hjk hk
  obtain ⟨hdf, hrd⟩ := trc.same all.length (Za _); rw [h2] at hdf hrd; refine ⟨⟨?_, hrd⟩, fun ro ρ0 w0 a0 Q hr ho hf hq => ?_⟩
  ·have := hle 0 all.length (Zf _) (Za _); rwa [h1, h2] at this
  have dc : DC P call nt all S S' σ v f ρ0 w0 := by
   refine ⟨hcall, trc, hr.small, fun j i hj hi hb o p hjo hip => ?_, fun j i hj hi hb => ?_, hr.hr, hf, hle, fun k hk i hi => ?_⟩
   ·have := List.all_eq_true.1 hapart (j, i) (Vf8 hj hb _ hi); unfold Vpf at this; simp only [hjo, hip] at this; exact this
   ·cases hh : hot P all (j, i) with
    | false => exact cold_ok trc (by omega) hi hh
    | true =>
     obtain ⟨r, s, q1, q2, q3⟩ := Vk1 h5 (j, i) (List.mem_filter.2 ⟨Vf8 hj hb _ hi, hh⟩); rw [h4 j (Zf _) (by omega)] at q1; rw [h4 i (Zf _) hi] at q2; cases q1; cases q2; exact q3
   ·obtain ⟨ρ, w, a, g1, g2⟩ := trc.run hcall hr hf k hk; exact g2.nam i hi
  apply wpIn_region_any hm
  have hback' := fun i o hi ho => Vmo hback i o hi ho
  have main : ∀ (fuel : Nat) (listed : Array Bool) (ρ : Loc) (w : World) (a : Act), listed.size = ops.size -> Eng.left (fun k => listed.getD k false) all.length <= fuel ->
    (∀ (k : Nat) ok, all[k]? = some ok -> listed.getD k false = true -> ∀ e ∈ ok.after, Region.binds .any e = true -> listed.getD e.on false = true) ->
    DI all nt S σ f ρ0 w0 (fun k => listed.getD k false) ρ w a -> wpAnyIn (FR ro) 0 P .any ops Q fuel listed a w := by
   have done : ∀ (listed : Array Bool) (ρ : Loc) (w : World) (a : Act), (∀ i, i < all.length -> listed.getD i false = true) -> DI all nt S σ f ρ0 w0 (fun k => listed.getD k false) ρ w a -> Q .normal a w := by
    intro listed ρ w a hall' hd
    have hM : ML σ f all.length (fun k => listed.getD k false) = hget S'.hp := by
     funext x
     have := Vcw (T := fun j => Tch (f j) (σ j).nx x) (cur := fun j => hget (σ j).hp x) (L := fun k => listed.getD k false) (n := all.length) (m := all.length) (k := all.length) (fun j hj hT => dc.mem hj hT) (Za _) (Za _) (fun j hj _ => hall' j hj) (fun j h1 h2 => by omega); refine this.trans ?_; rw [h2]
    have hF : ∀ κ, FL all σ all.length (fun k => listed.getD k false) κ = fget S'.lo S'.hi κ := by
     intro κ
     have := Vcw (T := Dst all κ) (cur := fun j => fget (σ j).lo (σ j).hi κ) (L := fun k => listed.getD k false) (n := all.length) (m := all.length) (k := all.length) (fun j hj hT => dc.frN κ hj hT) (Za _) (Za _) (fun j hj _ => hall' j hj) (fun j h1 h2 => by omega); refine this.trans ?_; rw [h2]
    have hev := hd.ev
    have hhr := hd.hr; rw [hM, h2] at hev; rw [hM] at hhr; refine hq ρ w a hev ⟨hhr, fun t ht => ?_, hd.size, hr.small, by rw [hdf]; exact hd.marks⟩
    have := hd.fr t ht; rwa [hF] at this
   intro fuel
   induction fuel with
   | zero =>
    intro listed ρ w a hsz hle' hcl hd
    have hall' := Eng.left_zero (Nat.le_zero.1 hle'); refine ⟨?_, done listed ρ w a hall' hd⟩; rw [List.eq_nil_iff_forall_not_mem]; intro j hj; obtain ⟨g1, o, g2, _⟩ := mem_ready.1 hj
    have hjl : j < ops.size := (Array.getElem?_eq_some_iff.1 g2).1
    have g3 := hall' j (by omega); simp only [Zb] at g1 g3; rw [Array.getElem?_eq_getElem (by omega : j < listed.size)] at g1 g3; simp only [Option.getD_some] at g1 g3; rw [g1] at g3; simp at g3
   | succ fuel ih =>
    intro listed ρ w a hsz hle' hcl hd
    have same : ∀ j, j < all.length -> listed.getD j true = listed.getD j false := by
     intro j hj; simp only [Zb]; rw [Array.getElem?_eq_getElem (by omega : j < listed.size)]; rfl
    refine ⟨fun hnil => ?_, fun i hi => ?_⟩
    ·apply done listed ρ w a _ hd; apply Classical.byContradiction; intro hno; obtain ⟨i, g1, g2, g3⟩ := Eng.least_false hno
     have : i ∈ Region.ready .any ops listed := by
      rw [mem_ready]; exact ⟨by rw [same i g1]; exact g2, all[i], by rw [hgt i]; simp [g1], fun e he hb => g3 e.on (hback' i all[i] g1 (by simp) e he hb)⟩
     rw [hnil] at this; simp at this
    ·obtain ⟨g1, o, g2, g3⟩ := mem_ready.1 hi; rw [hgt i] at g2
     have hil : i < all.length := by
      rcases Nat.lt_or_ge i all.length with h | h
      ·exact h
      ·simp [List.getElem?_eq_none h] at g2
     rw [same i hil] at g1
     have down : ∀ k, ((masks all []).getD i 0).testBit k = true -> k ≠ i -> listed.getD k false = true := by
      intro k hk hne
      have := Eng.masks_closed (Eng.also (fun k => listed.getD k false) i) all [] (fun j oj hj hL e he hb => by
       simp only [List.length_nil, Nat.zero_add, Eng.also] at hL ⊢
       split at hL
       ·rename_i hji; subst hji; rw [g2] at hj; simp only [Ze] at hj; subst hj
        split
        ·rfl
        ·exact g3 e he hb
       ·split
        ·rfl
        ·exact hcl j oj hj hL e he hb) (fun k hk => by simp at hk) i (by simp [Eng.also]) k (by rw [<- Vnv]; exact hk)
      simpa [Eng.also, hne] using this
     have up : ∀ k, listed.getD k false = true -> ((masks all []).getD k 0).testBit i = false := by
      intro k hk; cases hb : ((masks all []).getD k 0).testBit i with
      | false => rfl
      | true =>
       have := Eng.masks_closed (fun k => listed.getD k false) all [] (fun j oj hj hL e he hb => hcl j oj hj (by simpa using hL) e he hb) (fun k hk => by simp at hk) k hk i (by rw [<- Vnv]; exact hb); rw [g1] at this; simp at this
     have hg : Gd all (fun k => listed.getD k false) i := by
      refine ⟨hil, g1, fun j hj hL => ?_, fun j hj hL => up j hL⟩; cases hb : ((masks all []).getD i 0).testBit j with
      | false => rfl
      | true =>
       have := down j hb (by omega)
       have hL : listed.getD j false = false := hL; rw [hL] at this; cases this
     have hset : (fun k => (listed.setIfInBounds i true).getD k false) = Eng.also (fun k => listed.getD k false) i := by
      funext k; simp only [Eng.also]
      split
      ·rename_i hk; subst hk; simp [Zb, show k < listed.size by omega]
      ·rename_i hk; rw [getD_set_ne false (Ne.symm hk)]
     refine hd.step dc hall hg (fun ρ' w' a' hd' => ?_); refine ih (listed.setIfInBounds i true) ρ' w' a' (by simp [hsz]) ?_ ?_ ?_
     ·rw [hset]; have := Eng.left_also (L := fun k => listed.getD k false) g1 hil; omega
     ·intro k ok hk hL e he hb
      by_cases hki : k = i
      ·subst hki; rw [g2] at hk; simp only [Ze] at hk; subst hk; exact getD_set_true (g3 e he hb)
      ·rw [getD_set_ne false (Ne.symm hki)] at hL; exact getD_set_true (hcl k ok hk hL e he hb)
     ·rw [hset]; exact hd'
  refine main ops.size (Array.replicate ops.size false) ρ0 _ a0 (by simp) ?_ ?_ ?_
  ·have : ∀ (L : Nat -> Bool) m, Eng.left L m <= m := by
    intro L m
    induction m with
    | zero => simp [Eng.left]
    | succ m ih => simp only [Eng.left]; split <;> omega
   rw [hlen]; exact this _ _
  ·intro k ok hk hL; simp only [Zb, Array.getElem?_replicate] at hL
   split at hL <;> simp at hL
  ·have hfn : (fun k => (Array.replicate ops.size false).getD k false) = fun _ => false := by
    funext k; simp only [Zb, Array.getElem?_replicate]; split <;> rfl
   rw [hfn]
   have hM : ML σ f all.length (fun _ => false) = hget S.hp := by
    funext x; refine (Vmc (T := fun j => Tch (f j) (σ j).nx x) (cur := fun j => hget (σ j).hp x) (fun j _ h => by cases h)).trans ?_; rw [h1]
   have hF : ∀ κ, FL all σ all.length (fun _ => false) κ = fget S.lo S.hi κ := by
    intro κ; refine (Vmc (T := Dst all κ) (cur := fun j => fget (σ j).lo (σ j).hi κ) (fun j _ h => by cases h)).trans ?_; rw [h1]
   have hend := hle 0 all.length (Zf _) (Za _); rw [h1] at hend; refine ⟨by rw [hM]; exact hr.hr.heap rfl, fun t ht => by rw [hF]; exact hr.fr t ht, hr.size, hr.marks, fun k hk _ x x1 x2 => ?_, ?_, fun j _ h => by cases h⟩
   ·have q1 := hle 0 k (Zf _) (by omega)
    have q2 := hle (k + 1) all.length (by omega) (Za _); rw [h1] at q1; rw [h2] at q2; exact hf x (by omega) (by omega)
   ·rw [hM]; exact ⟨hend, Za _, rfl, rfl, rfl, fun _ _ => rfl, fun _ _ _ => rfl, fun i x h k => .inl ⟨i, x, h, k, rfl⟩, fun i h => .inl h⟩
 ·cases h
end Go.CE
namespace Go.CE
variable {P : Program} {call : Vag}
def FrR (ρ : Loc) (nt : Nat) (lo : Fr1) (hi : Fr2) (tmps : Array Value) : Prop := (∀ t, t < 576 -> VR ρ (fget lo hi (slot t)) (tmps.getD t undef)) /\ tmps.size = nt
theorem FrR.put {ρ : Loc} {nt : Nat} {S : St} {tmps : Array Value} (h : FrR ρ nt S.lo S.hi tmps) (hsm : nt <= 576) {d : Nat} (hd : d < nt) {v : CVal} {u : Value} (hv : VR ρ v u) : FrR ρ nt (S.putK (slot d) v).lo (S.putK (slot d) v).hi (tmps.setIfInBounds d u) := by
 refine ⟨fun t ht => ?_, by simp [h.2]⟩; simp only [St.putK]; rw [Vj5]; simp only [Zb, Zg]
 by_cases hdt : d = t
 ·subst hdt; rw [if_pos rfl, if_pos rfl, if_pos (by rw [h.2]; exact hd)]; exact hv
 ·rw [if_neg (fun e => hdt (Vd8 (by omega) (by omega) e.symm)), if_neg hdt]
  have := h.1 t ht; simpa [Zb] using this
theorem Vi7 {ρ : Loc} {nt : Nat} (hsm : nt <= 576) : ∀ (ps : List Tmp) (cs : List CVal) (us : List Value) (S S' : St) (tmps : Array Value), Vca ps cs nt S = some S' -> VRs ρ cs us -> FrR ρ nt S.lo S.hi tmps ->
  ps.length = us.length /\ FrR ρ nt S'.lo S'.hi ((ps.zip us).foldl (fun t (p, v) => t.setIfInBounds p v) tmps) /\ S'.hp = S.hp /\ S'.nx = S.nx /\ S'.df = S.df /\ S'.rd = S.rd
 | [], [], us, S, S', tmps, h, hv, hf => by
  simp only [VRs] at hv; subst hv; simp only [Vca, Ze] at h; subst h; exact ⟨rfl, hf, rfl, rfl, rfl, rfl⟩
 | p :: ps, c :: cs, us, S, S', tmps, h, hv, hf => by
  simp only [VRs] at hv; obtain ⟨u, us', rfl, h1, h2⟩ := hv; unfold Vca at h
  split at h
  ·rename_i hp; rw [Zd] at hp; obtain ⟨g1, g2, g3, g4, g5, g6⟩ := Vi7 hsm ps cs us' _ S' (tmps.setIfInBounds p u) h h2 (hf.put hsm hp h1); exact ⟨by simp [g1], g2, g3, g4, g5, g6⟩
  ·cases h
 | [], _ :: _, _, _, _, _, h, _, _ => by cases h
 | _ :: _, [], _, _, _, _, h, _, _ => by cases h
theorem end_ok {ρ : Loc} {S : St} {w : World} {b : ID} {x : Nat × Nat × Nat} {jump : Option Code} {v : CVal} {H' : HT} {n' : ID} (h : endRound b jump S = .ok v H' n') (hr : HR ρ (hget S.hp) w) (hx : ρ b = some x) :
  n' = S.nx /\ ∃ u w', (Instr.endRound x.1 jump).run P w = .ok u w' /\ Ev ρ (hget S.hp) S.nx w ρ (hget H') n' w' /\ HR ρ (hget H') w' /\ VR ρ v u := by
 unfold endRound at h
 split at h
 ·rename_i hb; obtain ⟨rfl, rfl, rfl⟩ := Vaa h
  have hne : hget S.hp b ≠ .no := by rw [hb]; simp
  obtain ⟨blk, off, room, q1, q2⟩ := hr.obj b hne; rw [hx] at q1; cases q1; rw [hb] at q2; obtain ⟨L, k1, k2, k3, k4, k5, k6, k7, k8, db, o', r', k9, k10⟩ := q2
  have hset := MapKept.heap_set (o' := .loop { L with state := if jump.isNone then .ready else .done, pending := jump }) k1; obtain ⟨e1, e2⟩ := Ve5 (n := S.nx) (w' := w.putObj blk (.loop { L with state := if jump.isNone then .ready else .done, pending := jump })) (c := .loop (match (generalizing := false) jump with | none => .ready | some _ => .done) jump _ _ _ _ _ _ _) hr hne hx (by simp [World.putObj]) rfl rfl rfl (fun k hk => hset.2 k hk) (.inr ⟨_, hset.1, by cases jump <;> rfl, rfl, k4, k5, k6, k7, k8, db, o', r', k9, k10⟩); refine ⟨rfl, .bool jump.isNone, _, run_endRound jump k1, ?_, ?_, by simp only [VR]⟩
  ·rw [Va6]; exact e1
  ·rw [Va6]; exact e2
 ·cases h
theorem round_ok (hcall : CallOk P call) (hdraw : ∀ (nt : Nat) (id : Nat) (ops : Array Oper), Vbb P nt call (Vm0 P ops.toList nt) (.region id ops true)) {b : ID} {args : List CVal} {H : HT} {n : ID} {v : CVal} {H' : HT} {n' : ID} (h : round P call b args H n = .ok v H' n') :
  n.n <= n'.n /\ ∀ (ρ : Loc) (w : World) (vs : List Value) (x : Nat × Nat × Nat), ρ b = some x -> VRs ρ args vs -> HR ρ (hget H) w -> Free ρ n n' -> RoundD P x.1 vs w (Res ρ (hget H) n w v (hget H') n') := by
 unfold round at h
 split at h
 ·rename_i st0 pd0 lo hi nt ps assign body df0 hb
  split at h
  ·rename_i S0 hS0
   split at h
   ·rename_i S hassign
    split at h
    ·rename_i pd lo' hi' nt' ps' x' y' d' hbS
     have fin : ∃ e S2 jump, ((trC P nt body).run call ⟨S.lo, S.hi, hput S.hp b (.loop .busy pd lo' hi' nt' ps' x' y' d'), S.nx, S.df, S.rd⟩).out = some (e, S2) /\ endRound b jump S2 = .ok v H' n' /\
       ∀ (l : Nat) (R : Ending -> World -> Prop) (a : Act) (w : World), (∃ u w', (Instr.endRound l jump).run P w = .ok u w' /\ R (.returned u) w') -> roundPost P l R e a w := by
      cases hr : (trC P nt body).run call ⟨S.lo, S.hi, hput S.hp b (.loop .busy pd lo' hi' nt' ps' x' y' d'), S.nx, S.df, S.rd⟩ with
      | no => rw [hr] at h; cases h
      | nx S2 => rw [hr] at h; exact ⟨_, S2, none, rfl, h, fun _ _ _ _ q => q⟩
      | rt S2 => rw [hr] at h; exact ⟨_, S2, some .ret, rfl, h, fun _ _ _ _ q => q⟩
      | ex id S2 => rw [hr] at h; exact ⟨_, S2, some (.exit id), rfl, h, fun _ _ _ _ q => q⟩
     obtain ⟨e, S2, jump, hbody, hend, hpost⟩ := fin
     have ca := Vc7 hcall (hdraw nt) assign S0 .normal S (by rw [hassign]; rfl)
     have cb := Vc7 hcall (hdraw nt) body _ e S2 hbody; obtain ⟨ga, ka⟩ := ca; obtain ⟨gb, kb⟩ := cb
     have gb1 : S.nx.n <= S2.nx.n := gb.le
     have same0 : S0.hp = H /\ S0.nx = n /\ S0.df = [] /\ S0.rd = some b := by
      have gen : ∀ (ps : List Tmp) (cs : List CVal) (A B : St), Vca ps cs nt A = some B -> B.hp = A.hp /\ B.nx = A.nx /\ B.df = A.df /\ B.rd = A.rd := by
       intro ps
       induction ps with
       | nil =>
        intro cs A B h; cases cs with
        | nil => simp only [Vca, Ze] at h; subst h; exact ⟨rfl, rfl, rfl, rfl⟩
        | cons c cs => cases h
       | cons p ps ih =>
        intro cs A B h; cases cs with
        | nil => cases h
        | cons c cs =>
         unfold Vca at h
         split at h
         ·exact ih cs (A.putK (slot p) c) B h
         ·cases h
      exact gen _ _ _ _ hS0
     obtain ⟨s1, s2, s3, s4⟩ := same0
     have hn' : n' = S2.nx := by
      unfold endRound at hend
      split at hend
      ·exact (Vaa hend).2.2.symm
      ·cases hend
     have hle0 : n.n <= S.nx.n := by rw [<- s2]; exact ga.le
     refine ⟨by rw [hn']; omega, fun ρ w vs x hx hv hr hf => ?_⟩; rw [hn'] at hf ⊢; obtain ⟨blk, off, room, q1, q2⟩ := hr.obj b (by rw [hb]; simp); rw [hx] at q1; cases q1; rw [hb] at q2; obtain ⟨L, k1, k2, k3, k4, ⟨k5, k5'⟩, k6, k7, k8, db, o', r', k9, k10⟩ := q2; obtain ⟨p1, p2, _⟩ := Vi7 (ρ := ρ) k5' ps args vs ⟨lo, hi, H, n, [], some b⟩ S0 L.tmps hS0 hv ⟨k4, k5⟩
     have hsz : vs.toArray.size = L.params.size := by rw [<- k6] at p1; simpa using p1.symm
     refine ⟨L.fn, _, L.assign, L.body, run_yield k1 hsz, roundIn_of_wpIn trivial ?_⟩
     have hzip : (L.params.zip vs.toArray).foldl (fun tmps (t, a) => tmps.setIfInBounds t a) L.tmps = (ps.zip vs).foldl (fun t (p, v) => t.setIfInBounds p v) L.tmps := by
      rw [<- k6]; rw [<- Array.foldl_toList]; simp
     rw [hzip, k7, k8]
     have cr0 : CR ρ nt S0 w { tmps := (ps.zip vs).foldl (fun t (p, v) => t.setIfInBounds p v) L.tmps, defers := [] } := ⟨by rw [s1]; exact hr, p2.1, p2.2, k5', by rw [s3]; rfl⟩
     have hfa : Free ρ n S.nx := hf.left gb1; refine ka (some blk) ρ w _ _ cr0 (by rw [s4]; exact ⟨_, hx, rfl⟩) (by rw [s2]; exact hfa) (fun ρ1 w1 a1 e1 r1 => ?_); rw [s1, s2] at e1
     have hsub1 := e1.sub hfa
     have hx1 := hsub1 _ _ hx
     have hneS : hget S.hp b ≠ .no := by rw [hbS]; simp
     obtain ⟨blk', off', room', q1, q2⟩ := r1.hr.obj b hneS; rw [hx1] at q1; cases q1; rw [hbS] at q2; obtain ⟨L1, j1, j2, j3, j4, j5, j6, j7, j8, db1, o1, r1', j9, j10⟩ := q2
     have hset := MapKept.heap_set (o' := .loop { L1 with state := .busy }) j1; obtain ⟨e2, h2⟩ := Ve5 (n := S.nx) (w' := w1.putObj blk (.loop { L1 with state := .busy })) (c := .loop .busy pd lo' hi' nt' ps' x' y' d') r1.hr hneS hx1 (by simp [World.putObj]) rfl rfl rfl (fun k hk => hset.2 k hk) (.inr ⟨_, hset.1, rfl, j3, j4, j5, j6, j7, j8, db1, o1, r1', j9, j10⟩); refine ⟨_, run_beginRound j1 j2, ?_⟩
     have cr1 : CR ρ1 nt ⟨S.lo, S.hi, hput S.hp b (.loop .busy pd lo' hi' nt' ps' x' y' d'), S.nx, S.df, S.rd⟩ (w1.putObj blk (.loop { L1 with state := .busy })) a1 := ⟨by rw [Va6]; exact h2, r1.fr, r1.size, r1.small, r1.marks⟩
     refine kb (some blk) ρ1 _ a1 _ cr1 (by show RO ρ1 (some blk) S.rd; rw [ga.rd, s4]; exact ⟨_, hx1, rfl⟩) (hf.right e1) (fun ρ2 w2 a2 e3 r2 => ?_)
     have e3 : Ev ρ1 (hget (hput S.hp b (.loop .busy pd lo' hi' nt' ps' x' y' d'))) S.nx (w1.putObj blk (.loop { L1 with state := .busy })) ρ2 (hget S2.hp) S2.nx w2 := e3; rw [Va6] at e3
     have hx2 := e3.sub (hf.right e1) _ _ hx1; obtain ⟨_, u, w3, t1, t2, t3, t4⟩ := end_ok (P := P) hend r2.hr hx2; refine hpost _ _ _ _ ⟨u, w3, t1, u, rfl, ρ2, ?_, t3, t4⟩; rw [hn'] at t2; exact ((e1.trans e2).trans e3).trans t2
    ·cases h
   ·cases h
  ·cases h
 ·cases h
def LibOk (P : Program) (f : FuncId) (g : LibF) : Prop := ∀ (args : List CVal) (H : HT) (n : ID) (v : CVal) (H' : HT) (n' : ID), g args H n = .ok v H' n' ->
 n.n <= n'.n /\ ∀ (ρ : Loc) (w : World) (vs : List Value), VRs ρ args vs -> HR ρ (hget H) w -> Free ρ n n' -> CallD P f vs w (Res ρ (hget H) n w v (hget H') n')
theorem callF_ok (hm : P.follows .mixedOrders = true) {lib : FuncId -> Option LibF} (hlib : ∀ f g, lib f = some g -> LibOk P f g) : ∀ n, CallOk P (callF P lib n)
 | 0 => ⟨fun g args H n v H' n' h => (by cases h), fun f args H n v H' n' h => (by cases h), fun b args H n v H' n' h => (by cases h)⟩
 | n + 1 => by
  have ih := callF_ok hm hlib n
  have hf : ∀ (f : FuncId) (args : List CVal) (H : HT) (m : ID) (v : CVal) (H' : HT) (m' : ID), callF P lib (n + 1) (.f f) args H m = .ok v H' m' -> m.n <= m'.n /\ ∀ (ρ : Loc) (w : World) (vs : List Value), VRs ρ args vs -> HR ρ (hget H) w -> Free ρ m m' -> CallD P f vs w (Res ρ (hget H) m w v (hget H') m') := by
   intro f args H m v H' m' h
   have h : (trF P lib f).run (callF P lib n) args H m = .ok v H' m' := h; cases hl : lib f with
   | some g =>
    have : (trF P lib f).run (callF P lib n) args H m = g args H m := by unfold trF; rw [hl]
    rw [this] at h; exact hlib f g hl _ _ _ _ _ _ h
   | none => exact fun_ok ih (fun nt id ops => draw_ok hm ih nt id ops) hl h
  have hy : ∀ (b : ID) (args : List CVal) (H : HT) (m : ID) (v : CVal) (H' : HT) (m' : ID), callF P lib (n + 1) (.y b) args H m = .ok v H' m' -> m.n <= m'.n /\ ∀ (ρ : Loc) (w : World) (vs : List Value) (x : Nat × Nat × Nat), ρ b = some x -> VRs ρ args vs -> HR ρ (hget H) w -> Free ρ m m' -> RoundD P x.1 vs w (Res ρ (hget H) m w v (hget H') m') := by
   intro b args H m v H' m' h; exact round_ok ih (fun nt id ops => draw_ok hm ih nt id ops) (show round P (callF P lib n) b args H m = .ok v H' m' from h)
  refine ⟨fun g args H m v H' m' h => ?_, fun f args H m v H' m' h => (hf f args H m v H' m' h).2, fun b args H m v H' m' h => (hy b args H m v H' m' h).2⟩; cases g with
  | f f => exact (hf f args H m v H' m' h).1
  | y b => exact (hy b args H m v H' m' h).1
end Go.CE
namespace Go.CE
variable {P : Program}
theorem u8_eq {x c : Nat} (hx : x < 256) (hc : c < 256) : (UInt8.ofNat x == UInt8.ofNat c) = Nat.beq x c := by
 cases hb : Nat.beq x c with
 | true => rw [Nat.beq_eq] at hb; subst hb; simp
 | false =>
  have hne : x ≠ c := by intro e; subst e; rw [Nat.beq_refl] at hb; cases hb
  rw [beq_eq_false_iff_ne]; intro e
  have := congrArg UInt8.toNat e; simp at this; omega
theorem isB_eq {c : Nat} (hc : c < 256) : ∀ (l : List Nat) (i : Nat), (∀ x ∈ l, x < 256) -> isB c i l = if Lib.indexByte (l.map UInt8.ofNat) (UInt8.ofNat c) = -1 then -1 else Lib.indexByte (l.map UInt8.ofNat) (UInt8.ofNat c) + i
 | [], i, _ => by simp [isB, Lib.indexByte]
 | x :: l, i, h => by
  have ih := isB_eq hc l (i + 1) (fun y hy => h y (by simp [hy]))
  have hge := Lib.indexByte_ge (l.map UInt8.ofNat) (UInt8.ofNat c); simp only [List.map_cons, Lib.indexByte, isB]; rw [u8_eq (h x (by simp)) hc]; cases hb : Nat.beq x c with
  | true => simp
  | false =>
   simp only [Bool.false_eq_true, if_false]; rw [ih]; generalize Lib.indexByte (l.map UInt8.ofNat) (UInt8.ofNat c) = q at hge
   by_cases hq : q = -1
   ·simp [hq]
   ·have : (q == -1) = false := by simpa using hq
    rw [if_neg hq, this]; simp only [Bool.false_eq_true, if_false]; rw [if_neg (by omega)]; omega
theorem cntB_eq {c : Nat} (hc : c < 256) : ∀ (l : List Nat), (∀ x ∈ l, x < 256) -> cntB c l = Lib.countByte (l.map UInt8.ofNat) (UInt8.ofNat c)
 | [], _ => by simp [cntB, Lib.countByte]
 | x :: l, h => by
  have ih := cntB_eq hc l (fun y hy => h y (by simp [hy])); simp only [Lib.countByte] at ih; simp only [List.map_cons, Lib.countByte, List.count_cons, cntB]; rw [u8_eq (h x (by simp)) hc]; cases hb : Nat.beq x c with
  | true => simp [ih]
  | false => simp [ih]
theorem Viy (l : List Nat) : (str l).data.toList = l.map UInt8.ofNat := by simp [str]
theorem int_u8 (c : Nat) : (Int.ofNat c).toNat.toUInt8 = UInt8.ofNat c := rfl
theorem lib_index {f : FuncId} (hrun : ∀ (args : Array Value) (w : World), (callFunc f args).run P w = ((Extern.BytealgIndexByte.indexByte args).run P w).andThen fun v w' => .ok (.value v) w') : LibOk P f libIndexByte := by
 intro args H n v H' n' h; unfold libIndexByte at h
 split at h
 ·rename_i l c; obtain ⟨hc, h⟩ := Voc h; obtain ⟨rfl, rfl, rfl⟩ := Vaa h; rw [Zd] at hc; refine ⟨Za _, fun ρ w vs hv hr hf => .inl ?_⟩; obtain ⟨x, y, rfl, g1, g2⟩ := VRs2 hv; obtain ⟨rfl, hl⟩ := g1.s_eq; simp only [VR] at g2; subst g2; refine ⟨.int .i64 (isB c 0 l), w, ?_, ρ, Ev.refl _ _ _ _, hr, by simp only [VR]⟩; rw [hrun]
  show ((Extern.BytealgIndexByte.indexByte #[.string (str l), .int .u8 (.ofNat c)]).run P w).andThen _ = _; rw [Lib.run_indexByteString, Viy, int_u8, isB_eq hc l 0 hl]; simp only [Result.andThen]; congr 3
  split
  ·rename_i q; rw [q]
  ·simp
 ·cases h
theorem lib_count {f : FuncId} (hrun : ∀ (args : Array Value) (w : World), (callFunc f args).run P w = ((Extern.BytealgCount.count args).run P w).andThen fun v w' => .ok (.value v) w') : LibOk P f libCount := by
 intro args H n v H' n' h; unfold libCount at h
 split at h
 ·rename_i l c; obtain ⟨hc, h⟩ := Voc h; obtain ⟨rfl, rfl, rfl⟩ := Vaa h; rw [Zd] at hc; refine ⟨Za _, fun ρ w vs hv hr hf => .inl ?_⟩; obtain ⟨x, y, rfl, g1, g2⟩ := VRs2 hv; obtain ⟨rfl, hl⟩ := g1.s_eq; simp only [VR] at g2; subst g2; refine ⟨.int .i64 (.ofNat (cntB c l)), w, ?_, ρ, Ev.refl _ _ _ _, hr, by simp only [VR]⟩; rw [hrun]
  show ((Extern.BytealgCount.count #[.string (str l), .int .u8 (.ofNat c)]).run P w).andThen _ = _; rw [Lib.run_countString, Viy, int_u8, cntB_eq hc l hl]; rfl
 ·cases h
theorem Vkx {ρ : Loc} : ∀ (l : List CVal) (s : List Nat) (us : List Value), Vcz l = some s -> VRs ρ l us -> (∀ x ∈ s, x < 256) /\ us = s.map (fun n => Value.int .u8 (.ofNat n))
 | [], s, us, h, hv => by
  simp only [Vcz, Ze] at h; subst h; simp only [VRs] at hv; subst hv; exact ⟨fun x hx => by simp at hx, rfl⟩
 | c :: l, s, us, h, hv => by
  unfold Vcz at h
  split at h
  ·cases ‹_ = []›
  ·rename_i n l' he; cases he
   split at h
   ·rename_i r hb hr; cases h; simp only [VRs] at hv; obtain ⟨u, us', rfl, g1, g2⟩ := hv; simp only [VR] at g1; subst g1; obtain ⟨k1, k2⟩ := Vkx l r us' hr g2; rw [Zd] at hb; refine ⟨fun x hx => ?_, by rw [k2]; rfl⟩; rcases List.mem_cons.1 hx with rfl | hx
    ·exact hb
    ·exact k1 x hx
   ·cases h
  ·cases h
def StringRuns (P : Program) (f : FuncId) : Prop := Eng.Enterable P f /\
 (∀ (b o : Nat) (w : World), w.cell? ⟨b, o + 1, none⟩ = some (.slice none 0 0) -> Calls P f #[.pointer (some ⟨b, o, none⟩)] w fun e w' => e = .returned (.string .empty) /\ w'.heap = w.heap /\ w'.os = w.os /\ w'.tape = w.tape /\ w'.output = w.output) /\
 (∀ (b o : Nat) (g cap : Nat) (cur : Array Value) (fz : Nat × Nat) (l : List UInt8) (w : World), l ≠ [] -> l.length <= cap -> l.length <= cur.size -> l.length <= 9223372036854775807 -> w.cell? ⟨b, o + 1, none⟩ = some (.slice (some ⟨g, 0, none⟩) l.length cap) -> w.heap[g]? = some (.cells cur 5 fz) ->
  (∀ j x, l[j]? = some x -> w.cell? ⟨g, j, none⟩ = some (.int .u8 x.toNat)) -> Calls P f #[.pointer (some ⟨b, o, none⟩)] w fun e w' => e = .returned (.string ⟨l.toArray⟩) /\ w'.heap = (w.freeze ⟨g, 0, none⟩ l.length).heap /\ w'.os = w.os /\ w'.tape = w.tape /\ w'.output = w.output)
def CheckRuns (P : Program) (f : FuncId) : Prop := Eng.Enterable P f /\
 (∀ (b : Nat) (w : World), w.cell? ⟨b, 0, none⟩ = some (.pointer (some ⟨b, 0, none⟩)) -> Calls P f #[.pointer (some ⟨b, 0, none⟩)] w fun e w' => e = .returned (.tuple #[]) /\ w' = w) /\
 (∀ (b N : Nat) (w : World), 2 <= N -> w.cell? ⟨b, 0, none⟩ = some (.pointer none) -> w.shape? b = some (67, N) -> w.frozen? ⟨b, 0, none⟩ = false -> Calls P f #[.pointer (some ⟨b, 0, none⟩)] w fun e w' => e = .returned (.tuple #[]) /\ w' = w.setCell ⟨b, 0, none⟩ (.pointer (some ⟨b, 0, none⟩)))
theorem ZT_BT : ZT 67 = true := rfl
theorem ZT_U8 : ZT 5 = true := rfl
theorem VRs1 {ρ : Loc} {c : CVal} {us : List Value} (h : VRs ρ [c] us) : ∃ x, us = [x] /\ VR ρ c x := by
 simp only [VRs] at h; obtain ⟨x, us', rfl, h1, rfl⟩ := h; exact ⟨x, rfl, h1⟩
theorem Ev.heap {ρ : Loc} {M : Mem} {n : ID} {w w' : World} (h1 : w'.heap = w.heap) (h2 : w'.os = w.os) (h3 : w'.tape = w.tape) (h4 : w'.output = w.output) : Ev ρ M n w ρ M n w' :=
 ⟨Za _, by rw [h1]; exact Za _, h2, h3, h4, fun _ _ => rfl, fun _ _ _ => by rw [h1], fun i x h k => .inl ⟨i, x, h, k, rfl⟩, fun i h => .inl h⟩
theorem Vpy (w : World) (g n k : Nat) (hk : k ≠ g) : (w.freeze ⟨g, 0, none⟩ n).heap[k]? = w.heap[k]? := by
 unfold World.freeze
 split
 ·rfl
 ·simp [Zc, Ne.symm hk]
theorem freeze_size (w : World) (g n : Nat) : (w.freeze ⟨g, 0, none⟩ n).heap.size = w.heap.size := by
 unfold World.freeze
 split
 ·rfl
 ·simp
theorem freeze_row (w : World) (g n : Nat) (hn : n ≠ 0) {arr : Array Value} {e : TypeId} {lo hi : Nat} (h : w.heap[g]? = some (.cells arr e (lo, hi))) : ∃ lo' hi', (w.freeze ⟨g, 0, none⟩ n).heap[g]? = some (.cells arr e (lo', hi')) /\ hi' <= max hi n := by
 unfold World.freeze; rw [if_neg hn]; simp only [Zc, h, if_true, Option.map_some]
 by_cases hl : lo = hi
 ·subst hl; exact ⟨0, 0 + n, by simp, by omega⟩
 ·exact ⟨min lo 0, max hi (0 + n), by simp [hl], by omega⟩
theorem lib_string {f : FuncId} (hs : StringRuns P f) : LibOk P f libString := by
 intro args H n v H' n' h; unfold libString at h
 split at h
 ·rename_i b o
  split at h
  ·rename_i e0 len fz0 c hb
   split at h
   ·rename_i hlt; rw [Zd] at hlt
    split at h
    ·rename_i hc; obtain ⟨rfl, rfl, rfl⟩ := Vaa h; refine ⟨Za _, fun ρ w vs hv hr hf => .inr ⟨hs.1, ?_⟩⟩; obtain ⟨x, rfl, g⟩ := VRs1 hv; obtain ⟨blk, off, room, q1, rfl⟩ := g.p_eq; obtain ⟨u, k1, k2, _⟩ := Vi2 (ObjR.cells_of hr hb q1) hlt; rw [hc] at k2
     have := k2.nil_eq; subst this; refine (callsIn_wide.2 (hs.2.1 blk (off + o) w (by rw [Nat.add_assoc]; exact k1))).mono ?_; rintro e w' ⟨rfl, h1, h2, h3, h4⟩; exact ⟨_, rfl, ρ, Ev.heap h1 h2 h3 h4, hr.heap h1, by simp only [VR]; exact ⟨rfl, fun x hx => by cases hx⟩⟩
    ·rename_i b2 m hc
     split at h
     ·rename_i e len2 fz c2 hb2
      split at h
      ·rename_i l he hl
       split at h
       ·rename_i s hby; obtain ⟨rfl, rfl, rfl⟩ := Vaa h; rw [Nat.beq_eq] at he; subst he; refine ⟨Za _, fun ρ w vs hv hr hf => .inr ⟨hs.1, ?_⟩⟩; obtain ⟨x, rfl, g⟩ := VRs1 hv; obtain ⟨blk, off, room, q1, rfl⟩ := g.p_eq; obtain ⟨u, k1, k2, _⟩ := Vi2 (ObjR.cells_of hr hb q1) hlt; rw [hc] at k2; obtain ⟨blk2, off2, room2, cap, ad, r1, rfl, r3, r4⟩ := k2.sl_eq; obtain ⟨rfl, r5⟩ := r4 (by omega)
        have hob2 := ObjR.cells_of hr hb2 r1; obtain ⟨us, j1, j2, j3, j4⟩ := Vj7 hob2 hl; obtain ⟨arr, lo, hi, g1, g2, g3, g4, g5, g6⟩ := hob2
        have hz : off2 = 0 := g2.2 ZT_U8; subst hz; obtain ⟨b1, b2'⟩ := Vkx l s us hby j2
        have hsl : s.length = m + 1 := by rw [b2'] at j1; simpa using j1
        obtain ⟨gl, gl2⟩ := Vck _ _ _ hl
        have gl3 := (gl2 m (by omega)).1
        have hul : (s.map UInt8.ofNat).length = m + 1 := by simp [hsl]
        have hroom : m + 1 <= arr.size := by
         rw [Nat.mul_one] at r5; omega
        have hcells : ∀ (j : Nat) x, (s.map UInt8.ofNat)[j]? = some x -> w.cell? ⟨blk2, j, none⟩ = some (.int .u8 x.toNat) := by
         intro j x hx; rw [List.getElem?_map, Option.map_eq_some_iff] at hx; obtain ⟨y, y1, rfl⟩ := hx
         have := j4 j (.int .u8 (.ofNat y)) (by rw [b2', List.getElem?_map, y1]; rfl); simp only [Nat.zero_add] at this; rw [this]
         have hy := b1 y (List.mem_of_getElem? y1)
         have : (UInt8.ofNat y).toNat = y := by simp [hy]
         rw [this]; rfl
        refine (callsIn_wide.2 (hs.2.2 blk (off + o) blk2 cap arr (lo, hi) (s.map UInt8.ofNat) w (by intro e; rw [e] at hul; simp at hul) (by rw [hul]; exact r3) (by rw [hul]; exact hroom) (by rw [hul]; omega) (by rw [hul, Nat.add_assoc]; exact k1) g1 hcells)).mono ?_; rintro e w' ⟨rfl, h1, h2, h3, h4⟩; obtain ⟨lo', hi', f1, f2⟩ := freeze_row w blk2 (s.map UInt8.ofNat).length (by rw [hul]; omega) g1; obtain ⟨e1, e2⟩ := Ve5 (n := n) (w' := w') (c := .cells 5 len2 (max fz (m + 1)) c2) hr (by rw [hb2]; simp) r1 (by rw [h1, freeze_size]) h2 h3 h4 (fun k hk => by rw [h1]; exact Vpy w blk2 _ k hk) (.inr ⟨arr, lo', hi', by rw [h1]; exact f1, ⟨by rw [hul] at f2; have := g2.1; omega, fun _ => rfl⟩, g3, g4, g5, g6⟩); refine ⟨_, rfl, ρ, ?_, ?_, ?_⟩
        ·rw [Va6]; exact e1
        ·rw [Va6]; exact e2
        ·simp only [VR]; exact ⟨rfl, b1⟩
       ·cases h
      ·cases h
     ·cases h
    ·cases h
   ·cases h
  ·cases h
 ·cases h
theorem lib_check {f : FuncId} (hs : CheckRuns P f) : LibOk P f libCheck := by
 intro args H n v H' n' h; unfold libCheck at h
 split at h
 ·rename_i b
  split at h
  ·rename_i e len fz c hb
   split at h
   ·rename_i he hlt; rw [Nat.beq_eq] at he; subst he; rw [Zd] at hlt
    have base : ∀ {ρ : Loc} {w : World} {vs : List Value}, VRs ρ [.p b 0] vs -> HR ρ (hget H) w -> ∃ blk room arr lo u, vs = [.pointer (some ⟨blk, 0, none⟩)] /\ ρ b = some (blk, 0, room) /\ w.heap[blk]? = some (.cells arr 67 (lo, 0)) /\ 2 <= arr.size /\ w.cell? ⟨blk, 0, none⟩ = some u /\ VR ρ (cget c 0) u := by
     intro ρ w vs hv hr; obtain ⟨x, rfl, g⟩ := VRs1 hv; obtain ⟨blk, off, room, q1, rfl⟩ := g.p_eq
     have hob := ObjR.cells_of hr hb q1; obtain ⟨u, k1, k2, _⟩ := Vi2 hob (show 0 < len by omega); obtain ⟨arr, lo, hi, g1, g2, g3, g4, g5, g6⟩ := hob
     have hz : off = 0 := g2.2 ZT_BT; subst hz
     have hhi : hi = 0 := by have := g2.1; omega
     subst hhi; exact ⟨blk, room, arr, lo, u, rfl, q1, g1, by omega, k1, k2⟩
    split at h
    ·rename_i hc; obtain ⟨rfl, rfl, rfl⟩ := Vaa h; refine ⟨Za _, fun ρ w vs hv hr hf => .inr ⟨hs.1, ?_⟩⟩; obtain ⟨blk, room, arr, lo, u, rfl, q1, q2, q3, q4, q5⟩ := base hv hr; rw [hc] at q5
     have := q5.v_eq; subst this; refine (callsIn_wide.2 (hs.2.2 blk arr.size w q3 q4 (by simp [World.shape?, q2]) (by simp [World.frozen?, q2]))).mono ?_; rintro e w' ⟨rfl, rfl⟩
     have hrow : (w.setCell ⟨blk, 0, none⟩ (.pointer (some ⟨blk, 0, none⟩))).heap[blk]? = some (.cells (arr.setIfInBounds 0 (.pointer (some ⟨blk, 0, none⟩))) 67 (lo, 0)) := by
      simp [World.setCell, Zc, q2]
     obtain ⟨arr', lo', hi', g1, g2, g3, g4, g5, g6⟩ := ObjR.cells_of hr hb q1; rw [q2] at g1; cases g1
     obtain ⟨e1, e2⟩ := Ve5 (n := n) (w' := w.setCell ⟨blk, 0, none⟩ (.pointer (some ⟨blk, 0, none⟩))) (c := .cells 67 len 0 (cput c 0 (.p b 0))) hr (by rw [hb]; simp) q1 (by simp [World.setCell]) rfl rfl rfl (fun k hk => by simp [World.setCell, Zc, Ne.symm hk]) (.inr ⟨_, lo, 0, hrow, g2, by simpa using g3, g4, g5, fun j hj => by
      obtain ⟨u, t1, t2, t3⟩ := g6 j hj; rw [Vks c 0 j _ (by omega) (by omega)]
      try simp only [Nat.zero_add] at t1
      try simp only [Nat.zero_add]
      by_cases hj0 : j = 0
      ·subst hj0; refine ⟨.pointer (some ⟨blk, 0, none⟩), (show (arr.setIfInBounds 0 _)[0]? = _ by rw [Zg, if_pos rfl, if_pos (by omega)]), ?_, rfl⟩; rw [if_pos rfl]; simp only [VR]; exact ⟨blk, 0, room, q1, rfl⟩
      ·rw [if_neg hj0]
       exact ⟨u, by rw [Zg, if_neg (Ne.symm hj0)]; exact t1, t2, t3⟩⟩)
     refine ⟨_, rfl, ρ, ?_, ?_, ?_⟩
     ·rw [Va6]; exact e1
     ·rw [Va6]; exact e2
     ·exact Vdf ρ
    ·rename_i b' hc
     split at h
     ·rename_i hbb; obtain ⟨rfl, rfl, rfl⟩ := Vaa h; rw [ID.same_iff] at hbb; subst hbb; refine ⟨Za _, fun ρ w vs hv hr hf => .inr ⟨hs.1, ?_⟩⟩; obtain ⟨blk, room, arr, lo, u, rfl, q1, q2, q3, q4, q5⟩ := base hv hr; rw [hc] at q5; obtain ⟨blk', off', room', z1, rfl⟩ := q5.p_eq; rw [q1] at z1; cases z1; refine (callsIn_wide.2 (hs.2.1 blk w q4)).mono ?_; rintro e w' ⟨rfl, rfl⟩; exact ⟨_, rfl, ρ, Ev.refl _ _ _ _, hr, Vdf ρ⟩
     ·cases h
    ·cases h
   ·cases h
  ·cases h
 ·cases h
def AtoiRuns (P : Program) (f : FuncId) : Prop := Eng.Enterable P f /\ ∀ (s : ByteArray) (n : Int), s.size <= 18 -> Lib.atoi s.data.toList = some n -> ∀ w : World, Calls P f #[.string s] w fun e w' => e = .returned (.tuple #[.int .i64 n, .nilIface]) /\ ∃ t5 t, w' = Lib.bytesWorld w t5 t
theorem HR.grow {ρ : Loc} {M : Mem} {w w' : World} (h : HR ρ M w) (hw : ∀ b, b < w.heap.size -> w'.heap[b]? = w.heap[b]?) : HR ρ M w' :=
 ⟨fun i hi => by obtain ⟨blk, off, room, h1, h2⟩ := h.obj i hi; exact ⟨blk, off, room, h1, h2.mono (Sub.refl ρ) (hw blk h2.lt)⟩, h.inj⟩
theorem Vo1 (w : World) (g o n k : Nat) (hk : k ≠ g) : (w.freeze ⟨g, o, none⟩ n).heap[k]? = w.heap[k]? := by
 unfold World.freeze
 split
 ·rfl
 ·simp [Zc, Ne.symm hk]
theorem Vpx (w : World) (g o n : Nat) : (w.freeze ⟨g, o, none⟩ n).heap.size = w.heap.size := by
 unfold World.freeze
 split <;> simp
theorem Vg6 (w : World) (e : TypeId) (s : ByteArray) (b : Nat) (hb : b < w.heap.size) : (Lib.bytesWorld w e s).heap[b]? = w.heap[b]? := by
 unfold Lib.bytesWorld; rw [Vo1 _ _ _ _ _ (by omega)]; exact Eng.heap_alloc_lt w.drew _ hb
theorem Vkv (w : World) (e : TypeId) (s : ByteArray) : (Lib.bytesWorld w e s).heap.size = w.heap.size + 1 := by
 unfold Lib.bytesWorld; rw [Vpx]; simp
theorem Vkw (w : World) (e : TypeId) (s : ByteArray) : (Lib.bytesWorld w e s).os = w.os /\ (Lib.bytesWorld w e s).tape = w.tape /\ (Lib.bytesWorld w e s).output = w.output := by
 unfold Lib.bytesWorld World.freeze
 split <;> exact ⟨rfl, rfl, rfl⟩
theorem lib_atoi {f : FuncId} (hs : AtoiRuns P f) : LibOk P f libAtoi := by
 intro args H n v H' n' h; unfold libAtoi at h
 split at h
 ·rename_i l
  split at h
  ·rename_i m hlt ha; obtain ⟨rfl, rfl, rfl⟩ := Vaa h; rw [Zd] at hlt; refine ⟨Za _, fun ρ w vs hv hr hf => .inr ⟨hs.1, ?_⟩⟩; obtain ⟨x, rfl, g⟩ := VRs1 hv; obtain ⟨rfl, hl⟩ := g.s_eq; refine (callsIn_wide.2 (hs.2 (str l) m (by rw [show (str l).size = (str l).data.toList.length by simp, Viy, List.length_map]; omega) (by rw [Viy]; exact ha) w)).mono ?_; rintro e w' ⟨rfl, t5, t, rfl⟩; obtain ⟨r1, r2, r3⟩ := Vkw w t5 t; refine ⟨_, rfl, ρ, ⟨Za _, by rw [Vkv]; omega, r1, r2, r3, fun _ _ => rfl, fun b hb _ => Vg6 w t5 t b hb, fun i x h k => .inl ⟨i, x, h, k, rfl⟩, fun i h => .inl h⟩, hr.grow (Vg6 w t5 t), ?_⟩; simp only [VR]; refine ⟨_, rfl, ?_⟩; simp only [VRs, VR]; exact ⟨_, _, rfl, rfl, _, _, rfl, ⟨rfl, rfl⟩, rfl⟩
  ·cases h
 ·cases h
end Go.CE
