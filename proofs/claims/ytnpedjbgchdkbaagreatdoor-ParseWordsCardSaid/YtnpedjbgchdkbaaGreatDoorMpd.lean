/- Texts joined by a program (merge.py). -/
import Derived.Test.YtnpedjbgchdkbaaGreatDoorMpc
import Derived.Test.YtnpedjbgchdkbaaGreatDoorMpb
import Derived.KernelRfl
import Derived.Scope
import Derived.StillTail
set_option linter.unusedSimpArgs false
set_option linter.unusedVariables false
set_option maxRecDepth 100000
set_option maxHeartbeats 4000000
open Option.some renaming injEq -> Za
open Prod.mk renaming injEq -> Zb
open Nat renaming lt_or_ge -> Zc
open Option renaming map_eq_some_iff -> Zd
open Bool renaming and_eq_true -> Ze
open List renaming getElem?_eq_none -> Zf
open Bool renaming false_eq_true -> Zg
open ByteArray renaming size -> Zh
open Option renaming isSome_iff_exists -> Zi
open List renaming map_cons -> Zj
open List renaming all_eq_true -> Zk
open Array renaming getD_eq_getD_getElem? -> Zl
open List renaming getElem?_set -> Zm
open Option renaming bind_some -> Zn
open List renaming mem_cons -> Zo
open List renaming mem_range -> Zp
open List.cons renaming injEq -> Zq
open Nat renaming le_refl -> Zr
open List renaming getElem?_append_left -> Zs
open List renaming mem_append -> Zt
open Bool renaming or_eq_true -> Zu
open Bool renaming not_eq_true' -> Zv
open List renaming cons_append -> Zw
open List renaming range -> Zx
open List renaming mem_map -> Zy
open List renaming mem_filterMap -> Zz
open List renaming length_append -> Z0
open List renaming append_assoc -> Z1
open List renaming lookup_eq_none_iff -> Z2
open List renaming any_eq_false -> Z3
open List renaming length_set -> Z4
open List renaming mem_map_of_mem -> Z5
namespace Go.Eng
structure DS where
 ors : List Or
 gd : Option Bool
 v : SV
 out : Option (List (Nat × ABox) × List (Key × Nat))
abbrev BG := List (Nat × ABox) × List (Key × Nat)
def putF (f : List SV) (d : Option Tmp) (v : SV) : List SV :=
 match d with
 | some d => f.set d v
 | none => f
def Vdx (ops : List Oper) (k : Nat) : Option Tmp := (ops[k]?).bind (·.dst)
def valOf (st : List DS) (k : Nat) : SV := ((st[k]?).map (·.v)).getD .junk
def Vat (st : List DS) (k : Nat) : Option BG := (st[k]?).bind (·.out)
def frD (ops : List Oper) (st : List DS) (f0 : List SV) (L : Nat -> Bool) : Nat -> List SV
 | 0 => f0
 | m + 1 => if L m then putF (frD ops st f0 L m) (Vdx ops m) (valOf st m) else frD ops st f0 L m
def bxD (st : List DS) (b0 : BG) (L : Nat -> Bool) : Nat -> BG
 | 0 => b0
 | m + 1 => if L m then (Vat st m).getD (bxD st b0 L m) else bxD st b0 L m
def Vm9 (o : Oper) (acc : List Nat) : Nat := o.after.toList.foldl (fun s e => if Region.binds .any e then s ||| (1 <<< e.on) ||| acc.getD e.on 0 else s) 0
def masks : List Oper -> List Nat -> List Nat
 | [], acc => acc
 | o :: l, acc => masks l (acc ++ [Vm9 o acc])
def looks (ops : List Oper) (o : Oper) : List Nat :=
 (o.op.operands.toList.filterMap fun | .tmp t => some t | _ => none) ++ (match o.guard with | some (j, _) => (Vdx ops j).toList | none => []) ++ o.dst.toList
def Vcu (M : List Nat) (i k : Nat) : Bool := (decide (k < i) && (M.getD i 0).testBit k) || (decide (i < k) && (M.getD k 0).testBit i)
def Vkm (ops : List Oper) (st : List DS) (M : List Nat) : Bool :=
 (Zx ops.length).all fun i =>
  (match ops[i]? with | some o => o.after.toList.all (fun e => !Region.binds .any e || decide (e.on < i)) | none => true) &&
  (Zx ops.length).all fun k => i == k || Vcu M i k ||
   (!(match ops[i]?, Vdx ops k with | some o, some t => (looks ops o).contains t | _, _ => false) && !((Vat st i).isSome && (Vat st k).isSome))
def Vcm (st : List DS) (b0 : BG) : Option Nat -> BG
 | none => b0
 | some e => (Vat st e).getD b0
def Vcf (st : List DS) : Nat -> Option Nat
 | 0 => none
 | m + 1 => if (Vat st m).isSome then some m else Vcf st m
def cands (st : List DS) (M : List Nat) (n i : Nat) : List (Option Nat) :=
 if (Vat st i).isSome then [Vcf st i] else
 (if (Zx n).any (fun k => (Vat st k).isSome && (M.getD i 0).testBit k) then [] else [none]) ++
  ((Zx n).filter (fun e => (Vat st e).isSome && !(M.getD e 0).testBit i && !(Zx n).any (fun k => decide (e < k) && (Vat st k).isSome && (M.getD i 0).testBit k))).map some
def guardOk (sv : Option SV) (want : Bool) (gd : Option Bool) : Option (List Prop × Bool) :=
 match sv, gd with
 | some (.av (.tup [])), none => some ([], false)
 | some (.av (.val (.bool b))), some d => some ([b = d], d == want)
 | _, _ => none
def dRuns (P : Program) (o : Oper) (s : DS) (f : List SV) (st : List DS) (b0 : BG) : List (Option Nat) -> Option (List Prop)
 | [] => some []
 | c :: l => match runV P o s.ors ⟨f, (Vcm st b0 c).1, (Vcm st b0 c).2⟩, dRuns P o s f st b0 l with
  | some (cs, v, bx, gn), some r => some (cs ++ (v = s.v /\ (bx, gn) = s.out.getD (Vcm st b0 c)) :: r)
  | _, _ => none
def alOk (ops : List Oper) (st : List DS) (M : List Nat) (f0 : List SV) (i : Nat) (o : Oper) : Bool :=
 match Vcg o.op, o.dst with
 | true, some id => f0.all (fun s => !s.names id) && (Zx ops.length).all (fun k => !(valOf st k).names id || k == i || (M.getD k 0).testBit i)
 | _, _ => true
section
variable {P : Program} {ops : List Oper} {st : List DS} {M : List Nat} {f0 : List SV} {b0 : BG}
theorem getElem?_putF {f : List SV} {d : Option Tmp} {v : SV} {t : Nat} (h : d ≠ some t) : (putF f d v)[t]? = f[t]? := by
 cases d with
 | none => rfl
 | some d => simp only [putF]; rw [List.getElem?_set_ne (by intro e; exact h (by rw [e]))]
theorem length_putF {f : List SV} {d : Option Tmp} {v : SV} : (putF f d v).length = f.length := by cases d <;> simp [putF]
theorem slot_agrees {L : Nat -> Bool} {i t : Nat} (hi : L i = false) (h : ∀ k, Vdx ops k = some t -> (k < i -> L k = true) /\ (i < k -> L k = false)) : ∀ m, (frD ops st f0 L m)[t]? = (frD ops st f0 (fun _ => true) (min m i))[t]? := by
 intro m
 induction m with
 | zero => simp [frD]
 | succ m ih =>
  simp only [frD]
  by_cases hd : Vdx ops m = some t
  ·rcases Nat.lt_trichotomy m i with hlt | heq | hgt
   ·have := (h m hd).1 hlt; rw [if_pos this, show min (m + 1) i = m + 1 by omega]; simp only [frD, if_true, hd, putF]; rw [Zm, Zm, show min m i = m by omega] at *
    simp only [if_true]
    have hl : (frD ops st f0 L m).length = (frD ops st f0 (fun _ => true) m).length := by
     have : ∀ (L : Nat -> Bool) m, (frD ops st f0 L m).length = f0.length := by
      intro L m
      induction m with
      | zero => rfl
      | succ m ih => simp only [frD]; split <;> simp [length_putF, ih]
     rw [this, this]
    rw [hl]
   ·subst heq; rw [hi]; simp only [Zg, if_false]; rw [ih]; congr 2; omega
   ·rw [(h m hd).2 hgt]; simp only [Zg, if_false]; rw [ih]; congr 2; omega
  ·have e1 : (if L m then putF (frD ops st f0 L m) (Vdx ops m) (valOf st m) else frD ops st f0 L m)[t]? = (frD ops st f0 L m)[t]? := by
    split
    ·exact getElem?_putF hd
    ·rfl
   rw [e1, ih]; rcases Zc m i with hlt | hge
   ·rw [show min (m + 1) i = m + 1 by omega, show min m i = m by omega]; simp only [frD, if_true]; rw [getElem?_putF hd]
   ·congr 2; omega
theorem putF_comm {f : List SV} {d e : Option Tmp} {u v : SV} (h : ∀ t, d = some t -> e ≠ some t) : putF (putF f d u) e v = putF (putF f e v) d u := by
 cases d with
 | none => rfl
 | some d => cases e with
  | none => rfl
  | some e => simp only [putF]; exact List.set_comm _ _ (by intro he; exact h d rfl (by rw [he]))
def also (L : Nat -> Bool) (i : Nat) : Nat -> Bool := fun k => if k = i then true else L k
theorem fr_also {L : Nat -> Bool} {i : Nat} (hi : L i = false) (h : ∀ k, i < k -> L k = true -> ∀ t, Vdx ops i = some t -> Vdx ops k ≠ some t) : ∀ m, i < m -> frD ops st f0 (also L i) m = putF (frD ops st f0 L m) (Vdx ops i) (valOf st i) := by
 have below : ∀ m, m <= i -> frD ops st f0 (also L i) m = frD ops st f0 L m := by
  intro m
  induction m with
  | zero => intro _; rfl
  | succ m ih =>
   intro hm; simp only [frD, also, if_neg (show ¬ m = i by omega)]; rw [<- ih (by omega)]
 intro m
 induction m with
 | zero => intro hm; omega
 | succ m ih =>
  intro hm; rcases Zc i m with hlt | hge
  ·have ih' := ih hlt; simp only [frD]; rw [show also L i m = L m by simp only [also, if_neg (show ¬ m = i by omega)]]; cases hL : L m
   ·simp only [Zg, if_false]; exact ih'
   ·simp only [if_true]; rw [ih']; exact putF_comm (fun t ht => h m hlt hL t ht)
  ·have : m = i := by omega
   subst this; simp only [frD, hi, Zg, if_false]; rw [show also L m m = true by simp [also], if_pos rfl, below m (Zr _)]
theorem Vql {L : Nat -> Bool} {i : Nat} (hp : Vat st i = none) : ∀ m, bxD st b0 (also L i) m = bxD st b0 L m := by
 intro m
 induction m with
 | zero => rfl
 | succ m ih =>
  simp only [bxD, ih]
  by_cases hm : m = i
  ·subst hm; simp [hp]
  ·rw [show also L i m = L m by simp only [also, if_neg hm]]
theorem bx_also_eff {L : Nat -> Bool} {i : Nat} {b : BG} (hp : Vat st i = some b) (h : ∀ k, i < k -> (Vat st k).isSome = true -> L k = false) : ∀ m, i < m -> bxD st b0 (also L i) m = b := by
 intro m
 induction m with
 | zero => intro hm; omega
 | succ m ih =>
  intro hm; simp only [bxD]; rcases Zc i m with hlt | hge
  ·rw [ih hlt, show also L i m = L m by simp only [also, if_neg (show ¬ m = i by omega)]]; cases ho : Vat st m with
   | none => simp
   | some c => rw [h m hlt (by rw [ho]; rfl)]; simp
  ·have : m = i := by omega
   subst this; rw [show also L m m = true by simp [also], if_pos rfl, hp]; rfl
theorem bx_last {L : Nat -> Bool} : ∀ m, (bxD st b0 L m = b0 /\ ∀ k, k < m -> (Vat st k).isSome = true -> L k = false) \/ ∃ e, e < m /\ L e = true /\ (Vat st e).isSome = true /\ bxD st b0 L m = Vcm st b0 (some e) /\ ∀ k, e < k -> k < m -> (Vat st k).isSome = true -> L k = false := by
 intro m
 induction m with
 | zero => exact .inl ⟨rfl, fun k hk => by omega⟩
 | succ m ih =>
  simp only [bxD]; cases ho : Vat st m with
  | none =>
   have e1 : (if L m = true then (none : Option BG).getD (bxD st b0 L m) else bxD st b0 L m) = bxD st b0 L m := by split <;> rfl
   rw [e1]; rcases ih with ⟨h1, h2⟩ | ⟨e, h1, h2, h3, h4, h5⟩
   ·refine .inl ⟨h1, fun k hk hs => ?_⟩; rcases Zc k m with h | h
    ·exact h2 k h hs
    ·have : k = m := by omega
     subst this; rw [ho] at hs; simp at hs
   ·refine .inr ⟨e, by omega, h2, h3, h4, fun k hk1 hk2 hs => ?_⟩; rcases Zc k m with h | h
    ·exact h5 k hk1 h hs
    ·have : k = m := by omega
     subst this; rw [ho] at hs; simp at hs
  | some b =>
   cases hL : L m
   ·simp only [Zg, if_false]; rcases ih with ⟨h1, h2⟩ | ⟨e, h1, h2, h3, h4, h5⟩
    ·refine .inl ⟨h1, fun k hk hs => ?_⟩; rcases Zc k m with h | h
     ·exact h2 k h hs
     ·have : k = m := by omega
      subst this; exact hL
    ·refine .inr ⟨e, by omega, h2, h3, h4, fun k hk1 hk2 hs => ?_⟩; rcases Zc k m with h | h
     ·exact h5 k hk1 h hs
     ·have : k = m := by omega
      subst this; exact hL
   ·exact .inr ⟨m, by omega, hL, by rw [ho]; rfl, by simp [Vcm, ho], fun k hk1 hk2 _ => by omega⟩
theorem Vfb {L : Nat -> Bool} : ∀ i, (∀ k, k < i -> (Vat st k).isSome = true -> L k = true) -> bxD st b0 L i = Vcm st b0 (Vcf st i) := by
 intro i
 induction i with
 | zero => intro _; rfl
 | succ i ih =>
  intro h; simp only [bxD, Vcf]; cases ho : Vat st i with
  | none => simp only [Option.isSome_none, Zg, if_false]; rw [<- ih (fun k hk => h k (by omega))]; split <;> rfl
  | some b =>
   rw [h i (by omega) (by rw [ho]; rfl)]; simp [Vcm, ho]
theorem bx_upto {L : Nat -> Bool} {i : Nat} (hi : L i = false) (h : ∀ k, i < k -> (Vat st k).isSome = true -> L k = false) : ∀ m, i <= m -> bxD st b0 L m = bxD st b0 L i := by
  intro m
  induction m with
  | zero => intro hm; have : i = 0 := by omega
            subst this; rfl
  | succ m ih =>
    intro hm; rcases Zc m i with hlt | hge
    · have : i = m + 1 := by omega
      subst this; rfl
    · simp only [bxD]; rw [<- ih hge]; rcases Zc i m with h1 | h1
      · cases ho : Vat st m with
        | none => split <;> rfl
        | some b => rw [h m h1 (by rw [ho]; rfl)]; simp
      · have : m = i := by omega
        subst this; rw [hi]; simp
theorem masks_closed (L : Nat -> Bool) : ∀ (l : List Oper) (acc : List Nat), (∀ j o, l[j]? = some o -> L (acc.length + j) = true -> ∀ e ∈ o.after, Region.binds .any e = true -> L e.on = true) ->
  (∀ k, k < acc.length -> L k = true -> ∀ i, (acc.getD k 0).testBit i = true -> L i = true) -> ∀ k, L k = true -> ∀ i, ((masks l acc).getD k 0).testBit i = true -> L i = true
 | [], acc, _, ha, k, hk, i, hi => by
  simp only [masks] at hi; rcases Zc k acc.length with h | h
  ·exact ha k h hk i hi
  ·simp [List.getD, Zf h] at hi
 | o :: l, acc, he, ha, k, hk, i, hi => by
  simp only [masks] at hi; refine masks_closed L l (acc ++ [Vm9 o acc]) (fun j o' hj hL => ?_) (fun k hk' hL i hi => ?_) k hk i hi
  ·exact he (j + 1) o' (by simpa using hj) (by rw [<- hL]; congr 1; simp; omega)
  ·simp at hk'; rcases Zc k acc.length with h | h
   ·refine ha k h hL i ?_; simpa [List.getD, Zs h] using hi
   ·have hk2 : k = acc.length := by omega
    subst hk2; simp only [List.getD, List.getElem?_append_right (Zr _), Nat.sub_self, List.getElem?_cons_zero, Option.getD_some] at hi
    have hedge : ∀ e ∈ o.after, Region.binds .any e = true -> L e.on = true := he 0 o (by simp) (by simpa using hL); unfold Vm9 at hi
    have key : ∀ (es : List Edge) (s : Nat), (∀ e ∈ es, Region.binds .any e = true -> L e.on = true) -> (∀ i, s.testBit i = true -> L i = true) -> ∀ i, (es.foldl (fun s e => if Region.binds .any e then s ||| (1 <<< e.on) ||| acc.getD e.on 0 else s) s).testBit i = true -> L i = true := by
     intro es
     induction es with
     | nil => intro s _ hs i hi; exact hs i hi
     | cons e es ih =>
      intro s hes hs i hi; simp only [List.foldl_cons] at hi; refine ih _ (fun e' he' => hes e' (by simp [he'])) (fun i hi => ?_) i hi
      split at hi
      ·rename_i hb
       have hLe := hes e (by simp) hb; simp only [Nat.testBit_or, Zu] at hi; rcases hi with (hi | hi) | hi
       ·exact hs i hi
       ·rw [Nat.testBit_shiftLeft] at hi; simp only [ge_iff_le, Ze, decide_eq_true_eq] at hi
        have : i = e.on := by
         have h1 := hi.2
         have : i - e.on = 0 := by
          rcases Nat.eq_zero_or_pos (i - e.on) with h | h
          ·exact h
          ·rw [Nat.testBit_one_eq_true_iff_self_eq_zero] at h1; exact h1
         omega
        rw [this]; exact hLe
       ·rcases Zc e.on acc.length with h | h
        ·exact ha e.on h hLe i hi
        ·simp [List.getD, Zf h] at hi
      ·exact hs i hi
    exact key o.after.toList 0 (fun e he' => hedge e (by simpa using he')) (fun i hi => by simp at hi) i hi
end
end Go.Eng
namespace Go.Eng
section
variable {P : Program} {ops : List Oper} {st : List DS} {M : List Nat} {f0 : List SV} {b0 : BG}
theorem Vpz {L L' : Nat -> Bool} : ∀ m, (∀ k, k < m -> L k = L' k) -> frD ops st f0 L m = frD ops st f0 L' m
 | 0, _ => rfl
 | m + 1, h => by simp only [frD]; rw [h m (by omega), Vpz m (fun k hk => h k (by omega))]
theorem Vqm {L L' : Nat -> Bool} : ∀ m, (∀ k, k < m -> L k = L' k) -> bxD st b0 L m = bxD st b0 L' m
 | 0, _ => rfl
 | m + 1, h => by simp only [bxD]; rw [h m (by omega), Vqm m (fun k hk => h k (by omega))]
theorem Vqb {o : Oper} {s : DS} {f : List SV} : ∀ {l : List (Option Nat)} {cs : List Prop}, dRuns P o s f st b0 l = some cs -> All cs -> ∀ c ∈ l, ∃ cs', runV P o s.ors ⟨f, (Vcm st b0 c).1, (Vcm st b0 c).2⟩ = some (cs', s.v, (s.out.getD (Vcm st b0 c)).1, (s.out.getD (Vcm st b0 c)).2) /\ All cs'
 | [], _, _, _, c, hc => by simp at hc
 | d :: l, cs, h, ha, c, hc => by
  simp only [dRuns] at h
  split at h
  ·rename_i cs1 v bx gn r h1 h2; simp only [Za] at h; subst h; obtain ⟨ha1, ⟨hv, hb⟩, ha2⟩ := Vau ha; rcases Zo.1 hc with rfl | hc
   ·subst hv; rw [<- hb]; exact ⟨cs1, h1, ha1⟩
   ·exact Vqb h2 ha2 c hc
  ·simp at h
structure Good (ops : List Oper) (st : List DS) (M : List Nat) (L : Nat -> Bool) (i : Nat) (o : Oper) : Prop where
 un : L i = false
 slot : ∀ t ∈ looks ops o, ∀ k, Vdx ops k = some t -> (k < i -> L k = true) /\ (i < k -> L k = false)
 eff : ∀ k, (Vat st i).isSome = true -> (Vat st k).isSome = true -> (k < i -> L k = true) /\ (i < k -> L k = false)
 down : ∀ k, (M.getD i 0).testBit k = true -> k ≠ i -> L k = true
 up : ∀ k, L k = true -> (M.getD k 0).testBit i = false
theorem good_of {L : Nat -> Bool} {i : Nat} {o : Oper} (hM : M = masks ops []) (hs : Vkm ops st M = true) (hst : st.length <= ops.length) (hlt : ∀ k, L k = true -> k < ops.length) (hi : ops[i]? = some o) (hun : L i = false)
  (hcl : ∀ k ok, ops[k]? = some ok -> L k = true -> ∀ e ∈ ok.after, Region.binds .any e = true -> L e.on = true) (hr : ∀ e ∈ o.after, Region.binds .any e = true -> L e.on = true) : Good ops st M L i o := by
 have hil : i < ops.length := by
  rcases Zc i ops.length with h | h
  ·exact h
  ·simp [Zf h] at hi
 have down : ∀ k, (M.getD i 0).testBit k = true -> k ≠ i -> L k = true := by
  intro k hk hne
  have := masks_closed (also L i) ops [] (fun j oj hj hL e he hb => by
   simp only [List.length_nil, Nat.zero_add, also] at hL ⊢
   split at hL
   ·rename_i hji; subst hji; rw [hi] at hj; simp only [Za] at hj; subst hj
    split
    ·rfl
    ·exact hr e he hb
   ·split
    ·rfl
    ·exact hcl j oj hj hL e he hb) (fun k hk => by simp at hk) i (by simp [also]) k (by rw [<- hM]; exact hk)
  simpa [also, hne] using this
 have up : ∀ k, L k = true -> (M.getD k 0).testBit i = false := by
  intro k hk; cases hb : (M.getD k 0).testBit i with
  | false => rfl
  | true =>
   have := masks_closed L ops [] (fun j oj hj hL e he hb => hcl j oj hj (by simpa using hL) e he hb) (fun k hk => by simp at hk) k hk i (by rw [<- hM]; exact hb); rw [hun] at this; simp at this
 have ord : ∀ k, Vcu M i k = true -> (k < i -> L k = true) /\ (i < k -> L k = false) := by
  intro k ho; simp only [Vcu, Zu, Ze, decide_eq_true_eq] at ho; rcases ho with ⟨h1, h2⟩ | ⟨h1, h2⟩
  ·exact ⟨fun _ => down k h2 (by omega), fun h => by omega⟩
  ·refine ⟨fun h => by omega, fun _ => ?_⟩; cases hL : L k with
   | false => rfl
   | true => rw [up k hL] at h2; simp at h2
 have stat : ∀ k, k < ops.length -> k ≠ i -> Vcu M i k = true \/ ((∀ t, Vdx ops k = some t -> t ∉ looks ops o) /\ ¬ ((Vat st i).isSome = true /\ (Vat st k).isSome = true)) := by
  intro k hk hne; simp only [Vkm, Zk, Zp] at hs
  have h1 := hs i hil; simp only [hi, Ze] at h1
  have h2 := h1.2; simp only [Zk, Zp] at h2
  have h3 := h2 k hk; simp only [Zu, beq_iff_eq, Ze] at h3; rcases h3 with (h3 | h3) | ⟨h3, h4⟩
  ·exact absurd h3.symm hne
  ·exact .inl h3
  ·refine .inr ⟨fun t ht hmem => ?_, fun ⟨q1, q2⟩ => ?_⟩
   ·rw [ht] at h3; simp only [Zv, List.contains_eq_mem] at h3; simp [hmem] at h3
   ·simp [q1, q2] at h4
 refine ⟨hun, fun t ht k hk => ?_, fun k h1 h2 => ?_, down, up⟩
 ·have hkl : k < ops.length := by
   rcases Zc k ops.length with h | h
   ·exact h
   ·simp [Vdx, Zf h] at hk
  by_cases hne : k = i
  ·subst hne; exact ⟨fun h => by omega, fun h => by omega⟩
  ·rcases stat k hkl hne with h | ⟨h, _⟩
   ·exact ord k h
   ·exact absurd ht (h t hk)
 ·have hkl : k < ops.length := by
   rcases Zc k ops.length with h | h
   ·exact h
   ·simp [Vat, Zf (Nat.le_trans hst h)] at h2
  by_cases hne : k = i
  ·subst hne; exact ⟨fun h => by omega, fun h => by omega⟩
  ·rcases stat k hkl hne with h | ⟨_, h⟩
   ·exact ord k h
   ·exact absurd ⟨h1, h2⟩ h
theorem cand_mem {L : Nat -> Bool} {i : Nat} {o : Oper} (hg : Good ops st M L i o) (hil : i < ops.length) : ∃ c ∈ cands st M ops.length i, bxD st b0 L ops.length = Vcm st b0 c := by
 cases ho : (Vat st i).isSome with
 | true =>
  refine ⟨Vcf st i, by simp [cands, ho], ?_⟩; rw [bx_upto hg.un (fun k hk hs => (hg.eff k ho hs).2 hk) ops.length (by omega)]; exact Vfb i (fun k hk hs => (hg.eff k ho hs).1 hk)
 | false =>
  simp only [cands, ho, Zg, if_false]
  have hsome : ∀ k, (Vat st k).isSome = true -> k ≠ i := by intro k hk e; subst e; rw [ho] at hk; simp at hk
  rcases bx_last (st := st) (b0 := b0) (L := L) ops.length with ⟨h1, h2⟩ | ⟨e, h1, h2, h3, h4, h5⟩
  ·refine ⟨none, List.mem_append_left _ ?_, h1⟩; rw [if_neg]
   ·simp
   ·intro hany; simp only [List.any_eq_true, Zp, Ze] at hany; obtain ⟨k, hk, hk1, hk2⟩ := hany
    have := hg.down k hk2 (hsome k hk1); rw [h2 k hk hk1] at this; simp at this
  ·refine ⟨some e, List.mem_append_right _ (Zy.2 ⟨e, List.mem_filter.2 ⟨Zp.2 h1, ?_⟩, rfl⟩), h4⟩; simp only [Ze, h3, true_and, Zv]; refine ⟨hg.up e h2, ?_⟩; rw [Bool.eq_false_iff]; intro hany; simp only [List.any_eq_true, Zp, Ze, decide_eq_true_eq] at hany; obtain ⟨k, hk, ⟨hk0, hk1⟩, hk2⟩ := hany
   have := hg.down k hk2 (hsome k hk1); rw [h5 k hk0 hk hk1] at this; simp at this
theorem Vms {L : Nat -> Bool} {i : Nat} {o : Oper} {s : DS} (hg : Good ops st M L i o) (hi : ops[i]? = some o) (hil : i < ops.length) (hs : st[i]? = some s) :
  ({ fr := frD ops st f0 (also L i) ops.length, bx := (bxD st b0 (also L i) ops.length).1, gn := (bxD st b0 (also L i) ops.length).2 } : St)
   = ((⟨frD ops st f0 L ops.length, (s.out.getD (bxD st b0 L ops.length)).1, (s.out.getD (bxD st b0 L ops.length)).2⟩ : St).put o.dst s.v) := by
 have hout : Vat st i = s.out := by simp [Vat, hs]
 have hd : Vdx ops i = o.dst := by simp [Vdx, hi]
 have hv : valOf st i = s.v := by simp [valOf, hs]
 have e1 : bxD st b0 (also L i) ops.length = s.out.getD (bxD st b0 L ops.length) := by
  cases ho : s.out with
  | none => rw [Vql (by rw [hout, ho])]; rfl
  | some b => rw [bx_also_eff (b := b) (by rw [hout, ho]) (fun k hk hks => (hg.eff k (by rw [hout, ho]; rfl) hks).2 hk) _ hil]; rfl
 have e2 : frD ops st f0 (also L i) ops.length = putF (frD ops st f0 L ops.length) o.dst s.v := by
  rw [fr_also hg.un (fun k hk hL t ht hkt => ?_) _ hil, hd, hv]
  have := (hg.slot t (by rw [hd] at ht; simp [looks, ht]) k hkt).2 hk; rw [this] at hL; simp at hL
 rw [e1, e2]; cases hd : o.dst <;> rfl
theorem Vp1 {L : Nat -> Bool} {i : Nat} {o : Oper} (hg : Good ops st M L i o) (hil : i < ops.length) {t : Nat} (ht : t ∈ looks ops o) : (frD ops st f0 L ops.length)[t]? = (frD ops st f0 (fun _ => true) i)[t]? := by
 rw [slot_agrees hg.un (hg.slot t ht) ops.length, show min ops.length i = i by omega]
end
theorem Rel.draw {G : Gh} {w : World} {S : St} {a : Act} (h : Rel G w S a) : Step G w G { w with drawn := w.drawn + 1 } /\ Rel G { w with drawn := w.drawn + 1 } S a := by
 have hs : Step G w G { w with drawn := w.drawn + 1 } := ⟨⟨fun _ => Zr _, ⟨fun _ _ _ => rfl, fun _ _ _ _ h => h⟩, Zr _, rfl, rfl, rfl, fun _ _ => rfl, fun _ => Zr _, fun _ _ _ => ⟨rfl, fun _ _ => ⟨rfl, rfl⟩⟩⟩, fun _ _ _ => ⟨rfl, rfl⟩, fun κ _ h => .inl ⟨κ, h⟩⟩
 exact ⟨hs, h.keep hs.toExt ⟨h.wf.inj, h.wf.lt, h.wf.zero⟩ (fun _ _ => ⟨rfl, fun _ _ => ⟨rfl, rfl⟩⟩) rfl⟩
theorem least_false {n : Nat} {L : Nat -> Bool} (h : ¬ ∀ i, i < n -> L i = true) : ∃ i, i < n /\ L i = false /\ ∀ k, k < i -> L k = true := by
 induction n with
 | zero => exact absurd (fun i hi => by omega) h
 | succ n ih =>
  by_cases hn : ∀ i, i < n -> L i = true
  ·refine ⟨n, by omega, ?_, hn⟩; cases hL : L n with
   | false => rfl
   | true =>
    exact absurd (fun i hi => by
     rcases Zc i n with h1 | h1
     ·exact hn i h1
     ·have : i = n := by omega
      subst this; exact hL) h
  ·obtain ⟨i, h1, h2, h3⟩ := ih hn; exact ⟨i, by omega, h2, h3⟩
def left (L : Nat -> Bool) : Nat -> Nat
 | 0 => 0
 | m + 1 => left L m + if L m then 0 else 1
theorem left_zero {L : Nat -> Bool} : ∀ {m}, left L m = 0 -> ∀ i, i < m -> L i = true
 | 0, _, i, hi => by omega
 | m + 1, h, i, hi => by
  simp only [left] at h; rcases Zc i m with h1 | h1
  ·exact left_zero (by omega) i h1
  ·have : i = m := by omega
   subst this; cases hL : L i with
   | true => rfl
   | false => rw [hL] at h; simp at h
theorem left_also {L : Nat -> Bool} {i : Nat} (hL : L i = false) : ∀ {m}, i < m -> left (also L i) m + 1 = left L m
 | 0, hi => by omega
 | m + 1, hi => by
  simp only [left]; rcases Zc i m with h1 | h1
  ·have := left_also hL h1; rw [show also L i m = L m by simp only [also, if_neg (show ¬ m = i by omega)]]; omega
  ·have : i = m := by omega
   subst this
   have hb : ∀ m, m <= i -> left (also L i) m = left L m := by
    intro m
    induction m with
    | zero => intro _; rfl
    | succ m ih =>
     intro hm; simp only [left]; rw [ih (by omega), show also L i m = L m by simp only [also, if_neg (show ¬ m = i by omega)]]
   rw [hb i (Zr _), hL]; simp [also]
theorem Vl5 {ops : List Oper} {st : List DS} {M : List Nat} {f0 : List SV} {i : Nat} {o : Oper} {L : Nat -> Bool} (h : alOk ops st M f0 i o = true) (hun : L i = false) (hup : ∀ k, L k = true -> (M.getD k 0).testBit i = false) (ha : Vcg o.op = true) (id : Nat) (hd : o.dst = some id) : ∀ n, n <= ops.length -> (frD ops st f0 L n).any (SV.names id) = false := by
 unfold alOk at h; rw [ha, hd] at h; simp only [Ze, Zk, Zp] at h; obtain ⟨h1, h2⟩ := h; intro n
 induction n with
 | zero =>
  intro _; simp only [frD]; rw [Z3]; intro s hs
  have := h1 s hs; simpa using this
 | succ m ih =>
  intro hm; simp only [frD]
  have ih := ih (by omega)
  split
  ·rename_i hL
   have hv : (valOf st m).names id = false := by
    have := h2 m (by omega); simp only [Zu, Zv, beq_iff_eq] at this; rcases this with (h | h) | h
    ·exact h
    ·subst h; rw [hun] at hL; simp at hL
    ·rw [hup m hL] at h; simp at h
   cases Vdx ops m with
   | none => exact ih
   | some d =>
    simp only [putF]; rw [Z3] at ih ⊢; intro s hs; rcases List.mem_or_eq_of_mem_set hs with h | h
    ·exact ih s h
    ·subst h; simpa using hv
  ·exact ih
end Go.Eng
namespace Go.Eng
structure Inv (σ : Key -> Key) : Prop where
 inv : ∀ κ, σ (σ κ) = κ
 snd : ∀ κ, (σ κ).2 = κ.2
def swapK (a b : Key) (κ : Key) : Key := if κ = a then b else if κ = b then a else κ
theorem Vas (a b : Key) (h : a.2 = b.2) : Inv (swapK a b) := by
 refine ⟨fun κ => ?_, fun κ => ?_⟩
 ·unfold swapK
  by_cases h1 : κ = a
  ·subst h1
   by_cases h2 : b = κ
   ·simp [h2]
   ·simp [h2]
  ·by_cases h2 : κ = b
   ·subst h2; simp [h1]
   ·simp [h1, h2]
 ·unfold swapK
  by_cases h1 : κ = a
  ·subst h1; simp [h]
  ·by_cases h2 : κ = b
   ·subst h2; simp [h1, h]
   ·simp [h1, h2]
def PV.ren (σ : Key -> Key) : PV -> PV
 | .av x => .av x
 | .ptr b o => .ptr (σ (b, 0)).1 o
 | .mp b => .mp (σ (b, 0)).1
def CV.ren (σ : Key -> Key) : CV -> CV
 | .own k g sz l => .own (σ k) g sz l
 | x => x
def XV.ren (σ : Key -> Key) : XV -> XV
 | .c x => .c (x.ren σ)
 | .a l => .a (l.map (CV.ren σ))
def SV.ren (σ : Key -> Key) : SV -> SV
 | .ptr b o => .ptr (σ (b, 0)).1 o
 | .mp b => .mp (σ (b, 0)).1
 | .own k g sz l => .own (σ k) g sz l
 | .fn f fs cs => .fn f (fs.map (PV.ren σ)) (cs.map (PV.ren σ))
 | .son b => .son (σ (b, 0)).1
 | .vs b n => .vs (σ (b, 0)).1 n
 | .vp b sz i o => .vp (σ (b, 0)).1 sz i o
 | .vw b sz o n => .vw (σ (b, 0)).1 sz o n
 | .ag l => .ag (l.map (CV.ren σ))
 | .tp l => .tp (l.map (XV.ren σ))
 | s => s
def ABox.ren (σ : Key -> Key) : ABox -> ABox
 | .cells t l => .cells t (l.map (SV.ren σ))
 | x => x
def renB (σ : Key -> Key) (bx : List (Nat × ABox)) : List (Nat × ABox) := bx.map (fun p => ((σ (p.1, 0)).1, p.2.ren σ))
def renG (σ : Key -> Key) (gn : List (Key × Nat)) : List (Key × Nat) := gn.map (fun p => (σ p.1, p.2))
def Gh.ren (σ : Key -> Key) (G : Gh) : Gh := ⟨G.U, G.cp, fun κ => G.ow (σ κ), fun κ => G.gen (σ κ), G.df⟩
section
variable {σ : Key -> Key} (hσ : Inv σ)
include hσ
theorem Gh.ren_ren (G : Gh) : (G.ren σ).ren σ = G := by
 obtain ⟨U, cp, ow, gen, df⟩ := G; simp only [Gh.ren, hσ.inv]
theorem key0 (b : Nat) : ((σ (b, 0)).1, 0) = σ (b, 0) := by
 exact Prod.ext rfl (hσ.snd (b, 0)).symm
theorem RepP_ren {G : Gh} {w : World} {p : PV} {u : Value} : RepP (G.ren σ) w p u ↔ RepP G w (p.ren σ) u := by
 cases p with
 | av x => exact Iff.rfl
 | ptr b o => simp only [RepP, PV.ren, Gh.ren, key0 hσ]
 | mp b => simp only [RepP, PV.ren, Gh.ren, key0 hσ]
theorem Vr4 {G : Gh} {w : World} : ∀ {l : List PV} {us : List Value}, RepPs (G.ren σ) w l us ↔ RepPs G w (l.map (PV.ren σ)) us
 | [], us => Iff.rfl
 | p :: l, us => by simp only [RepPs, Zj, RepP_ren hσ, Vr4 (l := l)]
theorem RepC_ren {G : Gh} {w : World} {s : CV} {u : Value} : RepC (G.ren σ) w s u ↔ RepC G w (s.ren σ) u := by
 cases s with
 | av x => exact Iff.rfl
 | nil => exact Iff.rfl
 | own k g sz l => simp only [RepC, RepOwn, CV.ren, Gh.ren, hσ.snd]
theorem Vlg {G : Gh} {w : World} : ∀ {l : List CV} {us : List Value}, RepCs (G.ren σ) w l us ↔ RepCs G w (l.map (CV.ren σ)) us
 | [], us => Iff.rfl
 | x :: l, us => by simp only [RepCs, Zj, RepC_ren hσ, Vlg (l := l)]
theorem RepX_ren {G : Gh} {w : World} {s : XV} {u : Value} : RepX (G.ren σ) w s u ↔ RepX G w (s.ren σ) u := by
 cases s with
 | c x => exact RepC_ren hσ
 | a l => simp only [RepX, XV.ren, Vlg hσ]
theorem Vr3 {G : Gh} {w : World} : ∀ {l : List XV} {us : List Value}, RepXs (G.ren σ) w l us ↔ RepXs G w (l.map (XV.ren σ)) us
 | [], us => Iff.rfl
 | x :: l, us => by simp only [RepXs, Zj, RepX_ren hσ, Vr3 (l := l)]
theorem RepS_ren {G : Gh} {w : World} {s : SV} {u : Value} : RepS (G.ren σ) w s u ↔ RepS G w (s.ren σ) u := by
 cases s with
 | junk => exact Iff.rfl
 | nil => exact Iff.rfl
 | av x => exact Iff.rfl
 | ptr b o => simp only [RepS, SV.ren, Gh.ren, key0 hσ]
 | mp b => simp only [RepS, SV.ren, Gh.ren, key0 hσ]
 | own k g sz l =>
  simp only [RepS, RepOwn, SV.ren, Gh.ren, hσ.snd]
 | ag l => simp only [RepS, SV.ren, Vlg hσ]
 | tp l => simp only [RepS, SV.ren, Vr3 hσ]
 | clo l => exact Iff.rfl
 | son b => simp only [RepS, SV.ren, Gh.ren, key0 hσ]
 | vs b n => simp only [RepS, SV.ren, Gh.ren, key0 hσ]
 | vp b sz i o => simp only [RepS, SV.ren, Gh.ren, key0 hσ]
 | vw b sz o n => simp only [RepS, SV.ren, Gh.ren, key0 hσ]
 | fn f fs cs => simp only [RepS, SV.ren, Vr4 hσ]
theorem Vld {G : Gh} {w : World} : ∀ {l : List SV} {us : List Value}, RepSs (G.ren σ) w l us ↔ RepSs G w (l.map (SV.ren σ)) us
 | [], us => Iff.rfl
 | p :: l, us => by simp only [RepSs, Zj, RepS_ren hσ, Vld (l := l)]
theorem RepB_ren {G : Gh} {w : World} {id : Nat} {x : ABox} : RepB (G.ren σ) w id x ↔ RepB G w (σ (id, 0)).1 (x.ren σ) := by
 cases x with
 | cells t l => simp only [RepB, ABox.ren, Gh.ren, key0 hσ]; simp only [<- Vld hσ, Gh.ren]
 | map ks vs => simp only [RepB, ABox.ren, Gh.ren, key0 hσ]
 | vec e sz l => simp only [RepB, ABox.ren, Gh.ren, key0 hσ]
 | ge n => simp only [RepB, ABox.ren]
 | it s pos => simp only [RepB, ABox.ren, Gh.ren, key0 hσ]
 | vck e sz l => simp only [RepB, ABox.ren, Gh.ren, key0 hσ]
theorem Wf_ren {G : Gh} {w : World} (h : Wf G w) : Wf (G.ren σ) w :=
 ⟨fun κ κ' b h1 h2 => by have := h.inj (σ κ) (σ κ') b h1 h2; have := congrArg σ this; rwa [hσ.inv, hσ.inv] at this, fun κ b h1 => h.lt (σ κ) b h1, h.zero⟩
theorem Step_ren {G G' : Gh} {w w' : World} (h : Step G w G' w') : Step (G.ren σ) w (G'.ren σ) w' := by
 refine ⟨⟨h.U, h.imm, h.size, h.os, h.tape, h.output, h.cp, fun κ => h.gen (σ κ), fun κ h0 hg => ?_⟩, fun b hb hn => h.stay b hb (fun κ hκ => hn (σ κ) (by simp only [Gh.ren, hσ.inv]; exact hκ)), fun κ b hκ => ?_⟩
 ·have h0' : 0 < (σ κ).2 := by rw [hσ.snd]; exact h0
  exact h.tok (σ κ) h0' hg
 ·rcases h.rng (σ κ) b hκ with ⟨κ', h'⟩ | h'
  ·exact .inl ⟨σ κ', by simp only [Gh.ren, hσ.inv]; exact h'⟩
  ·exact .inr h'
theorem Vmb : ∀ (gn : List (Key × Nat)) (κ : Key), (renG σ gn).lookup κ = gn.lookup (σ κ)
 | [], κ => rfl
 | (k, g) :: gn, κ => by
  have ih := Vmb gn κ; simp only [renG, Zj, List.lookup_cons] at ih ⊢
  have : (κ == σ k) = (σ κ == k) := by
   rw [Bool.eq_iff_iff]; simp only [beq_iff_eq]; constructor
   ·intro h; rw [h, hσ.inv]
   ·intro h; rw [<- h, hσ.inv]
  rw [this, ih]
include hσ in
theorem vecIds_ren (bx : List (Nat × ABox)) (j : Nat) : j ∈ Vb5 bx ↔ (σ (j, 0)).1 ∈ Vb5 (renB σ bx) := by
 have hinj : ∀ i j : Nat, (σ (i, 0)).1 = (σ (j, 0)).1 -> i = j := by
  intro i j h
  have h1 : σ (i, 0) = σ (j, 0) := by rw [<- key0 hσ i, <- key0 hσ j, h]
  have h2 := congrArg σ h1; rw [hσ.inv, hσ.inv] at h2; exact (Prod.mk.inj h2).1
 induction bx with
 | nil => simp [Vb5, renB]
 | cons p l ih =>
  obtain ⟨i, x⟩ := p; cases x with
  | vec e sz q =>
   simp only [Vb5, renB, Zj, ABox.ren, Zo]; exact or_congr ⟨fun e => by rw [e], fun e => hinj _ _ e⟩ ih
  | cells t q => simpa only [Vb5, renB, Zj, ABox.ren] using ih
  | map ks vs => simpa only [Vb5, renB, Zj, ABox.ren] using ih
  | ge n => simpa only [Vb5, renB, Zj, ABox.ren] using ih
  | it s pos => simpa only [Vb5, renB, Zj, ABox.ren] using ih
  | vck e sz l => simpa only [Vb5, renB, Zj, ABox.ren] using ih
theorem Vaf {P : Program} {f : FuncId} {args : List SV} {bx : List (Nat × ABox)} {gn : List (Key × Nat)} {res : SV} {bx' : List (Nat × ABox)} {gn' : List (Key × Nat)} (h : CallTo P f args bx gn res bx' gn') :
  CallTo P f (args.map (SV.ren σ)) (renB σ bx) (renG σ gn) (res.ren σ) (renB σ bx') (renG σ gn') := by
 refine ⟨h.1, fun G w vs hw hargs hbx hgn => ?_⟩; refine (h.2 (G.ren σ) w vs (Wf_ren hσ hw) ((Vld hσ).2 hargs) (fun p hp => (RepB_ren hσ).2 (hbx _ (Z5 hp))) (fun p hp => hgn _ (Z5 (f := fun p : Key × Nat => (σ p.1, p.2)) hp))).mono ?_; rintro e w' ⟨v, G', he, s1, s2, s3, s4, s5, s6, s7⟩
 have hgg := Gh.ren_ren hσ G
 have hs := Step_ren hσ s1; rw [hgg] at hs; refine ⟨v, G'.ren σ, he, hs, Wf_ren hσ s2, ?_, ?_, ?_, ?_, ?_⟩
 ·rw [<- RepS_ren hσ, Gh.ren_ren hσ]; exact s3
 ·intro p hp; simp only [renB, Zy] at hp; obtain ⟨q, hq, rfl⟩ := hp; simp only; rw [<- RepB_ren hσ, Gh.ren_ren hσ]; exact s4 q hq
 ·intro i hi
  have hj : (σ (i, 0)).1 ∉ bx'.map (·.1) := by
   intro hm; simp only [Zy] at hm; obtain ⟨p, hp, hpe⟩ := hm; refine hi ?_; simp only [renB, List.map_map, Zy, Function.comp]; exact ⟨p, hp, by rw [hpe, key0 hσ, hσ.inv]⟩
  have hk := s5 _ hj; rw [key0 hσ] at hk; obtain ⟨k1, k2⟩ := hk; refine ⟨?_, fun b hb => k2 b ?_⟩
  ·simp only [Gh.ren] at k1 ⊢; rw [k1, hσ.inv]
  ·simp only [Gh.ren, hσ.inv]; exact hb
 ·intro i hiv
  have := s6 (σ (i, 0)).1 (fun hm => hiv (by have h := (vecIds_ren hσ bx' (σ (i, 0)).1).1 hm; rw [key0 hσ, hσ.inv] at h; exact h)); rw [key0 hσ] at this; simp only [Gh.ren] at this ⊢; rw [this, hσ.inv]
 ·intro κ; rw [Vmb hσ]
  have := s7 (σ κ); simp only [Gh.ren] at this ⊢; rw [this, hσ.inv]
end
def Vr6 (S S' : St) : Prop := ∀ G w a, Rel G w S a -> ∃ G', Step G w G' w /\ Rel G' w S' a /\ ∀ i, Fx i -> G'.ow (i, 0) = G.ow (i, 0)
theorem W_ghost {P : Program} {c : Code} {Q : Exit -> St -> Prop} {S S' : St} (hg : Vr6 S S') (h : W P c Q S') : W P c Q S := by
 intro G w a hr; obtain ⟨G', h1, h2, h3⟩ := hg G w a hr; exact Code.wp_mono (fun e a' w' hl => Vc1 h1 h3 hl) (h G' w a h2)
def SV.froz (id : Nat) (ks : List ByteArray) (vs : List AV) : SV -> SV
 | .mp b => if b = id then .av (.rm ks vs) else .mp b
 | s => s
def St.frozen (S : St) (id : Nat) (ks : List ByteArray) (vs : List AV) : St := ⟨S.fr.map (SV.froz id ks vs), S.bx.filter (fun p => p.1 != id), S.gn⟩
theorem Via {S : St} {id : Nat} {ks : List ByteArray} {vs : List AV} (hb : S.bx.lookup id = some (.map ks vs)) : Vr6 S (S.frozen id ks vs) := by
 intro G w a hr; obtain ⟨blk, ents, clock, g1, g2, g3, g4, g5, g6⟩ := hr.bx _ (Va9 hb); simp only at g1
 have hU : ∀ b, G.U b <= (G.setU blk 1).U b := by
  intro b; simp only [Gh.setU]; split
  ·rename_i h; rw [h, g3]; omega
  ·omega
 have himm : Imm G.U w w := Imm.refl _ _
 have hkp : ∀ κ, κ ≠ (id, 0) -> Keep G w (G.setU blk 1) w κ := fun κ hκ => ⟨rfl, fun b hb' => ⟨rfl, by
  simp only [Gh.setU]; rw [if_neg (fun he => hκ (hr.wf.inj κ (id, 0) b hb' (by rw [he]; exact g1)))]⟩⟩
 have hstep : Step G w (G.setU blk 1) w := ⟨⟨hU, himm, Zr _, rfl, rfl, rfl, fun _ _ => rfl, fun _ => Zr _, fun κ h0 _ => hkp κ (by intro e; rw [e] at h0; simp at h0)⟩,
  fun b _ hn => ⟨rfl, by simp only [Gh.setU]; rw [if_neg (fun he => hn (id, 0) (by rw [he]; exact g1))]⟩, fun κ b h => .inl ⟨κ, h⟩⟩
 have hlt := hr.wf.lt _ _ g1
 have hwf : Wf (G.setU blk 1) w := ⟨hr.wf.inj, hr.wf.lt, fun b hb' => by simp only [Gh.setU]; rw [if_neg (by omega)]; exact hr.wf.zero b hb'⟩
 refine ⟨G.setU blk 1, hstep, ⟨hwf, by simp only [St.frozen, List.length_map]; exact hr.size, fun t s ht => ?_, fun p hp => ?_, hr.gn, hr.defers⟩, fun _ _ => rfl⟩
 ·simp only [St.frozen, List.getElem?_map, Zd] at ht; obtain ⟨s0, h1, rfl⟩ := ht
  have h2 := (hr.fr t s0 h1).persist hstep.toExt (fun _ _ => rfl); unfold SV.froz
  split
  ·rename_i b
   split
   ·rename_i hbid; subst hbid; obtain ⟨blk', q1, q2⟩ := h2; simp only [Gh.setU] at q1; rw [g1] at q1; simp at q1; subst q1; simp only [RepS, Rep]; exact ⟨blk, ents, clock, q2, by simp [Gh.setU], g2, g4, RepL.mono hU himm _ _ g5⟩
   ·exact h2
  ·exact h2
 ·simp only [St.frozen, List.mem_filter] at hp; obtain ⟨hp1, hp2⟩ := hp
  have hne : p.1 ≠ id := by simpa using hp2
  exact (hr.bx p hp1).persist hstep.toExt (hkp _ (by intro e; apply hne; have := congrArg Prod.fst e; exact this)) (fun _ _ => rfl)
abbrev j0 : SV := .av (.tup [])
abbrev jI (n : Int) : SV := .av (.val (.int .i64 n))
abbrev jB (b : Bool) : SV := .av (.val (.bool b))
abbrev jS (s : ByteArray) : SV := .av (.val (.string s))
abbrev jL (l : List AV) : SV := .av (.sl l)
abbrev vI (n : Int) : AV := .val (.int .i64 n)
abbrev vB (b : Bool) : AV := .val (.bool b)
abbrev vS (s : ByteArray) : AV := .val (.string s)
end Go.Eng
namespace Go.Eng
def frOf (n : Nat) (l : List (Nat × SV)) : List SV := (Zx n).map (fun i => (l.lookup i).getD .junk)
def sx (n : Nat) (l : List (Nat × SV)) (bx : List (Nat × ABox)) (gn : List (Key × Nat)) : St := ⟨frOf n l, bx, gn⟩
abbrev Seen := Nat × List (Option SV) × List (Nat × ABox) × List (Key × Nat)
def sees (S : St) (ks : List Nat) : Seen := (S.fr.length, ks.map (fun k => S.fr[k]?), S.bx, S.gn)
def seen (r : Option (List Prop × List Or × Exit × St)) (ks : List Nat) : Option (List Prop × List Or × Exit × Seen) :=
 match r with
 | some (cs, o, e, S) => some (cs, o, e, sees S ks)
 | none => none
def Vkc (l : List (Nat × SV)) : List Nat := l.map (·.1)
def Vjf (l : List (Nat × SV)) : List (Option SV) := l.map (fun p => some p.2)
theorem lookup_mem2 {α : Type} {l : List (Nat × α)} {b : Nat} {x : α} (h : l.lookup b = some x) : (b, x) ∈ l := by
 induction l with
 | nil => simp at h
 | cons p l ih =>
  obtain ⟨k, y⟩ := p; simp only [List.lookup_cons] at h
  split at h
  ·rename_i hk; simp at hk h; subst hk h; simp
  ·simp [ih h]
theorem frOf_get {n : Nat} {l : List (Nat × SV)} {t : Nat} {s : SV} (h : (frOf n l)[t]? = some s) : t < n /\ s = (l.lookup t).getD .junk := by
 simp only [frOf, List.getElem?_map, Zd] at h; obtain ⟨i, h1, rfl⟩ := h
 have hlt : t < n := by
  rcases Zc t (Zx n).length with h | h
  ·simpa using h
  ·simp [Zf h] at h1
 simp [List.getElem?_range hlt] at h1; subst h1; exact ⟨hlt, rfl⟩
theorem frOf_length (n : Nat) (l : List (Nat × SV)) : (frOf n l).length = n := by simp [frOf]
theorem vals_get {f : List SV} : ∀ {l : List (Nat × SV)}, (Vkc l).map (fun k => f[k]?) = Vjf l -> ∀ p ∈ l, f[p.1]? = some p.2
 | [], _, p, hp => by simp at hp
 | q :: l, h, p, hp => by
  simp only [Vkc, Vjf, Zj, Zq] at h; simp only [Zo] at hp; rcases hp with rfl | hp
  ·exact h.1
  ·exact vals_get (l := l) h.2 p hp
theorem W_end {P : Program} {c : Code} {Q : Exit -> St -> Prop} {S : St} (h : W P c (fun e S1 => ∃ S2, Weak S1 S2 /\ Q e S2) S) : W P c Q S := by
 intro G w a hr; refine Code.wp_mono (fun e a' w' hl => ?_) (h G w a hr); obtain ⟨S1, G1, ⟨S2, hg, hq⟩, h2, h3, h4⟩ := hl; exact ⟨S2, G1, hq, h2, hg G1 w' a' h3, h4⟩
end Go.Eng
namespace Go.Proofs.YtnpedjbgchdkbaaGreatDoor
open Go Go.Eng
end Go.Proofs.YtnpedjbgchdkbaaGreatDoor
namespace Go.Eng
abbrev oF : Or := .b false
def Vnn : Nat -> Prop -> List Prop -> List Prop
 | 0, _, l => l
 | n + 1, p, l => p :: Vnn n p l
theorem acn (n : Nat) {p : Prop} {l : List Prop} (hp : p) (h : All l) : All (Vnn n p l) := by
 induction n with
 | zero => exact h
 | succ n ih => exact ⟨hp, ih⟩
theorem akn (n : Nat) {l : List Prop} (h : All l) : All (Vnn n True l) := acn n trivial h
theorem tt : true = true := rfl
theorem ff : false = false := rfl
theorem wrE (x m : Int) (h : x = m /\ -9223372036854775808 <= x /\ x <= 9223372036854775807) : IntKind.i64.wrap x = m := by
 rw [wrap_i64 h.2.1 h.2.2]; exact h.1
abbrev SeenB := Nat × List (Option SV) × List (Option ABox) × List (Key × Nat)
def seesB (S : St) (ks bs : List Nat) : SeenB := (S.fr.length, ks.map (fun k => S.fr[k]?), bs.map (fun b => S.bx.lookup b), S.gn)
def bkeys (l : List (Nat × ABox)) : List Nat := l.map (·.1)
def bvals (l : List (Nat × ABox)) : List (Option ABox) := l.map (fun p => some p.2)
theorem Vqn {f : List (Nat × ABox)} : ∀ {l : List (Nat × ABox)}, (bkeys l).map (fun k => f.lookup k) = bvals l -> ∀ p ∈ l, f.lookup p.1 = some p.2
 | [], _, p, hp => by simp at hp
 | q :: l, h, p, hp => by
  simp only [bkeys, bvals, Zj, Zq] at h; simp only [Zo] at hp; rcases hp with rfl | hp
  ·exact h.1
  ·exact Vqn (l := l) h.2 p hp
theorem Vh9 {S : St} {n : Nat} {l : List (Nat × SV)} {bx : List (Nat × ABox)} {gn : List (Key × Nat)} (h : seesB S (Vkc l) (bkeys bx) = (n, Vjf l, bvals bx, gn)) : Weak S (sx n l bx gn) := by
 simp only [seesB, Zb] at h; obtain ⟨h1, h2, h3, h4⟩ := h; intro G w a hr; refine ⟨hr.wf, ?_, fun t s ht => ?_, fun p hp => ?_, ?_, hr.defers⟩
 ·simp only [sx, frOf_length]; rw [<- h1]; exact hr.size
 ·obtain ⟨_, rfl⟩ := frOf_get ht; cases hl : l.lookup t with
  | none => trivial
  | some v => exact hr.fr t v (vals_get h2 _ (lookup_mem2 hl))
 ·exact hr.bx p (Va9 (Vqn h3 p hp))
 ·intro k; rw [hr.gn k]; simp only [sx, St.gen, h4]
theorem Vbq {P : Program} {ops : Array Oper} {more : List Oper} : ∀ (l : List Oper) (ors ors' : List Or) (S S' : St) (cs : List Prop), Vcs P (ops.toList.map (·.dst)) l ors S = some (cs, ors', S') -> All cs -> ∀ (G : Gh) (w : World) (a : Act), Rel G w S a ->
  ∀ Q : Exit -> Act -> World -> Prop, (∀ G' a' w', Step G w G' w' -> Rel G' w' S' a' -> (∀ i, Fx i -> G'.ow (i, 0) = G.ow (i, 0)) -> wpList P ops Q more a' w') -> wpList P ops Q (l ++ more) a w
 | [], ors, ors', S, S', cs, h, hc, G, w, a, hr, Q, hq => by
  simp only [Vcs, Za, Zb] at h; obtain ⟨_, _, rfl⟩ := h; exact hq G a w (Step.refl G w) hr (fun _ _ => rfl)
 | o :: rest, ors, ors', S, S', cs, h, hc, G, w, a, hr, Q, hq => by
  have Vgm : ∀ G w, RepS G w Vaj undef := by
   intro G w; simp only [Vaj, RepS, Rep]; exact ⟨#[], rfl, by simp [RepL]⟩
  have go : ∀ {c1 ors0 ors1 S1 c2}, Vg1 P o ors0 S = some (c1, ors1, S1) -> All c1 -> Vcs P (ops.toList.map (·.dst)) rest ors1 S1 = some (c2, ors', S') -> All c2 -> o.wp P a w (wpList P ops Q (rest ++ more)) Q := by
   intro c1 ors0 ors1 S1 c2 h1 hc1 h2 hc2; exact Vbl h1 hc1 hr (fun G' a' w' g1 g2 g3 => Vbq rest ors1 ors' S1 S' c2 h2 hc2 G' w' a' g2 Q (fun G2 a2 w2 q1 q2 q3 => hq G2 a2 w2 (g1.trans q1) q2 (fun i hi => (q3 i hi).trans (g3 i hi))))
  simp only [Vcs] at h; simp only [Zw, wpList]
  split at h
  ·rename_i hg; rw [if_pos (by simp [Region.wanted, hg])]
   split at h
   ·rename_i c1 ors1 S1 h1
    split at h
    ·rename_i c2 r h2; simp only [Za, Zb] at h; obtain ⟨rfl, rfl⟩ := h; obtain ⟨hc1, hc2⟩ := Vau hc; exact .inl (go h1 hc1 h2 hc2)
    ·simp at h
   ·simp at h
  ·rename_i j want hg
   split at h
   ·rename_i hs; obtain ⟨t, u, e1, e2, e3⟩ := Vb7 hs hr; simp only [RepS, Rep] at e3; obtain ⟨us, rfl, _⟩ := e3
    have hwant : Region.wanted o (yielded ops a.tmps) = false := by
     simp only [Region.wanted, hg, yielded, e1, Zn, e2]; rfl
    rw [hwant]; simp only [Zg, if_false]; exact Vbq rest ors ors' _ S' cs h hc G w _ (hr.put o.dst (Vgm G w)) Q hq
   ·rename_i b hs; obtain ⟨t, u, e1, e2, e3⟩ := Vb7 hs hr; simp only [RepS, Rep] at e3; obtain ⟨rfl, _⟩ := e3
    split at h
    ·rename_i d ors2
     split at h
     ·rename_i hd
      split at h
      ·rename_i c1 ors1 S1 h1
       split at h
       ·rename_i c2 r h2; simp only [Za, Zb] at h; obtain ⟨rfl, rfl⟩ := h; obtain ⟨hb, hc'⟩ := hc; obtain ⟨hc1, hc2⟩ := Vau hc'; subst hb hd; rw [if_pos (by simp only [Region.wanted, hg, yielded, e1, Zn, e2]; simp)]; exact .inl (go h1 hc1 h2 hc2)
       ·simp at h
      ·simp at h
     ·rename_i hd
      split at h
      ·rename_i c2 r h2; simp only [Za, Zb] at h; obtain ⟨rfl, rfl⟩ := h; obtain ⟨hb, hc'⟩ := hc; subst hb
       have hwant : Region.wanted o (yielded ops a.tmps) = false := by
        simp only [Region.wanted, hg, yielded, e1, Zn, e2]; cases b <;> cases want <;> simp_all
       rw [hwant]; simp only [Zg, if_false]; exact Vbq rest ors2 ors' _ S' c2 h2 hc' G w _ (hr.put o.dst (Vgm G w)) Q hq
      ·simp at h
    ·simp at h
   ·simp at h
def WO (P : Program) (ops : Array Oper) (l : List Oper) (Q : St -> Prop) (S : St) : Prop :=
 ∀ (more : List Oper) (Q' : Exit -> Act -> World -> Prop) (G : Gh) (w : World) (a : Act), Rel G w S a ->
  (∀ S' G' a' w', Q S' -> Step G w G' w' -> Rel G' w' S' a' -> (∀ i, Fx i -> G'.ow (i, 0) = G.ow (i, 0)) -> wpList P ops Q' more a' w') -> wpList P ops Q' (l ++ more) a w
theorem Vak {P : Program} {id : Nat} {ops : Array Oper} {Q : Exit -> St -> Prop} {S : St} (h : WO P ops ops.toList (Q .normal) S) : W P (.region id ops false) Q S :=
 fun G w a hr => wp_region_list (by
  have := h [] (lift Q G w) G w a hr (fun S' G' a' w' h1 h2 h3 h4 => ⟨S', G', h1, h2, h3, h4⟩); rw [List.append_nil] at this
  exact this)
theorem Vbw {P : Program} {ops : Array Oper} {l : List Oper} {Q : St -> Prop} {S : St} (hl : l.length = 0) (h : Q S) : WO P ops l Q S := by
 have : l = [] := List.length_eq_zero_iff.1 hl; subst this; intro more Q' G w a hr hq; exact hq S G a w h (Step.refl G w) hr (fun _ _ => rfl)
theorem Vfy {P : Program} {ops : Array Oper} {l : List Oper} {Q : St -> Prop} {S S' : St} (n : Nat) (h1 : WO P ops (l.take n) (fun S1 => Weak S1 S') S) (h2 : WO P ops (l.drop n) Q S') : WO P ops l Q S := by
 intro more Q' G w a hr hq
 have e : l ++ more = l.take n ++ (l.drop n ++ more) := by rw [<- Z1, List.take_append_drop]
 rw [e]; refine h1 _ Q' G w a hr (fun S1 G1 a1 w1 k1 k2 k3 k4 => ?_); exact h2 _ Q' G1 w1 a1 (k1 G1 w1 a1 k3) (fun S2 G2 a2 w2 q1 q2 q3 q4 => hq S2 G2 a2 w2 q1 (k2.trans q2) q3 (fun i hi => (q4 i hi).trans (k4 i hi)))
def seenO (r : Option (List Prop × List Or × St)) (ks bs : List Nat) : Option (List Prop × List Or × SeenB) :=
 match r with
 | some (cs, o, S) => some (cs, o, seesB S ks bs)
 | none => none
theorem Vfn {P : Program} {ops : Array Oper} {l : List Oper} {S : St} {cs : List Prop} {Q : St -> Prop} (ors : List Or) (n : Nat) (sl : List (Nat × SV)) (bx : List (Nat × ABox)) (gn : List (Key × Nat)) (hc : All cs)
  (h : seenO (Vcs P (ops.toList.map (·.dst)) l ors S) (Vkc sl) (bkeys bx) = some (cs, [], n, Vjf sl, bvals bx, gn)) (hq : Q (sx n sl bx gn)) : WO P ops l Q S := by
 unfold seenO at h
 split at h
 ·rename_i cs' o S1 hr; simp only [Za, Zb] at h; obtain ⟨rfl, rfl, h4⟩ := h; intro more Q' G w a hrel hcont; refine Vbq l ors _ S S1 _ hr hc G w a hrel Q' (fun G' a' w' q1 q2 q3 => ?_); exact hcont _ G' a' w' hq q1 (Vh9 (n := n) (l := sl) (bx := bx) (gn := gn) h4 G' w' a' q2) q3
 ·simp at h
theorem Vjg {sz : Nat} {x : AV} (h : x.cells.length = sz) (h2 : x.isTup = false) : Uni sz [x] := by intro y hy; simp only [List.mem_singleton] at hy; subst hy; exact ⟨h, h2⟩
theorem nott {b : Bool} (h : (!b) = true) : b = false := by cases b <;> simp_all
theorem notf {b : Bool} (h : (!b) = false) : b = true := by cases b <;> simp_all
theorem Vb8 {a x : Bool} (h : cond a x false = true) : a = true /\ x = true := by cases a <;> simp_all
theorem Va4 {a y : Bool} (h : cond a true y = false) : a = false /\ y = false := by cases a <;> simp_all
theorem condP {α : Type} (Q : α -> Prop) {b : Bool} {x y : α} (h1 : b = true -> Q x) (h2 : b = false -> Q y) : Q (cond b x y) := by cases b; exact h2 rfl; exact h1 rfl
inductive Oq where
 | o (x : Or)
 | w (l : List AV)
 | j (o1 o2 : List Oq)
 | s (ts : List Nat) (o1 o2 : List Oq)
 | p (i : Nat)
def still : Op -> Bool
 | .move _ => true
 | .assign _ => true
 | .pick _ _ _ => true
 | .binOp _ _ _ _ _ => true
 | .unOp _ _ _ => true
 | .extract _ _ => true
 | .nilCheck _ => true
 | .fieldAddr _ _ _ => true
 | .load _ _ => true
 | .indexAddr _ _ _ => true
 | .index _ _ _ => true
 | .slice _ _ _ _ none => true
 | .lookup _ _ _ _ => true
 | .convert _ _ _ => true
 | .build _ _ => true
 | .buildSlice _ _ _ => true
 | .call { callee := .builtin .len, args := _, argTypes := _ } => true
 | .call { callee := .builtin .max, args := _, argTypes := _ } => true
 | .call { callee := .builtin .min, args := _, argTypes := _ } => true
 | .call { callee := .value _, args := _, argTypes := _ } => true
 | _ => false
def Vhl : Or -> Bool
 | .c _ [] _ [] => true
 | .c _ _ _ _ => false
 | _ => true
def wOp : Op -> Bool
 | .slice _ _ _ _ _ => true
 | .call { callee := .builtin .append, args := _, argTypes := _ } => true
 | _ => false
def Vbx (S : St) (d : Option Tmp) : SV := match d with
 | some d => S.fr.getD d .junk
 | none => .junk
def normW (o : Oper) (r : List Prop × List Oq × St) : Option (List Prop × List Oq × St) :=
 match Vbx r.2.2 o.dst, r.2.1 with
 | .own k g sz l0, .w l :: ors => some (r.1 ++ [l0 = l], ors, r.2.2.put o.dst (.own k g sz l))
 | .av (.sl l0), .w l :: ors => some (r.1 ++ [l0 = l], ors, r.2.2.put o.dst (.av (.sl l)))
 | .av (.val _), _ => some r
 | .vs _ _, _ => some r
 | .vw _ _ _ _, _ => some r
 | _, _ => none
def exec0 (P : Program) (md : Bool) (o : Oper) (ors : List Oq) (S : St) : Option (List Prop × List Oq × St) :=
 match Vg1 P o [] S with
 | some (c, _, S1) => some (c, ors, S1)
 | none => match ors with
  | .o x :: ors => match Vg1 P o [x] S, Vhl x || !md with
   | some (c, [], S1), true => some (c, ors, S1)
   | _, _ => none
  | _ => none
def exec (P : Program) (md : Bool) (o : Oper) (ors : List Oq) (S : St) : Option (List Prop × List Oq × St) :=
 match wOp o.op with
 | false => exec0 P md o ors S
 | true => match exec0 P md o ors S with
  | some r => normW o r
  | none => none
def litB (lits : List Nat) (S : St) : Operand -> Option Bool
 | .tmp t => match lits.contains t, S.ev (.tmp t) with
  | true, .av (.val (.bool b)) => some b
  | _, _ => none
 | _ => none
def Vo4 (P : Program) (md : Bool) (lits : List Nat) (o : Oper) (ors : List Oq) (S : St) : Option (List Prop × List Oq × St) :=
 match o.op with
 | .pick c x y => match litB lits S c with
  | some b => some ([], ors, S.put o.dst (match b with | true => S.ev x | false => S.ev y))
  | none => exec P md o ors S
 | _ => exec P md o ors S
def mrg (b : Bool) : SV -> SV -> Option SV
 | .av (.val (.bool x)), .av (.val (.bool y)) => some (.av (.val (.bool (cond b x y))))
 | .av (.val (.int k x)), .av (.val (.int k' y)) => if k = k' then some (.av (.val (.int k (cond b x y)))) else none
 | .av (.val (.string x)), .av (.val (.string y)) => some (.av (.val (.string (cond b x y))))
 | .av (.sl x), .av (.sl y) => some (.av (.sl (cond b x y)))
 | _, _ => none
def Vf1 (t : Nat) : List Oper -> Nat
 | [] => 0
 | o :: l => match o.op with
  | .pick (.tmp c) _ _ => if c = t then 1 else Vf1 t l + 1
  | _ => Vf1 t l + 1
def Vbj (l : List Oper) : List Nat := l.filterMap (·.dst)
def Vcx (S : St) (ts : List Nat) : St := ts.foldl (fun S t => S.put (some t) .junk) S
def Vkb (l : List Oper) : Option Tmp := match l.getLast? with
 | some o => o.dst
 | none => none
def runG (P : Program) (ds : List (Option Tmp)) : Bool -> Nat -> List Nat -> List Oper -> List Oq -> St -> Option (List Prop × List Oq × St)
 | _, _, _, [], ors, S => some ([], ors, S)
 | _, 0, _, _ :: _, _, _ => none
 | md, n + 1, lits, o :: rest, ors, S => match o.guard with
  | none => match Vo4 P md lits o ors S with
   | some (c1, ors1, S1) => match runG P ds md n lits rest ors1 S1 with
    | some (c2, r) => some (c1 ++ c2, r)
    | none => none
   | none => none
  | some (j, want) => match (ds[j]?).join with
   | none => none
   | some t => match S.fr[t]? with
    | some (.av (.tup [])) => runG P ds md n lits rest ors (S.put o.dst Vaj)
    | some (.av (.val (.bool b))) => match lits.contains t with
     | true => match (match want with | true => b | false => !b) with
      | true => match Vo4 P md lits o ors S with
       | some (c1, ors1, S1) => match runG P ds md n lits rest ors1 S1 with
        | some (c2, r) => some (c1 ++ c2, r)
        | none => none
       | none => none
      | false => runG P ds md n lits rest ors (S.put o.dst Vaj)
     | false => match ors with
      | .o (.b d) :: ors => if d = want then match Vo4 P md lits o ors S with
        | some (c1, ors1, S1) => match runG P ds md n lits rest ors1 S1 with
         | some (c2, r) => some ((b = d) :: (c1 ++ c2), r)
         | none => none
        | none => none
       else match runG P ds md n lits rest ors (S.put o.dst Vaj) with
        | some (c2, r) => some ((b = d) :: c2, r)
        | none => none
      | .j o1 o2 :: ors => match ((o :: rest).take (Vf1 t (o :: rest))).all (fun o => still o.op), runG P ds true n (t :: lits) ((o :: rest).take (Vf1 t (o :: rest))) o1 (S.put (some t) (.av (.val (.bool true)))), runG P ds true n (t :: lits) ((o :: rest).take (Vf1 t (o :: rest))) o2 (S.put (some t) (.av (.val (.bool false)))) with
       | true, some (c1, [], S1), some (c2, [], S2) => match mrg b (Vbx S1 (Vkb ((o :: rest).take (Vf1 t (o :: rest))))) (Vbx S2 (Vkb ((o :: rest).take (Vf1 t (o :: rest))))) with
        | some v => match runG P ds md n lits ((o :: rest).drop (Vf1 t (o :: rest))) ors ((Vcx S (Vbj ((o :: rest).take (Vf1 t (o :: rest))))).put (Vkb ((o :: rest).take (Vf1 t (o :: rest)))) v) with
         | some (c3, r) => some ((b = true -> All c1) :: (b = false -> All c2) :: c3, r)
         | none => none
        | none => none
       | _, _, _ => none
      | _ => none
    | _ => none
theorem Vek {P : Program} {o : Oper} {S : St} {r : Res} (h : Vaw P o S = some r) (hs : still o.op = true) : r.st = S := by
 unfold Vaw at h
 split at h
 all_goals first | (rename_i ho; rw [ho] at hs) | (simp at h; done)
 all_goals try (simp only [still, Zg] at hs; done)
 all_goals try (simp only [Za] at h; subst h; rfl)
 ·unfold aPick at h; split at h <;> simp at h; subst h; rfl
 ·unfold aBinS at h
  split at h
  ·unfold aBinB at h; split at h
   ·split at h <;> simp at h <;> subst h <;> rfl
   ·simp at h
  ·rw [Zd] at h; obtain ⟨_, _, rfl⟩ := h; rfl
  ·unfold aBinA at h; split at h
   ·split at h
    ·split at h <;> simp at h <;> subst h <;> rfl
    ·simp at h
   ·simp at h
  ·simp at h
 ·unfold aUnS at h; split at h
  ·rw [Zd] at h; obtain ⟨_, _, rfl⟩ := h; rfl
  ·simp at h
 ·unfold Veo at h; split at h
  ·rw [Zd] at h; obtain ⟨_, _, rfl⟩ := h; rfl
  ·rw [Zd] at h; obtain ⟨_, _, rfl⟩ := h; rfl
  ·simp at h
 ·unfold Vd1 at h; split at h <;> simp at h <;> subst h <;> rfl
 ·unfold Vil at h
  repeat' split at h
  all_goals first | (simp at h; done) | (simp only [Za] at h; subst h; rfl)
 ·unfold Vi4 at h
  repeat' split at h
  all_goals first | (simp at h; done) | (simp only [Za] at h; subst h; rfl) | (rw [Zd] at h; obtain ⟨_, _, rfl⟩ := h; rfl)
 ·unfold Vqw at h
  repeat' split at h
  all_goals first | (simp at h; done) | (rw [Zd] at h; obtain ⟨_, _, rfl⟩ := h; rfl)
 ·unfold Vc5 at h
  repeat' split at h
  all_goals first | (simp at h; done) | (simp only [Za] at h; subst h; rfl)
 ·unfold Ve1 at h
  repeat' split at h
  all_goals first | (simp at h; done) | (simp only [Za] at h; subst h; rfl)
 ·unfold Vqv at h
  repeat' split at h
  all_goals first | (simp at h; done) | (simp only [Za] at h; subst h; rfl)
 ·unfold Vqs at h
  repeat' split at h
  all_goals first | (simp at h; done) | (simp only [Za] at h; subst h; rfl)
 ·unfold Vde at h
  split at h
  ·unfold aLen at h
   repeat' split at h
   all_goals first | (simp at h; done) | (simp only [Za] at h; subst h; rfl)
  ·simp [still] at hs
  ·repeat' split at h
   all_goals first | (simp at h; done) | (simp only [Za] at h; subst h; rfl)
  ·repeat' split at h
   all_goals first | (simp at h; done) | (simp only [Za] at h; subst h; rfl)
  ·repeat' split at h
   all_goals first | (simp at h; done) | (simp only [Za] at h; subst h; rfl)
  ·simp [still] at hs
  ·simp at h
 ·unfold Ven at h
  repeat' split at h
  all_goals first | (simp at h; done) | (simp only [Za] at h; subst h; rfl)
 ·unfold Vh4 at h
  repeat' split at h
  all_goals first | (simp at h; done) | (simp only [Za] at h; subst h; rfl)
theorem upd_nil (S : St) : S.upd [] [] = S := by
 obtain ⟨fr, bx, gn⟩ := S; simp [St.upd, Vb5]
theorem Vp5 {P : Program} {o : Oper} {ors ors' : List Or} {S S' : St} {cs : List Prop} (h : Vgt P o ors S = some (cs, ors', S')) (hs : still o.op = true) (hq : ∀ x ∈ ors, Vhl x = true) : ∃ v, S' = S.put o.dst v := by
 unfold Vgt at h
 split at h
 ·split at h
  ·simp only [Za, Zb] at h; exact ⟨_, h.2.2.symm⟩
  ·simp at h
 ·split at h
  ·split at h
   ·simp only [Za, Zb] at h; exact ⟨_, h.2.2.symm⟩
   ·simp at h
  ·simp only [Za, Zb] at h; exact ⟨_, h.2.2.symm⟩
  ·simp at h
 ·split at h
  ·split at h
   ·simp only [Za, Zb] at h; exact ⟨_, h.2.2.symm⟩
   ·simp at h
  ·simp at h
 ·split at h
  ·split at h
   ·simp only [Za, Zb] at h; exact ⟨_, h.2.2.symm⟩
   ·simp at h
  ·simp at h
 ·split at h
  ·split at h
   ·split at h
    ·simp only [Za, Zb] at h; exact ⟨_, h.2.2.symm⟩
    ·simp at h
   ·simp at h
  ·simp at h
 ·split at h
  ·rename_i f fs cs' res bx' gn gn' ors2 hx
   split at h
   case h_2 => simp at h
   simp only [Za, Zb] at h
   have := hq (.c res bx' gn gn') (by simp); unfold Vhl at this
   split at this
   ·rename_i e; simp only [Or.c.injEq] at e; obtain ⟨_, rfl, _, rfl⟩ := e; refine ⟨res, ?_⟩; rw [<- h.2.2, upd_nil]
   ·simp at this
   ·rename_i e; exact (e _ _ _ _ rfl).elim
  ·simp at h
 ·split at h
  ·rename_i ok v st y ors2 ha; simp only [Za, Zb] at h; refine ⟨.av y, ?_⟩
   have := Vek ha hs; simp only at this; rw [<- h.2.2, this]
  ·simp at h
 ·split at h
  ·rename_i r ha; simp only [Za, Zb] at h; refine ⟨r.v, ?_⟩; rw [<- h.2.2, Vek ha hs]
  ·simp at h
theorem Vju {P : Program} {o : Oper} {ors ors' : List Or} {S S' : St} {cs : List Prop} (h : Vg1 P o ors S = some (cs, ors', S')) (hs : still o.op = true) (hq : ∀ x ∈ ors, Vhl x = true) : ∃ v, S' = S.put o.dst v := by
 unfold Vg1 at h
 split at h
 ·simp only [Za, Zb] at h; exact ⟨_, h.2.2.symm⟩
 ·exact Vp5 h hs hq
theorem Vkj {P : Program} {o : Oper} {ors ors' : List Oq} {S S' : St} {cs : List Prop} (h : exec0 P true o ors S = some (cs, ors', S')) (hs : still o.op = true) : ∃ v, S' = S.put o.dst v := by
 unfold exec0 at h
 split at h
 ·rename_i c _ S1 h1; simp only [Za, Zb] at h; obtain ⟨_, _, rfl⟩ := h; exact Vju h1 hs (by simp)
 ·split at h
  ·rename_i x ors2
   split at h
   ·rename_i c S1 h1 h2; simp only [Za, Zb] at h; obtain ⟨_, _, rfl⟩ := h; exact Vju h1 hs (by intro y hy; simp at hy; subst hy; simpa using h2)
   ·simp at h
  ·simp at h
theorem put_put (S : St) (d : Option Tmp) (u v : SV) : (S.put d u).put d v = S.put d v := by
 cases d with
 | none => rfl
 | some d => simp [St.put]
theorem Vmf {P : Program} {o : Oper} {ors ors' : List Oq} {S S' : St} {cs : List Prop} (h : exec P true o ors S = some (cs, ors', S')) (hs : still o.op = true) : ∃ v, S' = S.put o.dst v := by
 unfold exec at h
 split at h
 ·exact Vkj h hs
 ·split at h
  ·rename_i r h1; obtain ⟨c, ors1, S1⟩ := r; obtain ⟨v, rfl⟩ := Vkj h1 hs; unfold normW at h; simp only at h
   split at h
   ·simp only [Za, Zb] at h; exact ⟨_, by rw [<- h.2.2, put_put]⟩
   ·simp only [Za, Zb] at h; exact ⟨_, by rw [<- h.2.2, put_put]⟩
   ·simp only [Za, Zb] at h; exact ⟨_, h.2.2.symm⟩
   ·simp only [Za, Zb] at h; exact ⟨_, h.2.2.symm⟩
   ·simp only [Za, Zb] at h; exact ⟨_, h.2.2.symm⟩
   ·simp at h
  ·simp at h
theorem execL_still {P : Program} {lits : List Nat} {o : Oper} {ors ors' : List Oq} {S S' : St} {cs : List Prop} (h : Vo4 P true lits o ors S = some (cs, ors', S')) (hs : still o.op = true) : ∃ v, S' = S.put o.dst v := by
 unfold Vo4 at h
 split at h
 ·split at h
  ·simp only [Za, Zb] at h; exact ⟨_, h.2.2.symm⟩
  ·exact Vmf h hs
 ·exact Vmf h hs
structure Like (S S' : St) (ts : List Nat) : Prop where
 bx : S'.bx = S.bx
 gn : S'.gn = S.gn
 len : S'.fr.length = S.fr.length
 fr : ∀ t : Nat, t ∉ ts -> S'.fr[t]? = S.fr[t]?
theorem Like.refl (S : St) (ts : List Nat) : Like S S ts := ⟨rfl, rfl, rfl, fun _ _ => rfl⟩
theorem Like.trans {S S' S'' : St} {ts ts' us : List Nat} (h : Like S S' ts) (h' : Like S' S'' ts') (h1 : ∀ t ∈ ts, t ∈ us) (h2 : ∀ t ∈ ts', t ∈ us) : Like S S'' us :=
 ⟨h'.bx.trans h.bx, h'.gn.trans h.gn, h'.len.trans h.len, fun t ht => (h'.fr t (fun q => ht (h2 t q))).trans (h.fr t (fun q => ht (h1 t q)))⟩
theorem Like.put (S : St) (d : Option Tmp) (v : SV) : Like S (S.put d v) d.toList := by
 cases d with
 | none => exact Like.refl _ _
 | some d => exact ⟨rfl, rfl, by simp [St.put], fun t ht => by simp at ht; simp [St.put, Zm, Ne.symm ht]⟩
theorem Like.put' {S : St} {d : Option Tmp} {v : SV} {ts : List Nat} (h : ∀ t, d = some t -> t ∈ ts) : Like S (S.put d v) ts :=
 (Like.put S d v).trans (Like.refl _ []) (by intro t ht; cases d with | none => simp at ht | some d => simp at ht; subst ht; exact h _ rfl) (by simp)
theorem Like.junk (S : St) : ∀ (l : List Nat) (S : St), Like S (Vcx S l) l
 | [], S => Like.refl _ _
 | t :: l, S => (Like.put S (some t) .junk).trans (Like.junk S l _) (by simp) (by intro t ht; simp [ht])
theorem Vq6 {l : List Oper} {k : Nat} {t : Nat} (h : t ∈ Vbj (l.take k)) : t ∈ Vbj l := by
 simp only [Vbj, Zz] at h ⊢; obtain ⟨o, h1, h2⟩ := h; exact ⟨o, List.mem_of_mem_take h1, h2⟩
theorem dsts_drop {l : List Oper} {k : Nat} {t : Nat} (h : t ∈ Vbj (l.drop k)) : t ∈ Vbj l := by
 simp only [Vbj, Zz] at h ⊢; obtain ⟨o, h1, h2⟩ := h; exact ⟨o, List.mem_of_mem_drop h1, h2⟩
theorem Vkl {l : List Oper} {t : Nat} (h : Vkb l = some t) : t ∈ Vbj l := by
 unfold Vkb at h
 split at h
 ·rename_i o ho; simp only [Vbj, Zz]; exact ⟨o, List.mem_of_getLast? ho, h⟩
 ·simp at h
theorem Vq8 {o : Oper} {l : List Oper} {t : Nat} (h : t ∈ Vbj l) : t ∈ Vbj (o :: l) := by
 simp only [Vbj, Zz] at h ⊢; obtain ⟨o', h1, h2⟩ := h; exact ⟨o', List.mem_cons_of_mem _ h1, h2⟩
theorem Vq7 {o : Oper} {l : List Oper} {t : Nat} (h : o.dst = some t) : t ∈ Vbj (o :: l) := by
 simp only [Vbj, Zz]; exact ⟨o, by simp, h⟩
theorem Vdq {P : Program} {ds : List (Option Tmp)} : ∀ (n : Nat) (lits : List Nat) (l : List Oper) (ors ors' : List Oq) (S S' : St) (cs : List Prop), l.all (fun o => still o.op) = true -> runG P ds true n lits l ors S = some (cs, ors', S') -> Like S S' (Vbj l)
 | n, lits, [], ors, ors', S, S', cs, _, h => by
  simp only [runG, Za, Zb] at h; obtain ⟨_, _, rfl⟩ := h; exact Like.refl _ _
 | 0, lits, _ :: _, ors, ors', S, S', cs, _, h => by simp [runG] at h
 | n + 1, lits, o :: rest, ors, ors', S, S', cs, hs, h => by
  have hs0 := hs; simp only [List.all_cons, Ze] at hs; obtain ⟨hso, hsr⟩ := hs
  have hsd : ∀ k, ((o :: rest).drop k).all (fun o => still o.op) = true := by
   intro k; rw [Zk] at hs0 ⊢; exact fun x hx => hs0 x (List.mem_of_mem_drop hx)
  have one : ∀ {c1 c2 : List Prop} {o1 o2 o3 : List Oq} {S1 S2 : St}, Vo4 P true lits o o1 S = some (c1, o2, S1) -> runG P ds true n lits rest o2 S1 = some (c2, o3, S2) -> Like S S2 (Vbj (o :: rest)) := by
   intro c1 c2 o1 o2 o3 S1 S2 h1 h2; obtain ⟨v, rfl⟩ := execL_still h1 hso; exact (Like.put' (ts := Vbj (o :: rest)) (fun t ht => Vq7 ht)).trans (Vdq n lits rest _ _ _ _ _ hsr h2) (fun _ h => h) (fun t ht => Vq8 ht)
  have skip : ∀ {c2 : List Prop} {o2 o3 : List Oq} {S2 : St}, runG P ds true n lits rest o2 (S.put o.dst Vaj) = some (c2, o3, S2) -> Like S S2 (Vbj (o :: rest)) := by
   intro c2 o2 o3 S2 h2; exact (Like.put' (ts := Vbj (o :: rest)) (fun t ht => Vq7 ht)).trans (Vdq n lits rest _ _ _ _ _ hsr h2) (fun _ h => h) (fun t ht => Vq8 ht)
  simp only [runG] at h
  split at h
  ·split at h
   ·rename_i h1
    split at h
    ·rename_i h2; simp only [Za, Zb] at h; obtain ⟨_, rfl⟩ := h; exact one h1 h2
    ·simp at h
   ·simp at h
  ·split at h
   ·simp at h
   ·split at h
    ·exact skip h
    ·split at h
     ·split at h
      ·split at h
       ·rename_i h1
        split at h
        ·rename_i h2; simp only [Za, Zb] at h; obtain ⟨_, rfl⟩ := h; exact one h1 h2
        ·simp at h
       ·simp at h
      ·exact skip h
     ·split at h
      ·split at h
       ·split at h
        ·rename_i h1
         split at h
         ·rename_i h2; simp only [Za, Zb] at h; obtain ⟨_, rfl⟩ := h; exact one h1 h2
         ·simp at h
        ·simp at h
       ·split at h
        ·rename_i h2; simp only [Za, Zb] at h; obtain ⟨_, rfl⟩ := h; exact skip h2
        ·simp at h
      ·split at h
       ·split at h
        ·rename_i v hv
         split at h
         ·rename_i h3; simp only [Za, Zb] at h; obtain ⟨_, rfl⟩ := h; refine ((Like.junk S _ S).trans (Like.put' (ts := Vbj (o :: rest)) (fun t ht => Vq6 (Vkl ht))) (us := Vbj (o :: rest)) (fun t ht => Vq6 ht) (fun _ h => h)).trans (Vdq n lits _ _ _ _ _ _ (hsd _) h3) (fun _ h => h) (fun t ht => dsts_drop ht)
         ·simp at h
        ·simp at h
       ·simp at h
      ·simp at h
    ·simp at h
end Go.Eng
namespace Go.Eng
section
variable {P : Program}
theorem Vp0 {G : Gh} {w : World} {S : St} {a : Act} (d : Option Tmp) (h : Rel G w S a) : Rel G w (S.put d (Vbx S d)) a := by
 cases d with
 | none => exact h
 | some d =>
  refine ⟨h.wf, by simp [St.put, h.size], fun t s ht => ?_, h.bx, h.gn, h.defers⟩; simp only [St.put, Vbx] at ht; rw [Zm] at ht
  split at ht
  ·rename_i hd; subst hd
   split at ht
   ·rename_i hlt; simp only [Za] at ht; subst ht; refine h.fr d _ ?_; simp [List.getD, hlt]
   ·simp at ht
  ·exact h.fr t s ht
theorem Vc3 {md : Bool} {o : Oper} {ors ors' : List Oq} {S S' : St} {cs : List Prop} (h : exec0 P md o ors S = some (cs, ors', S')) (hc : All cs) {G : Gh} {w : World} {a : Act} (hr : Rel G w S a) {Q : Exit -> Act -> World -> Prop} {next : Act -> World -> Prop}
  (hn : ∀ G' a' w', Step G w G' w' -> Rel G' w' S' a' -> (∀ i, Fx i -> G'.ow (i, 0) = G.ow (i, 0)) -> next a' w') : o.wp P a w next Q := by
 unfold exec0 at h
 split at h
 ·rename_i c _ S1 h1; simp only [Za, Zb] at h; obtain ⟨rfl, _, rfl⟩ := h; exact Vbl h1 hc hr hn
 ·split at h
  ·rename_i x ors2
   split at h
   ·rename_i c S1 h1 h2; simp only [Za, Zb] at h; obtain ⟨rfl, _, rfl⟩ := h; exact Vbl h1 hc hr hn
   ·simp at h
  ·simp at h
theorem Vmg {md : Bool} {o : Oper} {ors ors' : List Oq} {S S' : St} {cs : List Prop} (h : exec P md o ors S = some (cs, ors', S')) (hc : All cs) {G : Gh} {w : World} {a : Act} (hr : Rel G w S a) {Q : Exit -> Act -> World -> Prop} {next : Act -> World -> Prop}
  (hn : ∀ G' a' w', Step G w G' w' -> Rel G' w' S' a' -> (∀ i, Fx i -> G'.ow (i, 0) = G.ow (i, 0)) -> next a' w') : o.wp P a w next Q := by
 unfold exec at h
 split at h
 ·exact Vc3 h hc hr hn
 ·split at h
  ·rename_i r h1; obtain ⟨c, ors1, S1⟩ := r; unfold normW at h; simp only at h
   split at h
   ·rename_i k g sz l0 l ors2 e1; simp only [Za, Zb] at h; obtain ⟨rfl, _, rfl⟩ := h; obtain ⟨hc1, hc2⟩ := Vau hc
    have := hc2.1; subst this; exact Vc3 h1 hc1 hr (fun G' a' w' q1 q2 q3 => hn G' a' w' q1 (by have := Vp0 o.dst q2; rw [e1] at this; exact this) q3)
   ·rename_i l0 l ors2 e1; simp only [Za, Zb] at h; obtain ⟨rfl, _, rfl⟩ := h; obtain ⟨hc1, hc2⟩ := Vau hc
    have := hc2.1; subst this; exact Vc3 h1 hc1 hr (fun G' a' w' q1 q2 q3 => hn G' a' w' q1 (by have := Vp0 o.dst q2; rw [e1] at this; exact this) q3)
   ·simp only [Za, Zb] at h; obtain ⟨rfl, _, rfl⟩ := h; exact Vc3 h1 hc hr hn
   ·simp only [Za, Zb] at h; obtain ⟨rfl, _, rfl⟩ := h; exact Vc3 h1 hc hr hn
   ·simp only [Za, Zb] at h; obtain ⟨rfl, _, rfl⟩ := h; exact Vc3 h1 hc hr hn
   ·simp at h
  ·simp at h
theorem execL_sound {md : Bool} {lits : List Nat} {o : Oper} {ors ors' : List Oq} {S S' : St} {cs : List Prop} (h : Vo4 P md lits o ors S = some (cs, ors', S')) (hc : All cs) {G : Gh} {w : World} {a : Act} (hr : Rel G w S a) {Q : Exit -> Act -> World -> Prop} {next : Act -> World -> Prop}
  (hn : ∀ G' a' w', Step G w G' w' -> Rel G' w' S' a' -> (∀ i, Fx i -> G'.ow (i, 0) = G.ow (i, 0)) -> next a' w') : o.wp P a w next Q := by
 unfold Vo4 at h
 split at h
 ·rename_i c x y ho
  split at h
  ·rename_i b hb; simp only [Za, Zb] at h; obtain ⟨rfl, _, rfl⟩ := h
   have hev : S.ev c = .av (.val (.bool b)) := by
    unfold litB at hb
    split at hb
    ·split at hb
     ·rename_i e; simp only [Za] at hb; subst hb; exact e
     ·simp at hb
    ·simp at hb
   clear hb; cases b with
   | true =>
    have h1 : Vg1 P o [.b true] S = some ([true = true], [], S.put o.dst (S.ev x)) := by
     unfold Vg1 Vaz Vgt; rw [ho]; simp only [hev]
    exact Vbl h1 ⟨rfl, trivial⟩ hr hn
   | false =>
    have h1 : Vg1 P o [.b false] S = some ([false = false], [], S.put o.dst (S.ev y)) := by
     unfold Vg1 Vaz Vgt; rw [ho]; simp only [hev]
    exact Vbl h1 ⟨rfl, trivial⟩ hr hn
  ·exact Vmg h hc hr hn
 ·exact Vmg h hc hr hn
theorem Vgm (G : Gh) (w : World) : RepS G w Vaj undef := by
 simp only [Vaj, RepS, Rep]; exact ⟨#[], rfl, by simp [RepL]⟩
theorem WO_mono {ops : Array Oper} {l : List Oper} {Q Q2 : St -> Prop} {S : St} (h : WO P ops l Q S) (hq : ∀ S, Q S -> Q2 S) : WO P ops l Q2 S :=
 fun more Q' G w a hr hc => h more Q' G w a hr (fun S' G' a' w' q1 => hc S' G' a' w' (hq _ q1))
theorem WO_op {ops : Array Oper} {o : Oper} {rest : List Oper} {Q : St -> Prop} {S S1 : St} (hg : ∀ G w a, Rel G w S a -> Region.wanted o (yielded ops a.tmps) = true)
  (hx : ∀ (G : Gh) (w : World) (a : Act), Rel G w S a -> ∀ (Q' : Exit -> Act -> World -> Prop) (next : Act -> World -> Prop), (∀ G' a' w', Step G w G' w' -> Rel G' w' S1 a' -> (∀ i, Fx i -> G'.ow (i, 0) = G.ow (i, 0)) -> next a' w') -> o.wp P a w next Q')
  (h : WO P ops rest Q S1) : WO P ops (o :: rest) Q S := by
 intro more Q' G w a hr hq; simp only [Zw, wpList]; rw [if_pos (hg G w a hr)]; refine .inl (hx G w a hr _ _ (fun G' a' w' q1 q2 q3 => ?_)); exact h more Q' G' w' a' q2 (fun S' G2 a2 w2 p1 p2 p3 p4 => hq S' G2 a2 w2 p1 (q1.trans p2) p3 (fun i hi => (p4 i hi).trans (q3 i hi)))
theorem WO_pass {ops : Array Oper} {o : Oper} {rest : List Oper} {Q : St -> Prop} {S : St} (hg : ∀ G w a, Rel G w S a -> Region.wanted o (yielded ops a.tmps) = false)
  (h : WO P ops rest Q (S.put o.dst Vaj)) : WO P ops (o :: rest) Q S := by
 intro more Q' G w a hr hq; simp only [Zw, wpList]; rw [hg G w a hr]; simp only [Zg, if_false]; exact h more Q' G w _ (hr.put o.dst (Vgm G w)) hq
theorem Vao {ops : Array Oper} {o : Oper} (hg : o.guard = none) (a : Act) : Region.wanted o (yielded ops a.tmps) = true := by simp [Region.wanted, hg]
theorem Voq {ops : Array Oper} {o : Oper} {S : St} {j : Nat} {want : Bool} {t : Nat} (hg : o.guard = some (j, want)) (ht : ((ops.toList.map (·.dst))[j]?).join = some t) (hs : S.fr[t]? = some (.av (.tup []))) {G : Gh} {w : World} {a : Act} (hr : Rel G w S a) : Region.wanted o (yielded ops a.tmps) = false := by
 obtain ⟨t', u, e1, e2, e3⟩ := Vb7 (S := S) (j := j) (s := .av (.tup [])) (by unfold Vcc; rw [ht]; exact hs) hr; simp only [RepS, Rep] at e3; obtain ⟨us, rfl, _⟩ := e3; simp only [Region.wanted, hg, yielded, e1, Zn, e2]; rfl
theorem Ve3 {ops : Array Oper} {o : Oper} {S : St} {j : Nat} {want b : Bool} {t : Nat} (hg : o.guard = some (j, want)) (ht : ((ops.toList.map (·.dst))[j]?).join = some t) (hs : S.fr[t]? = some (.av (.val (.bool b)))) {G : Gh} {w : World} {a : Act} (hr : Rel G w S a) : Region.wanted o (yielded ops a.tmps) = (b == want) := by
 obtain ⟨t', u, e1, e2, e3⟩ := Vb7 (S := S) (j := j) (s := .av (.val (.bool b))) (by unfold Vcc; rw [ht]; exact hs) hr; simp only [RepS, Rep] at e3; obtain ⟨rfl, _⟩ := e3; simp only [Region.wanted, hg, yielded, e1, Zn, e2]; cases b <;> cases want <;> rfl
theorem Vgk {S S1 : St} {ts : List Nat} (h : Like S S1 ts) (d : Option Tmp) (hd : ∀ t, d = some t -> t ∈ ts) : Weak S1 ((Vcx S ts).put d (Vbx S1 d)) := by
 have hj : ∀ (ts : List Nat) (S : St) (t : Nat), t ∈ ts -> (Vcx S ts).fr[t]? = some .junk \/ (Vcx S ts).fr[t]? = none := by
  intro ts
  induction ts with
  | nil => intro S t ht; simp at ht
  | cons u ts ih =>
   intro S t ht
   by_cases hm : t ∈ ts
   ·exact ih _ t hm
   ·simp only [Zo] at ht; rcases ht with rfl | ht
    ·have hl := (Like.junk S ts (S.put (some t) .junk)).fr t hm
     show (Vcx (S.put (some t) .junk) ts).fr[t]? = some .junk \/ (Vcx (S.put (some t) .junk) ts).fr[t]? = none; rw [hl]; simp only [St.put, Zm, if_true]
     split
     ·exact .inl rfl
     ·exact .inr rfl
    ·exact (hm ht).elim
 have hl := Like.junk S ts S; intro G w a hr
 have key : ∀ t s, (Vcx S ts).fr[t]? = some s -> RepS G w s (a.tmps.getD t undef) := by
  intro t s hs
  by_cases hm : t ∈ ts
  ·rcases hj ts S t hm with h1 | h1
   ·rw [h1] at hs; simp only [Za] at hs; subst hs; trivial
   ·rw [h1] at hs; simp at hs
  ·rw [hl.fr t hm, <- h.fr t hm] at hs; exact hr.fr t s hs
 have hlen : (Vcx S ts).fr.length = S1.fr.length := by rw [hl.len, h.len]
 have hbase : Rel G w (Vcx S ts) a := by
  refine ⟨hr.wf, by rw [hlen]; exact hr.size, key, ?_, ?_, hr.defers⟩
  ·rw [hl.bx, <- h.bx]; exact hr.bx
  ·intro k; rw [hr.gn k]; simp only [St.gen]; rw [hl.gn, <- h.gn]
 cases d with
 | none => exact hbase
 | some d =>
  refine ⟨hr.wf, by simp only [St.put, Z4]; exact hbase.size, fun t s ht => ?_, hbase.bx, hbase.gn, hbase.defers⟩; simp only [St.put, Vbx] at ht; rw [Zm] at ht
  split at ht
  ·rename_i hdt; subst hdt
   split at ht
   ·rename_i hlt; simp only [Za] at ht; subst ht; refine hr.fr d _ ?_
    have : d < S1.fr.length := by rw [<- hlen]; exact hlt
    simp [List.getD, this]
   ·simp at ht
  ·exact key t s ht
theorem mrg_true {x y v : SV} (h : mrg true x y = some v) : v = x := by
 unfold mrg at h
 split at h
 ·simp at h; exact h.symm
 ·split at h
  ·simp at h; exact h.symm
  ·simp at h
 ·simp at h; exact h.symm
 ·simp at h; exact h.symm
 ·simp at h
theorem Vpk {x y v : SV} (h : mrg false x y = some v) : v = y := by
 unfold mrg at h
 split at h
 ·simp at h; exact h.symm
 ·split at h
  ·rename_i hk; subst hk; simp at h; exact h.symm
  ·simp at h
 ·simp at h; exact h.symm
 ·simp at h; exact h.symm
 ·simp at h
theorem Vbi {S : St} {t : Nat} {v : SV} (h : S.fr[t]? = some v) : S.put (some t) v = S := by
 obtain ⟨fr, bx, gn⟩ := S; simp only [St.put] at h ⊢; congr 1; apply List.ext_getElem?; intro i; rw [Zm]
 split
 ·rename_i hi; subst hi
  split
  ·exact h.symm
  ·rename_i hn; rw [Zf (by omega)]
 ·rfl
theorem Vbn {ops : Array Oper} : ∀ (md : Bool) (n : Nat) (lits : List Nat) (l : List Oper) (ors ors' : List Oq) (S S' : St) (cs : List Prop), runG P (ops.toList.map (·.dst)) md n lits l ors S = some (cs, ors', S') -> All cs -> WO P ops l (fun S1 => S1 = S') S
 | md, n, lits, [], ors, ors', S, S', cs, h, hc => by
  simp only [runG, Za, Zb] at h; obtain ⟨_, _, rfl⟩ := h; exact Vbw rfl rfl
 | md, 0, lits, _ :: _, ors, ors', S, S', cs, h, hc => by simp [runG] at h
 | md, n + 1, lits, o :: rest, ors, ors', S, S', cs, h, hc => by
  have one : ∀ {c1 c2 : List Prop} {o1 o2 o3 : List Oq} {S1 S2 : St}, (∀ G w a, Rel G w S a -> Region.wanted o (yielded ops a.tmps) = true) -> Vo4 P md lits o o1 S = some (c1, o2, S1) -> runG P (ops.toList.map (·.dst)) md n lits rest o2 S1 = some (c2, o3, S2) -> All (c1 ++ c2) -> WO P ops (o :: rest) (fun S => S = S2) S := by
   intro c1 c2 o1 o2 o3 S1 S2 hw h1 h2 hc'; obtain ⟨hc1, hc2⟩ := Vau hc'; exact WO_op hw (fun G w a hr Q' next hn => execL_sound h1 hc1 hr hn) (Vbn md n lits rest _ _ _ _ _ h2 hc2)
  simp only [runG] at h
  split at h
  ·rename_i hg
   split at h
   ·rename_i h1
    split at h
    ·rename_i h2; simp only [Za, Zb] at h; obtain ⟨rfl, rfl⟩ := h; exact one (fun G w a _ => Vao hg a) h1 h2 hc
    ·simp at h
   ·simp at h
  ·rename_i j want hg
   split at h
   ·simp at h
   ·rename_i t ht
    split at h
    ·rename_i hs; exact WO_pass (fun G w a hr => Voq hg ht hs hr) (Vbn md n lits rest _ _ _ _ _ h hc)
    ·rename_i b hs
     split at h
     ·split at h
      ·rename_i hb
       have hbw : b = want := by cases b <;> cases want <;> simp_all
       split at h
       ·rename_i h1
        split at h
        ·rename_i h2; simp only [Za, Zb] at h; obtain ⟨rfl, rfl⟩ := h; exact one (fun G w a hr => by rw [Ve3 hg ht hs hr]; simp [hbw]) h1 h2 hc
        ·simp at h
       ·simp at h
      ·rename_i hb; exact WO_pass (fun G w a hr => by rw [Ve3 hg ht hs hr]; cases b <;> cases want <;> simp_all) (Vbn md n lits rest _ _ _ _ _ h hc)
     ·split at h
      ·rename_i d ors2
       split at h
       ·rename_i hd
        split at h
        ·rename_i h1
         split at h
         ·rename_i h2; simp only [Za, Zb] at h; obtain ⟨rfl, rfl⟩ := h; obtain ⟨hb, hc'⟩ := hc; exact one (fun G w a hr => by rw [Ve3 hg ht hs hr]; simp [hb, hd]) h1 h2 hc'
         ·simp at h
        ·simp at h
       ·rename_i hd
        split at h
        ·rename_i h2; simp only [Za, Zb] at h; obtain ⟨rfl, rfl⟩ := h; obtain ⟨hb, hc'⟩ := hc; exact WO_pass (fun G w a hr => by rw [Ve3 hg ht hs hr]; subst hb; simp [hd]) (Vbn md n lits rest _ _ _ _ _ h2 hc')
        ·simp at h
      ·rename_i o1 o2 ors2
       split at h
       ·rename_i c1 S1 c2 S2 hst h1 h2
        split at h
        ·rename_i v hv
         split at h
         ·rename_i h3; simp only [Za, Zb] at h; obtain ⟨rfl, rfl⟩ := h; obtain ⟨hq1, hq2, hc3⟩ := hc; refine Vfy (Vf1 t (o :: rest)) ?_ (Vbn md n lits _ _ _ _ _ _ h3 hc3); cases b with
          | true =>
           rw [Vbi hs] at h1; refine WO_mono (Vbn true n _ _ _ _ _ _ _ h1 (hq1 rfl)) (fun S3 e => ?_); subst e; rw [mrg_true hv]; exact Vgk (Vdq n _ _ _ _ _ _ _ hst h1) _ (fun t ht => Vkl ht)
          | false =>
           rw [Vbi hs] at h2; refine WO_mono (Vbn true n _ _ _ _ _ _ _ h2 (hq2 rfl)) (fun S3 e => ?_); subst e; rw [Vpk hv]; exact Vgk (Vdq n _ _ _ _ _ _ _ hst h2) _ (fun t ht => Vkl ht)
         ·simp at h
        ·simp at h
       ·simp at h
      ·simp at h
    ·simp at h
end
end Go.Eng
namespace Go.Eng
inductive Fm where
 | sq (d : Code)
 | bk (id : Nat)
 | sc
inductive Out where
 | fin (e : Exit) (S : St)
 | at (c : Code) (ks : List Fm) (S : St)
abbrev Cf := Option (List Prop × List Oq × Out)
def Veu : Code -> Bool
 | .skip => true
 | .label _ => true
 | .exit _ => true
 | .region _ ops false => ops.toList.all (fun o => still o.op)
 | .seq x y => Veu x && Veu y
 | .cond _ x y => Veu x && Veu y
 | .block _ c => Veu c
 | _ => false
def Vew : Code -> List Nat
 | .region _ ops _ => Vbj ops.toList
 | .seq x y => Vew x ++ Vew y
 | .cond _ x y => Vew x ++ Vew y
 | .block _ c => Vew c
 | _ => []
def putM (b : Bool) (S1 S2 : St) : List Nat -> St -> Option St
 | [], S => some S
 | t :: ts, S => match mrg b (Vbx S1 (some t)) (Vbx S2 (some t)) with
  | some v => putM b S1 S2 ts (S.put (some t) v)
  | none => none
def subL (ts us : List Nat) : Bool := ts.all (fun t => us.contains t)
def pauseAt (i : Nat) : List Oq -> Option (List Oq)
 | .p k :: ors => match decide (k = i) with
  | true => some ors
  | false => none
 | _ => none
def go (P : Program) : Bool -> Code -> List Oq -> St -> Cf
 | md, .skip, ors, S => some ([], ors, .fin .normal S)
 | md, .label _, ors, S => some ([], ors, .fin .normal S)
 | md, .exit id, ors, S => some ([], ors, .fin (.exit id) S)
 | md, .ret, ors, S => some ([], ors, .fin .ret S)
 | md, .region i ops true, ors, S => some ([], ors, .at (.region i ops true) [] S)
 | md, .region i ops false, ors, S => match pauseAt i ors with
  | some ors => some ([], ors, .at (.region i ops false) [] S)
  | none => match runG P (ops.toList.map (·.dst)) md (ops.size + 40) [] ops.toList ors S with
   | some (c, ors, S) => some (c, ors, .fin .normal S)
   | none => none
 | md, .seq x y, ors, S => match go P md x ors S with
  | some (c1, ors1, .fin .normal S1) => match go P md y ors1 S1 with
   | some (c2, r) => some (c1 ++ c2, r)
   | none => none
  | some (c1, ors1, .at c ks S1) => some (c1, ors1, .at c (ks ++ [.sq y]) S1)
  | r => r
 | md, .cond c x y, ors, S => match S.ev c with
  | .av (.val (.bool b)) => match ors with
   | .o (.b d) :: ors => match (match d with | true => go P md x ors S | false => go P md y ors S) with
    | some (c2, r) => some ((b = d) :: c2, r)
    | none => none
   | .s ts o1 o2 :: ors => match Veu x && Veu y && subL ts (Vew x ++ Vew y), go P true x o1 S, go P true y o2 S with
    | true, some (c1, [], .fin .normal S1), some (c2, [], .fin .normal S2) => match putM b S1 S2 ts (Vcx S (Vew x ++ Vew y)) with
     | some S3 => some ([(b = true -> All c1), (b = false -> All c2)], ors, .fin .normal S3)
     | none => none
    | _, _, _ => none
   | [] => some ([], [], .at (.cond c x y) [] S)
   | _ => none
  | _ => none
 | md, .block id c, ors, S => match go P md c ors S with
  | some (c1, ors1, .fin (.exit id') S1) => match decide (id' = id) with
   | true => some (c1, ors1, .fin .normal S1)
   | false => some (c1, ors1, .fin (.exit id') S1)
  | some (c1, ors1, .at c ks S1) => some (c1, ors1, .at c (ks ++ [.bk id]) S1)
  | r => r
 | md, .loop c, ors, S => some ([], ors, .at (.loop c) [] S)
 | md, .scope c, ors, S => match go P md c ors S with
  | some (_, _, .fin (.goto _) _) => none
  | some (c1, ors1, .at c ks S1) => some (c1, ors1, .at c (ks ++ [.sc]) S1)
  | r => r
 | _, _, _, _ => none
def goK (P : Program) : List Fm -> Cf -> Cf
 | _, none => none
 | [], r => r
 | .sq d :: ks, some (cs, ors, .fin .normal S) => match go P false d ors S with
  | some (c2, ors2, out) => goK P ks (some (cs ++ c2, ors2, out))
  | none => none
 | .sq _ :: ks, some (cs, ors, .fin e S) => goK P ks (some (cs, ors, .fin e S))
 | .bk id :: ks, some (cs, ors, .fin (.exit id') S) => match decide (id' = id) with
  | true => goK P ks (some (cs, ors, .fin .normal S))
  | false => goK P ks (some (cs, ors, .fin (.exit id') S))
 | .bk _ :: ks, some (cs, ors, .fin e S) => goK P ks (some (cs, ors, .fin e S))
 | .sc :: _, some (_, _, .fin (.goto _) _) => none
 | .sc :: ks, some (cs, ors, .fin e S) => goK P ks (some (cs, ors, .fin e S))
 | k :: ks, some (cs, ors, .at c k2 S) => some (cs, ors, .at c (k2 ++ (k :: ks)) S)
def adv (P : Program) (X : Cf) (ors : List Oq) : Cf := match X with
 | some (_, _, .at c ks S) => goK P ks (go P false c ors S)
 | _ => none
section
variable {P : Program}
def scopeS (Q : Exit -> St -> Prop) : Exit -> St -> Prop
 | .goto _, _ => False
 | e, S => Q e S
theorem W_scope {c : Code} {Q : Exit -> St -> Prop} {S : St} (h : W P c (scopeS Q) S) : W P (.scope c) Q S := by
 intro G w a hr; refine wp_scope_straight (Code.wp_mono (fun e a' w' hl => ?_) (h G w a hr)); obtain ⟨S', G', h1, h2⟩ := hl; cases e with
 | goto l => exact h1.elim
 | normal => exact ⟨S', G', h1, h2⟩
 | exit id => exact ⟨S', G', h1, h2⟩
 | ret => exact ⟨S', G', h1, h2⟩
 | panic c => exact ⟨S', G', h1, h2⟩
 | outgrown => exact ⟨S', G', h1, h2⟩
theorem scopeS_of {Q : Exit -> St -> Prop} {e : Exit} {S : St} (h : Q e S) (hn : ∀ l, e ≠ .goto l) : scopeS Q e S := by
 cases e with
 | goto l => exact (hn l rfl).elim
 | _ => exact h
def Kont (P : Program) (Q : Exit -> St -> Prop) : List Fm -> Exit -> St -> Prop
 | [] => Q
 | .sq d :: ks => Vor (W P d (Kont P Q ks)) (Kont P Q ks)
 | .bk id :: ks => Vii id (Kont P Q ks)
 | .sc :: ks => scopeS (Kont P Q ks)
def Okay (P : Program) (Q : Exit -> St -> Prop) : Out -> Prop
 | .fin e S => Q e S
 | .at c ks S => W P c (Kont P Q ks) S
theorem Vba (Q : Exit -> St -> Prop) (k2 : List Fm) : ∀ ks : List Fm, Kont P Q (ks ++ k2) = Kont P (Kont P Q k2) ks
 | [] => rfl
 | .sq d :: ks => by simp only [Zw, Kont, Vba Q k2 ks]
 | .bk id :: ks => by simp only [Zw, Kont, Vba Q k2 ks]
 | .sc :: ks => by simp only [Zw, Kont, Vba Q k2 ks]
theorem Vop {S1 S0 : St} (h : Weak S1 S0) (hl : S0.fr.length = S1.fr.length) (t : Nat) : Weak S1 (S0.put (some t) (Vbx S1 (some t))) := by
 intro G w a hr
 have h0 := h G w a hr; refine ⟨h0.wf, by simp only [St.put, Z4]; exact h0.size, fun u s hu => ?_, h0.bx, h0.gn, h0.defers⟩; simp only [St.put, Vbx] at hu; rw [Zm] at hu
 split at hu
 ·rename_i hd; subst hd
  split at hu
  ·rename_i hlt; simp only [Za] at hu; subst hu; refine hr.fr t _ ?_
   have : t < S1.fr.length := by rw [<- hl]; exact hlt
   simp [List.getD, this]
  ·simp at hu
 ·exact h0.fr u s hu
theorem Vpa {S1 S2 : St} : ∀ (ts : List Nat) (S0 S3 : St), S0.fr.length = S1.fr.length -> Weak S1 S0 -> putM true S1 S2 ts S0 = some S3 -> Weak S1 S3
 | [], S0, S3, _, h, e => by simp only [putM, Za] at e; subst e; exact h
 | t :: ts, S0, S3, hl, h, e => by
  simp only [putM] at e
  split at e
  ·rename_i v hv
   have := mrg_true hv; subst this; exact Vpa ts _ _ (by simp only [St.put, Z4]; exact hl) (Vop h hl t) e
  ·simp at e
theorem Vm6 {S1 S2 : St} : ∀ (ts : List Nat) (S0 S3 : St), S0.fr.length = S2.fr.length -> Weak S2 S0 -> putM false S1 S2 ts S0 = some S3 -> Weak S2 S3
 | [], S0, S3, _, h, e => by simp only [putM, Za] at e; subst e; exact h
 | t :: ts, S0, S3, hl, h, e => by
  simp only [putM] at e
  split at e
  ·rename_i v hv
   have := Vpk hv; subst this; exact Vm6 ts _ _ (by simp only [St.put, Z4]; exact hl) (Vop h hl t) e
  ·simp at e
theorem Vpb {b : Bool} {S1 S2 : St} : ∀ (ts : List Nat) (S0 S3 : St), putM b S1 S2 ts S0 = some S3 -> Like S0 S3 ts
 | [], S0, S3, e => by simp only [putM, Za] at e; subst e; exact Like.refl _ _
 | t :: ts, S0, S3, e => by
  simp only [putM] at e
  split at e
  ·rename_i v hv; exact (Like.put S0 (some t) v).trans (Vpb ts _ _ e) (by simp) (by intro u hu; simp [hu])
  ·simp at e
theorem go_like : ∀ (c : Code) (ors ors' : List Oq) (S S' : St) (e : Exit) (cs : List Prop), Veu c = true -> go P true c ors S = some (cs, ors', .fin e S') -> Like S S' (Vew c) := by
 intro c
 induction c with
 | skip => intro ors ors' S S' e cs hs h; simp only [go, Za, Zb, Out.fin.injEq] at h; rw [<- h.2.2.2]; exact Like.refl _ _
 | label l => intro ors ors' S S' e cs hs h; simp only [go, Za, Zb, Out.fin.injEq] at h; rw [<- h.2.2.2]; exact Like.refl _ _
 | exit id => intro ors ors' S S' e cs hs h; simp only [go, Za, Zb, Out.fin.injEq] at h; rw [<- h.2.2.2]; exact Like.refl _ _
 | region i ops d =>
  intro ors ors' S S' e cs hs h; cases d with
  | true => simp [Veu] at hs
  | false =>
   simp only [go] at h
   split at h
   ·simp at h
   ·split at h
    ·rename_i c1 o1 S1 h1; simp only [Za, Zb, Out.fin.injEq] at h; rw [<- h.2.2.2]; exact Vdq _ _ _ _ _ _ _ _ hs h1
    ·simp at h
 | seq x y ihx ihy =>
  intro ors ors' S S' e cs hs h; simp only [Veu, Ze] at hs; simp only [go] at h
  split at h
  ·rename_i c1 o1 S1 h1
   split at h
   ·rename_i c2 r h2; simp only [Za, Zb] at h; obtain ⟨_, rfl⟩ := h; exact (ihx _ _ _ _ _ _ hs.1 h1).trans (ihy _ _ _ _ _ _ hs.2 h2) (by intro t ht; simp [Vew, ht]) (by intro t ht; simp [Vew, ht])
   ·simp at h
  ·simp at h
  ·rename_i r _ _; exact (ihx _ _ _ _ _ _ hs.1 h).trans (Like.refl _ []) (by intro t ht; simp [Vew, ht]) (by simp)
 | cond c x y ihx ihy =>
  intro ors ors' S S' e cs hs h; simp only [Veu, Ze] at hs; simp only [go] at h
  split at h
  ·split at h
   ·rename_i d ors2
    split at h
    ·rename_i c2 r h2; simp only [Za, Zb] at h; obtain ⟨_, rfl⟩ := h; cases d with
     | true => exact (ihx _ _ _ _ _ _ hs.1 h2).trans (Like.refl _ []) (by intro t ht; simp [Vew, ht]) (by simp)
     | false => exact (ihy _ _ _ _ _ _ hs.2 h2).trans (Like.refl _ []) (by intro t ht; simp [Vew, ht]) (by simp)
    ·simp at h
   ·rename_i ts o1 o2 ors2
    split at h
    ·rename_i c1 S1 c2 S2 hst h1 h2; simp only [Ze] at hst
     split at h
     ·rename_i S3 h3; simp only [Za, Zb, Out.fin.injEq] at h; rw [<- h.2.2.2]; refine (Like.junk S _ S).trans (Vpb _ _ _ h3) (fun t ht => ht) (fun t ht => ?_)
      have := hst.2; simp only [subL, Zk] at this
      have := this t ht; simpa [Vew] using this
     ·simp at h
    ·simp at h
   ·simp at h
   ·simp at h
  ·simp at h
 | block id c ih =>
  intro ors ors' S S' e cs hs h; simp only [go] at h
  split at h
  ·rename_i c1 o1 id' S1 h1
   split at h
   ·simp only [Za, Zb, Out.fin.injEq] at h; rw [<- h.2.2.2]; exact ih _ _ _ _ _ _ hs h1
   ·simp only [Za, Zb, Out.fin.injEq] at h; rw [<- h.2.2.2]; exact ih _ _ _ _ _ _ hs h1
  ·simp at h
  ·exact ih _ _ _ _ _ _ hs h
 | _ => intro ors ors' S S' e cs hs h; simp [Veu] at hs
theorem go_sound : ∀ (c : Code) (md : Bool) (ors ors' : List Oq) (S : St) (out : Out) (cs : List Prop), go P md c ors S = some (cs, ors', out) -> All cs -> ∀ Q : Exit -> St -> Prop, Okay P Q out -> W P c Q S := by
 intro c
 induction c with
 | skip => intro md ors ors' S out cs h hc Q hq; simp only [go, Za, Zb] at h; rw [<- h.2.2] at hq; exact W_skip hq
 | label l => intro md ors ors' S out cs h hc Q hq; simp only [go, Za, Zb] at h; rw [<- h.2.2] at hq; exact W_label hq
 | exit id => intro md ors ors' S out cs h hc Q hq; simp only [go, Za, Zb] at h; rw [<- h.2.2] at hq; exact W_exit hq
 | ret => intro md ors ors' S out cs h hc Q hq; simp only [go, Za, Zb] at h; rw [<- h.2.2] at hq; exact W_ret hq
 | region i ops d =>
  intro md ors ors' S out cs h hc Q hq; cases d with
  | true => simp only [go, Za, Zb] at h; rw [<- h.2.2] at hq; exact hq
  | false =>
   simp only [go] at h
   split at h
   ·simp only [Za, Zb] at h; rw [<- h.2.2] at hq; exact hq
   ·split at h
    ·rename_i c1 o1 S1 h1; simp only [Za, Zb] at h; obtain ⟨rfl, _, rfl⟩ := h; exact Vak (WO_mono (Vbn _ _ _ _ _ _ _ _ _ h1 hc) (fun S2 e => by subst e; exact hq))
    ·simp at h
 | seq x y ihx ihy =>
  intro md ors ors' S out cs h hc Q hq; simp only [go] at h
  split at h
  ·rename_i c1 o1 S1 h1
   split at h
   ·rename_i c2 r h2; simp only [Za, Zb] at h; obtain ⟨rfl, rfl⟩ := h; obtain ⟨hc1, hc2⟩ := Vau hc; exact Vqy (ihx _ _ _ _ _ _ h1 hc1 _ (show Vor (W P y Q) Q .normal S1 from ihy _ _ _ _ _ _ h2 hc2 _ hq))
   ·simp at h
  ·rename_i c1 o1 c' ks S1 h1; simp only [Za, Zb] at h; obtain ⟨rfl, rfl, rfl⟩ := h; refine Vqy (ihx _ _ _ _ _ _ h1 hc _ ?_); simp only [Okay, Vba] at hq ⊢; exact hq
  ·rename_i hne1 hne2; refine Vqy (ihx _ _ _ _ _ _ h hc _ ?_); cases out with
   | fin e S1 => exact skipS hq (by rintro rfl; exact hne1 _ _ _ h)
   | «at» c' ks S1 => exact (hne2 _ _ _ _ _ h).elim
 | cond c x y ihx ihy =>
  intro md ors ors' S out cs h hc Q hq; simp only [go] at h
  split at h
  ·rename_i b hb
   split at h
   ·rename_i d ors2
    split at h
    ·rename_i c2 r h2; simp only [Za, Zb] at h; obtain ⟨rfl, rfl⟩ := h; obtain ⟨rfl, hc2⟩ := hc; refine W_cond hb ?_; cases b with
     | true => exact ihx _ _ _ _ _ _ h2 hc2 _ hq
     | false => exact ihy _ _ _ _ _ _ h2 hc2 _ hq
    ·simp at h
   ·rename_i ts o1 o2 ors2
    split at h
    ·rename_i c1 S1 c2 S2 hst h1 h2; simp only [Ze] at hst
     split at h
     ·rename_i S3 h3; simp only [Za, Zb] at h; obtain ⟨rfl, _, rfl⟩ := h; obtain ⟨hq1, hq2, _⟩ := hc; refine W_cond hb ?_
      have l1 := go_like _ _ _ _ _ _ _ hst.1.1 h1
      have l2 := go_like _ _ _ _ _ _ _ hst.1.2 h2
      have lj := Like.junk S (Vew x ++ Vew y) S; cases b with
      | true =>
       refine W_end (ihx _ _ _ _ _ _ h1 (hq1 rfl) _ ⟨S3, Vpa _ _ _ (by rw [lj.len, l1.len]) ?_ h3, hq⟩); exact Vgk (l1.trans (Like.refl _ []) (by intro t ht; simp [ht]) (by simp)) none (by simp)
      | false =>
       refine W_end (ihy _ _ _ _ _ _ h2 (hq2 rfl) _ ⟨S3, Vm6 _ _ _ (by rw [lj.len, l2.len]) ?_ h3, hq⟩); exact Vgk (l2.trans (Like.refl _ []) (by intro t ht; simp [ht]) (by simp)) none (by simp)
     ·simp at h
    ·simp at h
   ·simp only [Za, Zb] at h; rw [<- h.2.2] at hq; exact hq
   ·simp at h
  ·simp at h
 | block id c ih =>
  intro md ors ors' S out cs h hc Q hq; simp only [go] at h
  split at h
  ·rename_i c1 o1 id' S1 h1
   split at h
   ·rename_i hid; simp only [Za, Zb] at h; obtain ⟨rfl, _, rfl⟩ := h
    have := of_decide_eq_true hid; subst this; exact Voj (ih _ _ _ _ _ _ h1 hc _ (hit hq))
   ·rename_i hid; simp only [Za, Zb] at h; obtain ⟨rfl, _, rfl⟩ := h; exact Voj (ih _ _ _ _ _ _ h1 hc _ (miss (of_decide_eq_false hid) hq))
  ·rename_i c1 o1 c' ks S1 h1; simp only [Za, Zb] at h; obtain ⟨rfl, rfl, rfl⟩ := h; refine Voj (ih _ _ _ _ _ _ h1 hc _ ?_); simp only [Okay, Vba] at hq ⊢; exact hq
  ·rename_i hne1 hne2; refine Voj (ih _ _ _ _ _ _ h hc _ ?_); cases out with
   | fin e S1 => exact pass hq (by rintro i rfl; exact hne1 _ _ _ _ h)
   | «at» c' ks S1 => exact (hne2 _ _ _ _ _ h).elim
 | loop c ih =>
  intro md ors ors' S out cs h hc Q hq; simp only [go, Za, Zb] at h; rw [<- h.2.2] at hq; exact hq
 | scope c ih =>
  intro md ors ors' S out cs h hc Q hq; simp only [go] at h
  split at h
  ·simp at h
  ·rename_i c1 o1 c' ks S1 h1; simp only [Za, Zb] at h; obtain ⟨rfl, rfl, rfl⟩ := h; refine W_scope (ih _ _ _ _ _ _ h1 hc _ ?_); simp only [Okay, Vba] at hq ⊢; exact hq
  ·rename_i hne1 hne2; refine W_scope (ih _ _ _ _ _ _ h hc _ ?_); cases out with
   | fin e S1 => exact scopeS_of hq (by rintro l rfl; exact hne1 _ _ _ _ h)
   | «at» c' ks S1 => exact (hne2 _ _ _ _ _ h).elim
 | _ => intro md ors ors' S out cs h hc Q hq; simp [go] at h
theorem Vai (Q : Exit -> St -> Prop) : ∀ (ks : List Fm) (c0 : List Prop) (o0 : List Oq) (out0 : Out) (cs : List Prop) (ors' : List Oq) (out : Out), goK P ks (some (c0, o0, out0)) = some (cs, ors', out) -> All cs -> Okay P Q out -> All c0 /\ Okay P (Kont P Q ks) out0
 | [], c0, o0, out0, cs, ors', out, h, hc, hq => by
  simp only [goK, Za, Zb] at h; obtain ⟨rfl, _, rfl⟩ := h; exact ⟨hc, hq⟩
 | .sq d :: ks, c0, o0, .fin .normal S, cs, ors', out, h, hc, hq => by
  simp only [goK] at h
  split at h
  ·rename_i c2 ors2 out2 h2; obtain ⟨q1, q2⟩ := Vai Q ks _ _ _ _ _ _ h hc hq; obtain ⟨hc1, hc2⟩ := Vau q1; exact ⟨hc1, go_sound _ _ _ _ _ _ _ h2 hc2 _ q2⟩
  ·simp at h
 | .sq d :: ks, c0, o0, .fin (.exit i) S, cs, ors', out, h, hc, hq => Vai Q ks c0 o0 (.fin (.exit i) S) _ _ _ h hc hq
 | .sq d :: ks, c0, o0, .fin (.goto i) S, cs, ors', out, h, hc, hq => Vai Q ks c0 o0 (.fin (.goto i) S) _ _ _ h hc hq
 | .sq d :: ks, c0, o0, .fin .ret S, cs, ors', out, h, hc, hq => Vai Q ks c0 o0 (.fin .ret S) _ _ _ h hc hq
 | .sq d :: ks, c0, o0, .fin (.panic i) S, cs, ors', out, h, hc, hq => Vai Q ks c0 o0 (.fin (.panic i) S) _ _ _ h hc hq
 | .sq d :: ks, c0, o0, .fin .outgrown S, cs, ors', out, h, hc, hq => Vai Q ks c0 o0 (.fin .outgrown S) _ _ _ h hc hq
 | .bk id :: ks, c0, o0, .fin (.exit id') S, cs, ors', out, h, hc, hq => by
  simp only [goK] at h
  split at h
  ·rename_i hid
   have := of_decide_eq_true hid; subst this; obtain ⟨q1, q2⟩ := Vai Q ks _ _ _ _ _ _ h hc hq; exact ⟨q1, hit q2⟩
  ·rename_i hid; obtain ⟨q1, q2⟩ := Vai Q ks _ _ _ _ _ _ h hc hq; exact ⟨q1, miss (of_decide_eq_false hid) q2⟩
 | .sc :: ks, c0, o0, .fin (.goto i) S, cs, ors', out, h, hc, hq => by simp [goK] at h
 | .sc :: ks, c0, o0, .fin .normal S, cs, ors', out, h, hc, hq => Vai Q ks c0 o0 (.fin .normal S) _ _ _ h hc hq
 | .sc :: ks, c0, o0, .fin (.exit i) S, cs, ors', out, h, hc, hq => Vai Q ks c0 o0 (.fin (.exit i) S) _ _ _ h hc hq
 | .sc :: ks, c0, o0, .fin .ret S, cs, ors', out, h, hc, hq => Vai Q ks c0 o0 (.fin .ret S) _ _ _ h hc hq
 | .sc :: ks, c0, o0, .fin (.panic i) S, cs, ors', out, h, hc, hq => Vai Q ks c0 o0 (.fin (.panic i) S) _ _ _ h hc hq
 | .sc :: ks, c0, o0, .fin .outgrown S, cs, ors', out, h, hc, hq => Vai Q ks c0 o0 (.fin .outgrown S) _ _ _ h hc hq
 | .bk id :: ks, c0, o0, .fin .normal S, cs, ors', out, h, hc, hq => Vai Q ks c0 o0 (.fin .normal S) _ _ _ h hc hq
 | .bk id :: ks, c0, o0, .fin (.goto i) S, cs, ors', out, h, hc, hq => Vai Q ks c0 o0 (.fin (.goto i) S) _ _ _ h hc hq
 | .bk id :: ks, c0, o0, .fin .ret S, cs, ors', out, h, hc, hq => Vai Q ks c0 o0 (.fin .ret S) _ _ _ h hc hq
 | .bk id :: ks, c0, o0, .fin (.panic i) S, cs, ors', out, h, hc, hq => Vai Q ks c0 o0 (.fin (.panic i) S) _ _ _ h hc hq
 | .bk id :: ks, c0, o0, .fin .outgrown S, cs, ors', out, h, hc, hq => Vai Q ks c0 o0 (.fin .outgrown S) _ _ _ h hc hq
 | .sq d :: ks, c0, o0, .at c k2 S, cs, ors', out, h, hc, hq => by
  simp only [goK, Za, Zb] at h; obtain ⟨rfl, _, rfl⟩ := h; simp only [Okay, Vba] at hq ⊢; exact ⟨hc, hq⟩
 | .sc :: ks, c0, o0, .at c k2 S, cs, ors', out, h, hc, hq => by
  simp only [goK, Za, Zb] at h; obtain ⟨rfl, _, rfl⟩ := h; simp only [Okay, Vba] at hq ⊢; exact ⟨hc, hq⟩
 | .bk id :: ks, c0, o0, .at c k2 S, cs, ors', out, h, hc, hq => by
  simp only [goK, Za, Zb] at h; obtain ⟨rfl, _, rfl⟩ := h; simp only [Okay, Vba] at hq ⊢; exact ⟨hc, hq⟩
def Nxt {α : Type} (P : Program) (K : α -> Exit -> St -> Prop) (M : α) (X : Cf) : Prop := match X with
 | some (_, _, out) => Okay P (K M) out
 | none => False
structure Nx {α : Type} (P : Program) (K : α -> Exit -> St -> Prop) (M : α) (X : Cf) : Prop where
 x : Nxt P K M X
structure OCx (H : Prop) where
 o : List Oq
 c : List Prop
 h : H -> All c
abbrev OC := OCx True
def csOf (X : Cf) : Option (List Prop) := match X with
 | some (cs, [], _) => some cs
 | _ => none
theorem adv_sound {X : Cf} {ors : List Oq} {cs : List Prop} (h : csOf (adv P X ors) = some cs) (hc : All cs) {Q : Exit -> St -> Prop} {out : Out} (ho : ∀ o, adv P X ors = some o -> Okay P Q o.2.2) : ∃ c0 o0 out0, X = some (c0, o0, out0) /\ Okay P Q out0 := by
 unfold adv at h ho
 split at h
 ·rename_i c0 o0 c ks S; simp only at ho; refine ⟨_, _, _, rfl, ?_⟩; cases hg : go P false c ors S with
  | none => rw [hg] at h; unfold goK at h; simp [csOf] at h
  | some r =>
   obtain ⟨c1, o1, out1⟩ := r; rw [hg] at h ho; cases hk : goK P ks (some (c1, o1, out1)) with
   | none => rw [hk] at h; simp [csOf] at h
   | some r2 =>
    obtain ⟨c2, o2, out2⟩ := r2; rw [hk] at h
    have hq := ho _ hk; unfold csOf at h
    split at h
    ·rename_i e; simp only [Za, Zb] at e h; obtain ⟨rfl, rfl, rfl⟩ := e; subst h; obtain ⟨q1, q2⟩ := Vai Q ks _ _ _ _ _ _ hk hc hq; exact go_sound _ _ _ _ _ _ _ hg q1 _ q2
    ·simp at h
 ·simp [csOf] at h
theorem GO {α : Type} {K : α -> Exit -> St -> Prop} {M : α} {X : Cf} (oc : OC) (h : csOf (adv P X oc.o) = some oc.c) (hn : Nx P K M (adv P X oc.o)) : Nx P K M X := by
 obtain ⟨c0, o0, out0, rfl, hq⟩ := adv_sound (Q := K M) (out := .fin .normal ⟨[], [], []⟩) h (oc.h trivial) (fun o ho => by have := hn.x; rw [ho] at this; exact this); exact ⟨hq⟩
def Vhd (c : Code) (S : St) : Cf := some ([], [], .at c [] S)
def Vbk (fn : Func) : Code := fn.body.getD .skip
def KE {α : Type} (P : Program) (fn : Func) (enc : α -> SV) (bx' : List (Nat × ABox)) (gn' : List (Key × Nat)) (M : α) : Exit -> St -> Prop := Ends P fn (enc M) bx' gn'
def isAv : SV -> Bool
 | .av _ => true
 | _ => false
def okFn (fn : Func) (args : List SV) (res : SV) : Bool := fn.body.isSome && !(fn.name == "runtime.NumGoroutine") && decide (args.length <= fn.ntmps) && args.all isAv && isAv res
theorem ok_av {s : SV} (h : isAv s = true) (ids : List Nat) (gn : List (Key × Nat)) : OkSV ids gn s := by
 cases s <;> simp_all [isAv, OkSV, SV.keys]
theorem BEG {α : Type} (enc : α -> SV) (M : α) {f : FuncId} {fn : Func} {args : List SV} (hf : P.funcs[f]? = some fn) (hok : okFn fn args (enc M) = true)
  (h : Nx P (KE P fn enc [] []) M (Vhd (Vbk fn) ⟨args ++ List.replicate (fn.ntmps - args.length) .junk, [], []⟩)) : CallTo P f args [] [] (enc M) [] [] := by
 simp only [okFn, Ze, decide_eq_true_eq, Zv] at hok; obtain ⟨⟨⟨⟨h1, h2⟩, h3⟩, h4⟩, h5⟩ := hok; obtain ⟨c, hb⟩ := Zi.1 h1
 have e : Vbk fn = c := by simp [Vbk, hb]
 refine Vc9 hf hb h2 rfl h3 (by simp) (by simp) ?_ (by simp) (ok_av h5 _ _) (by simp) rfl rfl ?_
 ·intro s hs; rw [Zk] at h4; exact ok_av (h4 s hs) _ _
 ·rw [<- e]; exact h.x
theorem UF {α : Type} {K : α -> Exit -> St -> Prop} {M M' : α} {X : Cf} (e : M = M') (h : Nx P K M' X) : Nx P K M X := by rw [e]; exact h
theorem CS {α : Type} {K : α -> Exit -> St -> Prop} {b : Bool} {t u : α} {X : Cf} (h1 : b = true -> Nx P K t X) (h2 : b = false -> Nx P K u X) : Nx P K (cond b t u) X := by
 cases b
 ·exact h2 rfl
 ·exact h1 rfl
theorem CSd {α : Type} {K : α -> Exit -> St -> Prop} {p : Prop} [Decidable p] {t u : α} {X : Cf} (h1 : p -> decide p = true -> Nx P K t X) (h2 : ¬ p -> decide p = false -> Nx P K u X) : Nx P K (cond (decide p) t u) X :=
 CS (fun h => h1 (of_decide_eq_true h) h) (fun h => h2 (of_decide_eq_false h) h)
theorem CSe {α : Type} {K : α -> Exit -> St -> Prop} {x y : Int} {t u : α} {X : Cf} (h1 : x = y -> (x == y) = true -> Nx P K t X) (h2 : x ≠ y -> (x == y) = false -> Nx P K u X) : Nx P K (cond (x == y) t u) X :=
 CS (fun h => h1 (eq_of_beq h) h) (fun h => h2 (ne_of_beq_false h) h)
theorem CSn {α : Type} {K : α -> Exit -> St -> Prop} {x y : Int} {t u : α} {X : Cf} (h1 : x ≠ y -> (x != y) = true -> Nx P K t X) (h2 : x = y -> (x != y) = false -> Nx P K u X) : Nx P K (cond (x != y) t u) X :=
 CS (fun h => h1 (bne_iff_ne.1 h) h) (fun h => h2 (Va7 h) h)
def Vlr (P : Program) (fn : Func) (X : Cf) : Option SV := match X with
 | some (_, _, .fin .ret S) => aRes P fn S false
 | some (_, _, .fin .normal S) => aRes P fn S false
 | _ => none
theorem EN {α : Type} {fn : Func} {enc : α -> SV} {M : α} {X : Cf} (h : Vlr P fn X = some (enc M)) : Nx P (KE P fn enc [] []) M X := by
 unfold Vlr at h
 split at h
 ·exact ⟨ends (.inl rfl) h rfl (by simp) (by simp)⟩
 ·exact ⟨ends (.inr rfl) h rfl (by simp) (by simp)⟩
 ·simp at h
def KL {α : Type} (P : Program) (I : Nat -> α -> St -> Prop) (n : Nat) (ks : List Fm) (K : α -> Exit -> St -> Prop) (M : α) : Exit -> St -> Prop :=
 Vor (fun S' => ∃ m S'', m < n /\ Weak S' S'' /\ I m M S'') (Kont P (K M) ks)
def stOf (X : Cf) : St := match X with
 | some (_, _, .fin _ S) => S
 | some (_, _, .at _ _ S) => S
 | none => ⟨[], [], []⟩
def lpC (X : Cf) : Code := match X with
 | some (_, _, .at (.loop c) _ _) => c
 | _ => .skip
def lpK (X : Cf) : List Fm := match X with
 | some (_, _, .at _ ks _) => ks
 | _ => []
def isLp (X : Cf) : Bool := match X with
 | some (_, _, .at (.loop _) _ _) => true
 | _ => false
theorem LP {α : Type} {K : α -> Exit -> St -> Prop} {M : α} {X : Cf} (I : Nat -> α -> St -> Prop) (hX : isLp X = true) {n : Nat} {S0 : St} (h0 : I n M S0) (hw : Weak (stOf X) S0)
  (round : ∀ n M S, I n M S -> Nx P (KL P I n (lpK X) K) M (Vhd (lpC X) S)) : Nx P K M X := by
 unfold isLp at hX
 split at hX
 ·rename_i c0 o0 c ks S; exact ⟨W_loop (I := fun n S => I n M S) hw h0 (fun n S' hI => (round n M S' hI).x)⟩
 ·simp at hX
def finOf (X : Cf) : Option Exit := match X with
 | some (_, _, .fin e _) => some e
 | _ => none
theorem AG {α : Type} {K : α -> Exit -> St -> Prop} {M : α} {X : Cf} {I : Nat -> α -> St -> Prop} {n m : Nat} {ks : List Fm} {S'' : St} (hi : I m M S'') (hw : Weak (stOf X) S'') (hX : finOf X = some .normal) (hm : m < n) : Nx P (KL P I n ks K) M X := by
 unfold finOf at hX
 split at hX
 ·simp only [Za] at hX; subst hX; exact ⟨⟨m, S'', hm, hw, hi⟩⟩
 ·simp at hX
def outX (P : Program) (ks : List Fm) (X : Cf) (ors : List Oq) : Cf := match X with
 | some (_, _, .fin .normal _) => none
 | some (_, _, .fin e S) => goK P ks (some ([], ors, .fin e S))
 | _ => none
theorem OUT {α : Type} {K : α -> Exit -> St -> Prop} {M : α} {X : Cf} {I : Nat -> α -> St -> Prop} {n : Nat} {ks : List Fm} (oc : OC) (h : csOf (outX P ks X oc.o) = some oc.c) (hn : Nx P K M (outX P ks X oc.o)) : Nx P (KL P I n ks K) M X := by
 obtain ⟨hn⟩ := hn; unfold outX at h hn
 split at h
 ·simp [csOf] at h
 ·rename_i c0 o0 e S hne; simp only at hn; cases hk : goK P ks (some ([], oc.o, .fin e S)) with
  | none => rw [hk] at h; simp [csOf] at h
  | some r =>
   obtain ⟨c2, o2, out2⟩ := r; rw [hk] at h hn; unfold csOf at h
   split at h
   ·rename_i e2; simp only [Za, Zb] at e2 h; obtain ⟨rfl, rfl, rfl⟩ := e2; subst h; obtain ⟨q1, q2⟩ := Vai (K M) ks _ _ _ _ _ _ hk (oc.h trivial) hn; exact ⟨skipS q2 (by rintro rfl; first | exact hne rfl | exact hne _ rfl | exact hne _ _ rfl)⟩
   ·simp at h
 ·simp [csOf] at h
def kk (a b : List (Key × Nat)) : List Key := a.map (·.1) ++ b.map (·.1)
def gv (a : List (Key × Nat)) (l : List Key) : List Nat := l.map (fun k => (a.lookup k).getD 0)
abbrev SeenN := Nat × List (Option SV) × List (Option ABox) × List Nat
def seesN (S : St) (ks bs : List Nat) (gn : List (Key × Nat)) : SeenN := (S.fr.length, ks.map (fun k => S.fr[k]?), bs.map (fun b => S.bx.lookup b), gv S.gn (kk S.gn gn))
theorem gv_gen {a b : List (Key × Nat)} (h : gv a (kk a b) = gv b (kk a b)) (k : Key) : (a.lookup k).getD 0 = (b.lookup k).getD 0 := by
 by_cases hk : k ∈ kk a b
 ·have : ∀ (l : List Key), gv a l = gv b l -> k ∈ l -> (a.lookup k).getD 0 = (b.lookup k).getD 0 := by
   intro l
   induction l with
   | nil => intro _ hm; simp at hm
   | cons q l ih =>
    intro he hm; simp only [gv, Zj, Zq] at he; simp only [Zo] at hm; rcases hm with rfl | hm
    ·exact he.1
    ·exact ih he.2 hm
  exact this _ h hk
 ·have n1 : a.lookup k = none := by
   rw [Z2]; intro p hp; simp; intro e; exact hk (by rw [e]; exact Zt.2 (.inl (Z5 hp)))
  have n2 : b.lookup k = none := by
   rw [Z2]; intro p hp; simp; intro e; exact hk (by rw [e]; exact Zt.2 (.inr (Z5 hp)))
  rw [n1, n2]
theorem WK {S : St} {n : Nat} {l : List (Nat × SV)} {bx : List (Nat × ABox)} {gn : List (Key × Nat)} (h : seesN S (Vkc l) (bkeys bx) gn = (n, Vjf l, bvals bx, gv gn (kk S.gn gn))) : Weak S (sx n l bx gn) := by
 simp only [seesN, Zb] at h; obtain ⟨h1, h2, h3, h4⟩ := h
 have hw := Vh9 (S := S) (n := n) (l := l) (bx := bx) (gn := S.gn) (by simp only [seesB, h1, h2, h3]); intro G w a hr
 have hr2 := hw G w a hr; exact ⟨hr2.wf, hr2.size, hr2.fr, hr2.bx, fun k => by rw [hr2.gn k]; exact gv_gen h4 k, hr2.defers⟩
def putL (S : St) : List (Nat × SV) -> St
 | [] => S
 | (t, v) :: l => putL (S.put (some t) v) l
def fixP (S : St) : List (Nat × SV) -> List Prop
 | [] => []
 | (t, v) :: l => WkS S (Vbx S (some t)) v :: fixP (S.put (some t) v) l
theorem Vpc : ∀ (l : List (Nat × SV)) (S : St), All (fixP S l) -> Weak S (putL S l)
 | [], S, _ => fun _ _ _ h => h
 | (t, v) :: l, S, h => by
  intro G w a hr; refine Vpc l (S.put (some t) v) h.2 G w a ?_; refine ⟨hr.wf, by simp only [St.put, Z4]; exact hr.size, fun u s hu => ?_, hr.bx, hr.gn, hr.defers⟩; simp only [St.put] at hu; rw [Zm] at hu
  split at hu
  ·rename_i hd; subst hd
   split at hu
   ·rename_i hlt; simp only [Za] at hu; subst hu; refine WkS_rep hr.gn h.1 (hr.fr t _ ?_); simp [Vbx, List.getD, hlt]
   ·simp at hu
  ·exact hr.fr u s hu
theorem WKf {S : St} {n : Nat} {l : List (Nat × SV)} {bx : List (Nat × ABox)} {gn : List (Key × Nat)} (fx : List (Nat × SV)) {cs : List Prop} (hc : All cs) (h : (fixP S fx, seesN (putL S fx) (Vkc l) (bkeys bx) gn) = (cs, n, Vjf l, bvals bx, gv gn (kk (putL S fx).gn gn))) : Weak S (sx n l bx gn) := by
 simp only [Zb] at h; obtain ⟨rfl, h⟩ := h; intro G w a hr; exact WK (n := n) (l := l) (bx := bx) (gn := gn) (by simp only [h]) G w a (Vpc fx S hc G w a hr)
def Vml (S : St) (b k : Nat) : SV := match S.bx.lookup b with
 | some (.cells _ l) => l.getD k .junk
 | _ => .junk
def Vf3 (S : St) (b k : Nat) (v : SV) : St := match S.bx.lookup b with
 | some (.cells t l) => S.setBox b (.cells t (l.set k v))
 | _ => S
theorem Vpd {S : St} {b k : Nat} {v : SV} (h : WkS S (Vml S b k) v) : Weak S (Vf3 S b k v) := by
 intro G w a hr; unfold Vf3
 split
 ·rename_i t l hl; simp only [Vml, hl] at h; refine ⟨hr.wf, hr.size, hr.fr, fun p hp => ?_, hr.gn, hr.defers⟩; simp only [St.setBox, Zy] at hp; obtain ⟨q, hq, rfl⟩ := hp
  split
  ·rename_i hqb
   have hb := hr.bx _ (Va9 hl); simp only at hb ⊢; rw [hqb]; obtain ⟨blk, arr, g1, g2, g3, g4, g5⟩ := hb; refine ⟨blk, arr, g1, g2, g3, ?_, g5⟩
   have key : ∀ (l : List SV) (k : Nat) (us : List Value), WkS S (l.getD k .junk) v -> RepSs G w l us -> RepSs G w (l.set k v) us := by
    intro l
    induction l with
    | nil => intro k us _ hu; exact hu
    | cons s l ih =>
     intro k us hw hu; obtain ⟨u, us', e, h2, h3⟩ := hu; cases k with
     | zero => exact ⟨u, us', e, WkS_rep hr.gn hw h2, h3⟩
     | succ k => exact ⟨u, us', e, h2, ih k us' hw h3⟩
   exact key l k _ h g4
  ·exact hr.bx q hq
 ·exact hr
def Vnl (S : St) : List (Nat × Nat × SV) -> St
 | [] => S
 | (b, k, v) :: l => Vnl (Vf3 S b k v) l
def cellP (S : St) : List (Nat × Nat × SV) -> List Prop
 | [] => []
 | (b, k, v) :: l => WkS S (Vml S b k) v :: cellP (Vf3 S b k v) l
theorem Vgu : ∀ (l : List (Nat × Nat × SV)) (S : St), All (cellP S l) -> Weak S (Vnl S l)
 | [], S, _ => fun _ _ _ h => h
 | (b, k, v) :: l, S, h => fun G w a hr => Vgu l _ h.2 G w a (Vpd h.1 G w a hr)
def retell (X : Cf) (l : List (Nat × Nat × SV)) : Cf := match X with
 | some (c, o, .at d ks S) => some (c, o, .at d ks (Vnl S l))
 | _ => none
theorem RT {α : Type} {K : α -> Exit -> St -> Prop} {M : α} {X : Cf} (l : List (Nat × Nat × SV)) {cs : List Prop} (hc : All cs) (h : cellP (stOf X) l = cs) (hn : Nx P K M (retell X l)) : Nx P K M X := by
 obtain ⟨hn⟩ := hn; subst h; unfold retell at hn
 split at hn
 ·rename_i c o d ks S; exact ⟨Vb6 (Vgu l S hc) hn⟩
 ·exact hn.elim
section
variable {H : Prop}
def z : OCx H := ⟨[], [], fun _ => trivial⟩
def tn (n : Nat) (r : OCx H) : OCx H := ⟨r.o, Vnn n True r.c, fun h => akn n (r.h h)⟩
def kp {p : Prop} (h : p) (r : OCx H) : OCx H := ⟨r.o, p :: r.c, fun q => ⟨h, r.h q⟩⟩
def kb {b d : Bool} (h : b = d) (r : OCx H) : OCx H := ⟨.o (.b d) :: r.o, (b = d) :: r.c, fun q => ⟨h, r.h q⟩⟩
def ke {l : List AV} {i : Int} {y : AV} (h : 0 <= i /\ l[i.toNat]? = some y) (r : OCx H) : OCx H := ⟨.o (.e y) :: r.o, (0 <= i /\ l[i.toNat]? = some y) :: r.c, fun q => ⟨h, r.h q⟩⟩
def kn {k : IntKind} {x m : Int} (h : k.wrap x = m) (r : OCx H) : OCx H := ⟨.o (.n m) :: r.o, (k.wrap x = m) :: r.c, fun q => ⟨h, r.h q⟩⟩
def kc {f : FuncId} {args : List SV} {res : SV} (h : CallTo P f args [] [] res [] []) (r : OCx H) : OCx H := ⟨.o (.c res [] [] []) :: r.o, CallTo P f args [] [] res [] [] :: True :: r.c, fun q => ⟨h, trivial, r.h q⟩⟩
def kg {f : FuncId} {args : List SV} {res : SV} {bx bx' : List (Nat × ABox)} {gn gn' : List (Key × Nat)} {p : Prop} (h : CallTo P f args bx gn res bx' gn') (hg : p) (r : OCx H) : OCx H := ⟨.o (.c res bx' gn gn') :: r.o, CallTo P f args bx gn res bx' gn' :: p :: r.c, fun q => ⟨h, hg, r.h q⟩⟩
def kq (i : Nat) (r : OCx H) : OCx H := ⟨.p i :: r.o, r.c, r.h⟩
def kw {l0 l : List AV} (h : l0 = l) (r : OCx H) : OCx H := ⟨.w l :: r.o, (l0 = l) :: r.c, fun q => ⟨h, r.h q⟩⟩
def kl {v y : AV} (h : v = y) (r : OCx H) : OCx H := ⟨.o (.e y) :: r.o, True :: (v = y) :: r.c, fun q => ⟨trivial, h, r.h q⟩⟩
def kj (b : Bool) (x : OCx (H /\ b = true)) (y : OCx (H /\ b = false)) (r : OCx H) : OCx H := ⟨.j x.o y.o :: r.o, (b = true -> All x.c) :: (b = false -> All y.c) :: r.c, fun q => ⟨fun h => x.h ⟨q, h⟩, fun h => y.h ⟨q, h⟩, r.h q⟩⟩
def ks (b : Bool) (ts : List Nat) (x : OCx (H /\ b = true)) (y : OCx (H /\ b = false)) (r : OCx H) : OCx H := ⟨.s ts x.o y.o :: r.o, (b = true -> All x.c) :: (b = false -> All y.c) :: r.c, fun q => ⟨fun h => x.h ⟨q, h⟩, fun h => y.h ⟨q, h⟩, r.h q⟩⟩
def hp {p : Prop} (h : H -> p) (r : OCx H) : OCx H := ⟨r.o, p :: r.c, fun q => ⟨h q, r.h q⟩⟩
def he {l : List AV} {i : Int} {y : AV} (h : H -> 0 <= i /\ l[i.toNat]? = some y) (r : OCx H) : OCx H := ⟨.o (.e y) :: r.o, (0 <= i /\ l[i.toNat]? = some y) :: r.c, fun q => ⟨h q, r.h q⟩⟩
def hn {k : IntKind} {x m : Int} (h : H -> k.wrap x = m) (r : OCx H) : OCx H := ⟨.o (.n m) :: r.o, (k.wrap x = m) :: r.c, fun q => ⟨h q, r.h q⟩⟩
def hc {f : FuncId} {args : List SV} {res : SV} (h : H -> CallTo P f args [] [] res [] []) (r : OCx H) : OCx H := ⟨.o (.c res [] [] []) :: r.o, CallTo P f args [] [] res [] [] :: True :: r.c, fun q => ⟨h q, trivial, r.h q⟩⟩
def hw {l0 l : List AV} (h : H -> l0 = l) (r : OCx H) : OCx H := ⟨.w l :: r.o, (l0 = l) :: r.c, fun q => ⟨h q, r.h q⟩⟩
end
end
end Go.Eng
namespace Go.Eng
def oneV (P : Program) (o : Oper) (ors : List Oq) (S : St) : Option (List Or × List Oq × SV × BG) :=
 match runV P o [] S with
 | some (_, v, bx, gn) => some ([], ors, v, bx, gn)
 | none => match ors with
  | .o x :: ors => match runV P o [x] S with
   | some (_, v, bx, gn) => some ([x], ors, v, bx, gn)
   | none => none
  | _ => none
def Vjv : List Or -> Bool
 | [] => true
 | x :: _ => Vhl x
def mkDS (P : Program) (ds : List (Option Tmp)) : List Oper -> List Oq -> St -> Option (List DS × List Oq)
 | [], ors, _ => some ([], ors)
 | o :: rest, ors, S => match o.guard with
  | none => match oneV P o ors S with
   | some (us, ors1, v, bx, gn) => match still o.op && Vjv us with
    | true => match mkDS P ds rest ors1 (S.put o.dst v) with
     | some (l, r) => some (⟨us, none, v, none⟩ :: l, r)
     | none => none
    | false => match mkDS P ds rest ors1 ((⟨S.fr, bx, gn⟩ : St).put o.dst v) with
     | some (l, r) => some (⟨us, none, v, some (bx, gn)⟩ :: l, r)
     | none => none
   | none => none
  | some (j, want) => match Vcc ds S j with
   | some (.av (.tup [])) => match mkDS P ds rest ors (S.put o.dst Vaj) with
    | some (l, r) => some (⟨[], none, Vaj, none⟩ :: l, r)
    | none => none
   | some (.av (.val (.bool _))) => match ors with
    | .o (.b d) :: ors => match decide (d = want) with
     | true => match oneV P o ors S with
      | some (us, ors1, v, bx, gn) => match still o.op && Vjv us with
       | true => match mkDS P ds rest ors1 (S.put o.dst v) with
        | some (l, r) => some (⟨us, some d, v, none⟩ :: l, r)
        | none => none
       | false => match mkDS P ds rest ors1 ((⟨S.fr, bx, gn⟩ : St).put o.dst v) with
        | some (l, r) => some (⟨us, some d, v, some (bx, gn)⟩ :: l, r)
        | none => none
      | none => none
     | false => match mkDS P ds rest ors (S.put o.dst Vaj) with
      | some (l, r) => some (⟨[], some d, Vaj, none⟩ :: l, r)
      | none => none
    | _ => none
   | _ => none
abbrev VB := SV × BG
def Vkn (P : Program) (o : Oper) (s : DS) (f : List SV) (st : List DS) (b0 : BG) : List (Option Nat) -> Option (List Prop × List VB × List VB)
 | [] => some ([], [], [])
 | c :: l => match runV P o s.ors ⟨f, (Vcm st b0 c).1, (Vcm st b0 c).2⟩, Vkn P o s f st b0 l with
  | some (cs, v, bx, gn), some (r, x, y) => some (cs ++ r, (v, bx, gn) :: x, (s.v, s.out.getD (Vcm st b0 c)) :: y)
  | _, _ => none
section
variable {P : Program}
theorem All_app {a b : List Prop} (ha : All a) (hb : All b) : All (a ++ b) := by
 induction a with
 | nil => exact hb
 | cons p a ih => exact ⟨ha.1, ih ha.2⟩
theorem Vqc {o : Oper} {s : DS} {f : List SV} {st : List DS} {b0 : BG} : ∀ (l : List (Option Nat)) (cs : List Prop) (x y : List VB), Vkn P o s f st b0 l = some (cs, x, y) -> All cs -> x = y -> ∃ c, dRuns P o s f st b0 l = some c /\ All c
 | [], cs, x, y, h, hc, e => ⟨[], rfl, trivial⟩
 | c :: l, cs, x, y, h, hc, e => by
  simp only [Vkn] at h
  split at h
  ·rename_i cs1 v bx gn r x1 y1 h1 h2; simp only [Za, Zb] at h; obtain ⟨rfl, rfl, rfl⟩ := h; obtain ⟨hc1, hc2⟩ := Vau hc; simp only [Zq, Zb] at e; obtain ⟨⟨e1, e2⟩, e3⟩ := e; obtain ⟨c', g1, g2⟩ := Vqc l _ _ _ h2 hc2 e3; refine ⟨cs1 ++ (v = s.v /\ (bx, gn) = s.out.getD (Vcm st b0 c)) :: c', by simp only [dRuns, h1, g1], All_app hc1 ?_⟩; exact ⟨⟨e1, e2⟩, g2⟩
  ·simp at h
theorem Vmj {o : Oper} {s : DS} {f : List SV} {st : List DS} {b0 : BG} : ∀ (l : List (Option Nat)) (cs : List Prop) (x y : List VB), Vkn P o s f st b0 l = some (cs, x, y) -> x.length = y.length
 | [], cs, x, y, h => by simp only [Vkn, Za, Zb] at h; obtain ⟨_, rfl, rfl⟩ := h; rfl
 | c :: l, cs, x, y, h => by
  simp only [Vkn] at h
  split at h
  ·rename_i cs1 v bx gn r x1 y1 h1 h2; simp only [Za, Zb] at h; obtain ⟨rfl, rfl, rfl⟩ := h; simp [Vmj l _ _ _ h2]
  ·simp at h
structure DrawR where
 ops : List Oper
 st : List DS
 f0 : List SV
 b0 : BG
 ks : List Fm
 rest : List Oq
def ko {H : Prop} (x : Or) (r : OCx H) : OCx H := ⟨.o x :: r.o, r.c, r.h⟩
def eO {l : List AV} {i : Int} {y : AV} (h : 0 <= i /\ l[i.toNat]? = some y) : Or := .e y
def nO {k : IntKind} {x m : Int} (h : k.wrap x = m) : Or := .n m
def cO {f : FuncId} {args : List SV} {res : SV} {bx bx' : List (Nat × ABox)} {gn gn' : List (Key × Nat)} (h : CallTo P f args bx gn res bx' gn') : Or := .c res bx' gn gn'
def hb {H : Prop} {b d : Bool} (h : H -> b = d) (r : OCx H) : OCx H := ⟨.o (.b d) :: r.o, (b = d) :: r.c, fun q => ⟨h q, r.h q⟩⟩
def hl {H : Prop} {v y : AV} (h : H -> v = y) (r : OCx H) : OCx H := ⟨.o (.e y) :: r.o, True :: (v = y) :: r.c, fun q => ⟨trivial, h q, r.h q⟩⟩
end
end Go.Eng
namespace Go.Eng
section
variable {P : Program} {fr : List SV} {bx ex : List (Nat × ABox)} {gn : List (Key × Nat)} {r : Res}
def Apart (ex bx : List (Nat × ABox)) : Prop := ∀ p ∈ ex, ∀ q ∈ bx, p.1 ≠ q.1
theorem Vcv (h : Apart ex bx) {b : Nat} {x : ABox} (hx : bx.lookup b = some x) : (ex ++ bx).lookup b = some x := by
 have hm := Va9 hx; rw [List.lookup_append]
 have : ex.lookup b = none := by
  rw [Z2]; intro p hp
  have := h p hp _ hm; simpa using Ne.symm this
 rw [this]; simpa using hx
theorem Vav (x : Operand) : (⟨fr, ex ++ bx, gn⟩ : St).ev x = (⟨fr, bx, gn⟩ : St).ev x := by cases x <;> rfl
theorem Vmp {o : Oper} (ha : Apart ex bx) (hs : still o.op = true) (h : Vaw P o ⟨fr, bx, gn⟩ = some r) : Vaw P o ⟨fr, ex ++ bx, gn⟩ = some ⟨r.ok, r.v, ⟨fr, ex ++ bx, gn⟩⟩ := by
 unfold Vaw at h ⊢
 split at h
 all_goals first | (rename_i ho; rw [ho] at hs) | (simp at h; done)
 all_goals try (simp only [still, Zg] at hs; done)
 all_goals try simp only [Vav]
 all_goals try (simp only [Za] at h; subst h; rfl)
 ·unfold aPick at h ⊢; split at h <;> simp at h; subst h; rfl
 ·unfold aBinS at h ⊢
  split at h
  ·unfold aBinB at h ⊢; split at h
   ·split at h <;> simp at h <;> subst h <;> rfl
   ·simp at h
  ·rw [Zd] at h ⊢; obtain ⟨q, h1, rfl⟩ := h; exact ⟨q, h1, rfl⟩
  ·unfold aBinA at h ⊢; split at h
   ·split at h
    ·rename_i hc; rw [if_pos hc]; split at h <;> simp at h <;> subst h <;> rfl
    ·simp at h
   ·simp at h
  ·simp at h
 ·unfold aUnS at h ⊢; split at h
  ·rw [Zd] at h ⊢; obtain ⟨q, h1, rfl⟩ := h; exact ⟨q, h1, rfl⟩
  ·simp at h
 ·unfold Veo at h ⊢; split at h
  ·rw [Zd] at h ⊢; obtain ⟨q, h1, rfl⟩ := h; exact ⟨q, h1, rfl⟩
  ·rw [Zd] at h ⊢; obtain ⟨q, h1, rfl⟩ := h; exact ⟨q, h1, rfl⟩
  ·simp at h
 ·unfold Vd1 at h ⊢; split at h <;> simp at h <;> subst h <;> rfl
 ·unfold Vil at h ⊢
  split at h
  ·split at h
   ·split at h
    ·simp at h
    ·rename_i hz; rw [if_neg hz]; split at h <;> simp at h <;> subst h <;> rfl
   ·simp at h
  ·simp at h
 ·unfold Vi4 at h ⊢
  split at h
  ·split at h
   ·split at h
    ·rename_i hl; rw [Zd] at h; obtain ⟨q, h1, rfl⟩ := h; simp only [Vcv ha hl, h1, Option.map_some]
    ·simp at h
   ·rw [Zd] at h ⊢; obtain ⟨q, h1, rfl⟩ := h; exact ⟨q, h1, rfl⟩
   ·simp at h
  ·split at h
   ·split at h
    ·split at h
     ·rename_i hl; simp only [Vcv ha hl]
      split at h
      ·rename_i e1
       split at h
       ·rename_i e2
        split at h
        ·rename_i e3; simp only [Za] at h; subst h; simp only [e1, e2, if_pos e3]
        ·simp at h
       ·simp at h
      ·rename_i e1
       split at h
       ·rename_i e2
        split at h
        ·rename_i e3; simp only [Za] at h; subst h; simp only [e1, e2, if_pos e3]
        ·simp at h
       ·simp at h
     ·simp at h
    ·split at h
     ·rename_i e3; rw [if_pos e3]; simp only [Za] at h; subst h; rfl
     ·simp at h
    ·simp at h
   ·simp at h
  ·simp at h
 ·unfold Vqw at h ⊢; rw [Vk4 (S := ⟨fr, ex ++ bx, gn⟩) (S' := ⟨fr, bx, gn⟩) (fun p _ => Vav p.2)]
  split at h
  ·split at h
   ·rename_i e1; rw [if_pos e1]; rw [Zd] at h ⊢; obtain ⟨q, h1, rfl⟩ := h; exact ⟨q, h1, rfl⟩
   ·simp at h
  ·simp at h
 ·unfold Vc5 at h ⊢; rw [Vk6 (S := ⟨fr, ex ++ bx, gn⟩) (S' := ⟨fr, bx, gn⟩) (fun p _ => Vav p)]
  split at h
  ·split at h
   ·split at h
    ·rename_i e1; rw [if_pos e1]; simp only [Za] at h; subst h; rfl
    ·simp at h
   ·simp at h
  ·simp at h
 ·unfold Ve1 at h ⊢
  split at h
  ·split at h
   ·simp only [Za] at h; subst h; rfl
   ·simp at h
  ·split at h
   ·split at h
    ·rename_i e1; simp only [if_pos e1]; simp only [Za] at h; subst h; rfl
    ·simp at h
   ·simp at h
  ·split at h
   ·split at h
    ·split at h
     ·rename_i e1; rw [if_pos e1]; simp only [Za] at h; subst h; rfl
     ·simp at h
    ·simp at h
   ·simp at h
 ·unfold Vqv at h ⊢
  split at h
  ·split at h
   ·rename_i e1; rw [if_pos e1]; simp only [Za] at h; subst h; rfl
   ·simp at h
  ·split at h
   ·split at h
    ·simp only [Za] at h; subst h; rfl
    ·simp at h
   ·simp at h
  ·simp at h
 ·have hm : ∀ q : Option Operand, q.map (⟨fr, ex ++ bx, gn⟩ : St).ev = q.map (⟨fr, bx, gn⟩ : St).ev := by intro q; cases q <;> simp [Vav]
  simp only [hm]; unfold Vqs at h ⊢
  split at h
  ·split at h
   ·split at h
    ·split at h
     ·simp only [Za] at h; subst h; rfl
     ·simp only [Za] at h; subst h; rfl
    ·simp at h
   ·simp at h
  split at h
  ·split at h
   ·split at h
    ·rename_i e1; rw [if_pos e1]; simp only [Za] at h; subst h; rfl
    ·simp at h
   ·simp at h
  ·split at h
   ·split at h
    ·simp only [Za] at h; subst h; rfl
    ·simp at h
   ·simp at h
  ·simp at h
 ·unfold Vde at h ⊢
  split at h
  ·simp only [Vav]; unfold aLen at h ⊢
   split at h
   ·split at h
    ·rename_i e1; rw [if_pos e1]; simp only [Za] at h; subst h; rfl
    ·simp at h
   ·split at h
    ·rename_i e1; rw [if_pos e1]; simp only [Za] at h; subst h; rfl
    ·simp at h
   split at h
   ·split at h
    ·rename_i e1; rw [if_pos e1]; simp only [Za] at h; subst h; rfl
    ·simp at h
   ·split at h
    ·rename_i e1; rw [if_pos e1]; simp only [Za] at h; subst h; rfl
    ·simp at h
   ·simp at h
  ·simp [still] at hs
  ·simp only [Vav]
   split at h
   ·split at h
    ·rename_i e1; rw [if_pos e1]; simp only [Za] at h; subst h; rfl
    ·simp at h
   ·simp at h
  ·simp only [Vav]
   split at h
   ·split at h
    ·rename_i e1; rw [if_pos e1]; simp only [Za] at h; subst h; rfl
    ·simp at h
   ·simp at h
  ·simp only [Vav]
   split at h
   ·split at h
    ·rename_i e1; rw [if_pos e1]; simp only [Za] at h; subst h; rfl
    ·simp at h
   ·simp at h
  ·simp [still] at hs
  ·simp at h
 ·unfold Ven at h ⊢
  split at h
  ·split at h
   ·split at h
    ·rename_i e1; rw [if_pos e1]
     split at h
     ·split at h
      ·split at h
       ·rename_i hl; simp only [Vcv ha hl]; simp only [Za] at h; subst h; rfl
       ·simp at h
      ·simp only [Za] at h; subst h; rfl
      ·simp only [Za] at h; subst h; rfl
      ·simp at h
     ·simp at h
    ·simp at h
   ·simp at h
  ·simp at h
 ·unfold Vh4 at h ⊢
  split at h
  ·split at h
   ·simp only [Za] at h; subst h; rfl
   ·simp at h
  ·split at h
   ·simp only [Za] at h; subst h; rfl
   ·simp at h
  ·simp at h
theorem Vpv {l : List (Key × Nat)} : gnOk ⟨fr, ex ++ bx, gn⟩ l = gnOk ⟨fr, bx, gn⟩ l := by
 induction l with
 | nil => rfl
 | cons p l ih => obtain ⟨k, g⟩ := p; simp only [gnOk, ih]; rfl
theorem Vpi {o : Oper} : opVs o ⟨fr, ex ++ bx, gn⟩ = opVs o ⟨fr, bx, gn⟩ := by
 unfold opVs; simp only [Vav]
theorem runV0_more {o : Oper} {ors : List Or} {cs : List Prop} {v : SV} {bx' : List (Nat × ABox)} {gn' : List (Key × Nat)} (ha : Apart ex bx) (hs : still o.op = true) (hq : Vjv ors = true) (h : Vgs P o ors ⟨fr, bx, gn⟩ = some (cs, v, bx', gn')) :
  bx' = bx /\ gn' = gn /\ Vgs P o ors ⟨fr, ex ++ bx, gn⟩ = some (cs, v, ex ++ bx, gn) := by
 unfold Vgs at h ⊢
 split at h
 ·simp only [Vav]
  split at h
  ·simp only [Za, Zb] at h; obtain ⟨rfl, rfl, rfl, rfl⟩ := h; exact ⟨rfl, rfl, rfl⟩
  ·simp at h
 ·simp only [Vav]
  split at h
  ·split at h
   ·rename_i hk; simp only [Za, Zb] at h; obtain ⟨rfl, rfl, rfl, rfl⟩ := h; rw [if_pos hk]; exact ⟨rfl, rfl, rfl⟩
   ·simp at h
  ·simp only [Za, Zb] at h; obtain ⟨rfl, rfl, rfl, rfl⟩ := h; exact ⟨rfl, rfl, rfl⟩
  ·simp at h
 ·simp only [Vav]
  split at h
  ·split at h
   ·rename_i hk; simp only [Za, Zb] at h; obtain ⟨rfl, rfl, rfl, rfl⟩ := h; rw [if_pos hk]; exact ⟨rfl, rfl, rfl⟩
   ·simp at h
  ·simp at h
 ·simp only [Vav]
  split at h
  ·split at h
   ·rename_i hk; simp only [Za, Zb] at h; obtain ⟨rfl, rfl, rfl, rfl⟩ := h; rw [if_pos hk]; exact ⟨rfl, rfl, rfl⟩
   ·simp at h
  ·simp at h
 ·simp only [Vav]
  split at h
  ·split at h
   ·split at h
    ·rename_i hk; simp only [Za, Zb] at h; obtain ⟨rfl, rfl, rfl, rfl⟩ := h; rw [if_pos hk]; exact ⟨rfl, rfl, rfl⟩
    ·simp at h
   ·simp at h
  ·simp at h
 ·simp only [Vav]
  split at h
  ·rename_i f fs cs' res bx2 gn2 gn3 hx
   split at h
   case h_2 => simp at h
   simp only [Za, Zb] at h; obtain ⟨rfl, rfl, rfl, rfl⟩ := h; simp only [Vjv] at hq; unfold Vhl at hq
   split at hq
   ·rename_i e; simp only [Or.c.injEq] at e; obtain ⟨_, rfl, _, rfl⟩ := e; simp only [upd_nil, hx, Vb5]; rw [Vdk (S := ⟨fr, ex ++ bx, gn⟩) (S' := ⟨fr, bx, gn⟩) (fun p _ => Vav p), Vpv]; refine ⟨trivial, trivial, ?_⟩
    have hf : ∀ l : List (Nat × ABox), l.filter (fun p => (List.map (fun x => x.1) ([] : List (Nat × ABox))).contains p.1) = [] := by intro l; simp
    rw [hf, hf]
   ·simp at hq
   ·rename_i e; exact (e _ _ _ _ rfl).elim
  ·simp at h
 ·split at h
  ·rename_i ok' v' st' y h2; simp only [Za, Zb] at h; obtain ⟨rfl, rfl, rfl, rfl⟩ := h; rw [Vmp ha hs h2]; exact ⟨rfl, rfl, rfl⟩
  ·simp at h
 ·split at h
  ·rename_i r h1 h2; simp only [Za, Zb] at h; obtain ⟨rfl, rfl, rfl, rfl⟩ := h
   have e := Vek h2 hs; rw [Vpi, h1, Vmp ha hs h2]; simp only [e]; exact ⟨trivial, trivial, trivial⟩
  ·simp at h
theorem Vi6 {o : Oper} {ors : List Or} {r : List Prop × List Or × SV} (ha : Apart ex bx) (h : Vaz P o ors ⟨fr, bx, gn⟩ = some r) : Vaz P o ors ⟨fr, ex ++ bx, gn⟩ = some r := by
 unfold Vaz at h ⊢
 split at h
 ·rename_i t x y ors2 ho; simp only [Vav]
  split at h
  ·rename_i b s i k hx
   try simp only
   split at h
   ·rename_i e s' l hb ht; simp only at hb; rw [Vcv ha hb]; simp only [ht]; exact h
   ·rename_i e s' l n _ _ hb ht hti; simp only at hb; rw [Vcv ha hb]; simp only [ht, hti]; exact h
   ·simp at h
  ·simp at h
 ·simp only [Vav]; exact h
 ·simp at h
theorem runV_more {o : Oper} {ors : List Or} {cs : List Prop} {v : SV} {bx' : List (Nat × ABox)} {gn' : List (Key × Nat)} (ha : Apart ex bx) (hs : still o.op = true) (hq : Vjv ors = true) (h : runV P o ors ⟨fr, bx, gn⟩ = some (cs, v, bx', gn')) :
  bx' = bx /\ gn' = gn /\ runV P o ors ⟨fr, ex ++ bx, gn⟩ = some (cs, v, ex ++ bx, gn) := by
 unfold runV at h ⊢
 split at h
 ·rename_i c v' hv; rw [Vi6 ha hv]; simp only [Za, Zb] at h; obtain ⟨rfl, rfl, rfl, rfl⟩ := h; exact ⟨rfl, rfl, rfl⟩
 ·simp at h
 ·rename_i hv
  have : Vaz P o ors ⟨fr, ex ++ bx, gn⟩ = none := by
   unfold Vaz
   split
   ·rename_i t x y ors2 ho; unfold Vgs at h; simp only [ho] at h; simp at h
   ·rename_i t x i ors2 ho; unfold Vaz at hv; simp only [ho] at hv; simp only [Vav]; exact hv
   ·rfl
  rw [this]; exact runV0_more ha hs hq h
def Vn9 : Op -> SV -> Bool
 | .call { callee := .builtin .append, args := _, argTypes := _ }, .av _ => true
 | _, _ => false
theorem aAppend_av {d : Option Tmp} {t t2 : TypeId} {x y : SV} {v : AV} (h : Vfm P d t t2 x y ⟨fr, bx, gn⟩ = some r) (hv : r.v = .av v) : r.st = ⟨fr, bx, gn⟩ /\ Vfm P d t t2 x y ⟨fr, ex ++ bx, gn⟩ = some ⟨r.ok, r.v, ⟨fr, ex ++ bx, gn⟩⟩ := by
 unfold Vfm at h ⊢
 split at h
 ·split at h
  ·rename_i e d sz bt z hT
   split at h
   ·rename_i hc
    split at h
    ·rename_i l' hl; cases x with
     | own k g sz' l => simp only at h; split at h <;> simp at h; subst h; simp at hv
     | vs b n =>
      simp only at h; split at h
      ·split at h <;> simp at h; subst h; simp at hv
      ·simp at h
     | clo l => simp only [Za] at h; subst h; simp only [hT, if_pos hc, hl]; exact ⟨trivial, trivial⟩
     | nil => simp only [Za] at h; subst h; simp at hv
     | _ => simp at h
    ·simp at h
   ·simp at h
  ·simp at h
 ·simp at h
theorem runV_moreA {o : Oper} {ors : List Or} {cs : List Prop} {v : SV} {bx' : List (Nat × ABox)} {gn' : List (Key × Nat)} (hs : Vn9 o.op v = true) (h : runV P o ors ⟨fr, bx, gn⟩ = some (cs, v, bx', gn')) :
  bx' = bx /\ gn' = gn /\ runV P o ors ⟨fr, ex ++ bx, gn⟩ = some (cs, v, ex ++ bx, gn) := by
 unfold Vn9 at hs
 split at hs
 ·rename_i args tys v ho
  have hv : ∀ S : St, Vaz P o ors S = none := fun S => by unfold Vaz; rw [ho]
  unfold runV at h ⊢; rw [hv] at h ⊢; simp only [Vgs, ho, Vc0, Vcg, Bool.true_and, Bool.or_false] at h ⊢
  split at h
  ·rename_i r h1 h2; simp only [Za, Zb] at h; obtain ⟨rfl, hvr, rfl, rfl⟩ := h
   have h3 : r.st = ⟨fr, bx, gn⟩ /\ Vaw P o ⟨fr, ex ++ bx, gn⟩ = some ⟨r.ok, r.v, ⟨fr, ex ++ bx, gn⟩⟩ := by
    unfold Vaw at h2 ⊢; rw [ho] at h2 ⊢; simp only [Vde] at h2 ⊢
    split at h2
    all_goals first | (simp only [Vav]; exact aAppend_av h2 hvr) | (simp at h2; done) | (rename_i e _ _; cases e; done) | (rename_i e _; cases e; done)
   rw [Vpi, h1, h3.2]; simp only [h3.1]; exact ⟨trivial, trivial, by rw [hvr]⟩
  ·simp at h
 ·simp at hs
end
def isVck : ABox -> Bool
 | .vck _ _ _ => true
 | _ => false
def readC : List Or -> Bool
 | [.c _ b' [] []] => b'.any (fun p => isVck p.2)
 | _ => false
def Vnk : List Or -> List Nat
 | [.c _ b' _ _] => b'.map (·.1)
 | _ => []
theorem runV_moreC {P : Program} {fr : List SV} {ex bx : List (Nat × ABox)} {gn : List (Key × Nat)} {o : Oper} {ors : List Or} {cs : List Prop} {v : SV} (ha : Apart ex bx) (hc : readC ors = true) (hex : ∀ p ∈ ex, (Vnk ors).contains p.1 = false) (h : runV P o ors ⟨fr, bx, gn⟩ = some (cs, v, bx, gn)) :
  runV P o ors ⟨fr, ex ++ bx, gn⟩ = some (cs, v, ex ++ bx, gn) := by
 unfold readC at hc
 split at hc
 case h_2 => cases hc
 rename_i res b'; clear hc; unfold runV at h ⊢
 split at h
 ·rename_i c v' hv; rw [Vi6 ha hv]; simp only [Za, Zb] at h; obtain ⟨rfl, rfl, _, _⟩ := h; rfl
 ·simp at h
 ·rename_i hv
  have : Vaz P o [.c res b' [] []] ⟨fr, ex ++ bx, gn⟩ = none := by
   unfold Vaz
   split
   ·rename_i ho; cases ho
   ·rename_i t x i ors2 ho; unfold Vaz at hv; simp only [ho] at hv; simp only [Vav]; exact hv
   ·rfl
  rw [this]; clear this hv
  show Vgs P o [.c res b' [] []] ⟨fr, ex ++ bx, gn⟩ = _; unfold Vgs at h ⊢
  split at h
  case h_6 =>
   simp only [Vav]
   split at h
   ·rename_i f fs cs' res2 b2 gn2 gn3 hx heq; simp only [Zq, Or.c.injEq, and_true] at heq; obtain ⟨rfl, rfl, rfl, rfl⟩ := heq
    split at h
    case h_2 => simp at h
    rename_i hvi; simp only [Za, Zb] at h ⊢; obtain ⟨h1, h2, h3, h4⟩ := h
    have hf : (ex ++ bx).filter (fun p => (b'.map (fun x => x.1)).contains p.1) = bx.filter (fun p => (b'.map (fun x => x.1)).contains p.1) := by
     rw [List.filter_append, List.filter_eq_nil_iff.2 (fun p hp => ?_), List.nil_append]
     have := hex p hp; simp only [Vnk] at this; rw [this]; simp
    have hlk : ∀ p ∈ ex, b'.lookup p.1 = none := fun p hp => by
     have := hex p hp; simp only [Vnk, List.contains_eq_mem, Zy, decide_eq_false_iff_not, not_exists, not_and] at this; rw [Z2]; intro q hq
     have := this q hq; simpa using fun e => this e.symm
    have hup : ((⟨fr, ex ++ bx, gn⟩ : St).upd b' []).bx = ex ++ ((⟨fr, bx, gn⟩ : St).upd b' []).bx := by
     rw [Vg8 hvi, Vg8 hvi]; simp only [List.map_append]; congr 1
     conv => rhs; rw [<- List.map_id ex]
     apply List.map_congr_left; intro p hp; rw [hlk p hp]; rfl
    have hgn2 : ((⟨fr, ex ++ bx, gn⟩ : St).upd b' []).gn = ((⟨fr, bx, gn⟩ : St).upd b' []).gn := by
     rw [Vg8 hvi, Vg8 hvi]
    refine ⟨?_, h2, by rw [hup, h3], by rw [hgn2, h4]⟩; rw [<- h1, Vdk (S := ⟨fr, ex ++ bx, gn⟩) (S' := ⟨fr, bx, gn⟩) (fun p _ => Vav p), Vpv, hf]
   ·simp at h
  all_goals (exfalso; revert h; repeat' split)
  all_goals (intro h; first | (cases h; done) | (rename_i e; cases e; done) | (rename_i e _; cases e; done) | (rename_i e _ _; cases e; done) | (simp_all; done))
def Vof (P : Program) (o : Oper) : Option (Nat × ABox) := match o.op, o.dst with
 | .alloc t, some id => match tInfo P t with
  | some (_, _, some z) => some (id, .cells t (zeroCells z))
  | _ => none
 | _, _ => none
def alAt (P : Program) (ops : List Oper) (k : Nat) : Option (Nat × ABox) := (ops[k]?).bind (Vof P)
def exs (P : Program) (ops : List Oper) (st : List DS) (L : Nat -> Bool) : Nat -> List (Nat × ABox)
 | 0 => []
 | m + 1 => match L m with
  | true => match Vat st m with
   | some _ => []
   | none => match alAt P ops m with
    | some p => p :: exs P ops st L m
    | none => exs P ops st L m
  | false => exs P ops st L m
def hasKey (l : List (Nat × ABox)) (id : Nat) : Bool := l.any (fun p => p.1 == id)
def alSt (P : Program) (ops : List Oper) (st : List DS) (M : List Nat) (b0 : BG) : Bool :=
 (Zx ops.length).all fun k => match alAt P ops k with
  | none => true
  | some p => (Vat st k).isNone && !hasKey b0.1 p.1 && (Zx ops.length).all fun e =>
    (match Vat st e with | some b => Vcu M k e && (decide (k < e) || !hasKey b.1 p.1) | none => true) &&
    (match alAt P ops e with | some q => e == k || !(q.1 == p.1) | none => true)
section
variable {P : Program} {ops : List Oper} {st : List DS} {M : List Nat} {f0 : List SV} {b0 : BG}
theorem Vi1 {L : Nat -> Bool} : ∀ {m : Nat} {p : Nat × ABox}, p ∈ exs P ops st L m -> ∃ k, k < m /\ L k = true /\ alAt P ops k = some p /\ ∀ e, k < e -> e < m -> (Vat st e).isSome = true -> L e = false
 | 0, p, h => by simp [exs] at h
 | m + 1, p, h => by
  simp only [exs] at h
  split at h
  ·rename_i hL
   split at h
   ·simp at h
   ·rename_i ho
    split at h
    ·rename_i q hq; simp only [Zo] at h; rcases h with rfl | h
     ·exact ⟨m, by omega, hL, hq, fun e h1 h2 => by omega⟩
     ·obtain ⟨k, h1, h2, h3, h4⟩ := Vi1 h; refine ⟨k, by omega, h2, h3, fun e q1 q2 q3 => ?_⟩; rcases Zc e m with h5 | h5
      ·exact h4 e q1 h5 q3
      ·have : e = m := by omega
       subst this; rw [ho] at q3; simp at q3
    ·obtain ⟨k, h1, h2, h3, h4⟩ := Vi1 h; refine ⟨k, by omega, h2, h3, fun e q1 q2 q3 => ?_⟩; rcases Zc e m with h5 | h5
     ·exact h4 e q1 h5 q3
     ·have : e = m := by omega
      subst this; rw [ho] at q3; simp at q3
  ·rename_i hL; obtain ⟨k, h1, h2, h3, h4⟩ := Vi1 h; refine ⟨k, by omega, h2, h3, fun e q1 q2 q3 => ?_⟩; rcases Zc e m with h5 | h5
   ·exact h4 e q1 h5 q3
   ·have : e = m := by omega
    subst this; exact hL
theorem Vj6 {L L' : Nat -> Bool} : ∀ {m : Nat}, (∀ k, k < m -> ((Vat st k).isSome = true \/ (alAt P ops k).isSome = true) -> L k = L' k) -> exs P ops st L m = exs P ops st L' m
 | 0, _ => rfl
 | m + 1, h => by
  have ih := @Vj6 L L' m (fun k hk => h k (by omega)); simp only [exs, ih]; cases ho : Vat st m with
  | some b => rw [h m (by omega) (.inl (by rw [ho]; rfl))]
  | none =>
   cases ha : alAt P ops m with
   | some p => rw [h m (by omega) (.inr (by rw [ha]; rfl))]
   | none => cases L m <;> cases L' m <;> rfl
theorem exs_upto {L : Nat -> Bool} {i : Nat} (h : ∀ k, i <= k -> ((Vat st k).isSome = true \/ (alAt P ops k).isSome = true) -> L k = false) : ∀ m, i <= m -> exs P ops st L m = exs P ops st L i := by
  intro m
  induction m with
  | zero => intro hm; have : i = 0 := by omega
            subst this; rfl
  | succ m ih =>
    intro hm; rcases Zc m i with hlt | hge
    · have : i = m + 1 := by omega
      subst this; rfl
    · rw [<- ih hge]; simp only [exs]; cases ho : Vat st m with
      | some b => rw [h m hge (.inl (by rw [ho]; rfl))]
      | none =>
        cases ha : alAt P ops m with
        | some p => rw [h m hge (.inr (by rw [ha]; rfl))]
        | none => cases L m <;> rfl
theorem exs_eff {L : Nat -> Bool} {i : Nat} (hi : (Vat st i).isSome = true) (h : ∀ k, i < k -> ((Vat st k).isSome = true \/ (alAt P ops k).isSome = true) -> L k = false) : ∀ m, i < m -> exs P ops st (also L i) m = [] := by
 intro m hm
 have hu : ∀ k, i + 1 <= k -> ((Vat st k).isSome = true \/ (alAt P ops k).isSome = true) -> also L i k = false := by
  intro k hk hs; simp only [also, if_neg (show ¬ k = i by omega)]; exact h k (by omega) hs
 rw [exs_upto hu m (by omega)]; simp only [exs, also, if_true]; obtain ⟨b, hb⟩ := Zi.1 hi; rw [hb]
theorem exs_al {L : Nat -> Bool} {i : Nat} {p : Nat × ABox} (hp : alAt P ops i = some p) : ∀ m q, q ∈ exs P ops st (also L i) m -> q = p \/ q ∈ exs P ops st L m \/ ∃ e, i < e /\ e < m /\ (Vat st e).isSome = true /\ L e = true := by
 intro m
 induction m with
 | zero => intro q hq; simp [exs] at hq
 | succ m ih =>
  intro q hq; simp only [exs] at hq ⊢
  by_cases hm : m = i
  ·subst hm; simp only [also, if_true] at hq; cases ho : Vat st m with
   | some b => rw [ho] at hq; simp at hq
   | none =>
    rw [ho, hp] at hq; simp only [Zo] at hq; rcases hq with rfl | hq
    ·exact .inl rfl
    ·rcases ih q hq with h | h | ⟨e, h1, h2, h3⟩
     ·exact .inl h
     ·refine .inr (.inl ?_); cases L m
      ·exact h
      ·simp only [hp]; exact List.mem_cons_of_mem _ h
     ·omega
  ·rw [show also L i m = L m by simp only [also, if_neg hm]] at hq; cases hL : L m with
   | false =>
    rw [hL] at hq; rcases ih q hq with h | h | ⟨e, h1, h2, h3⟩
    ·exact .inl h
    ·exact .inr (.inl h)
    ·exact .inr (.inr ⟨e, h1, by omega, h3⟩)
   | true =>
    rw [hL] at hq; simp only at hq ⊢; cases ho : Vat st m with
    | some b => rw [ho] at hq; simp at hq
    | none =>
     rw [ho] at hq; simp only at hq ⊢; cases ha : alAt P ops m with
     | none =>
      rw [ha] at hq; rcases ih q hq with h | h | ⟨e, h1, h2, h3⟩
      ·exact .inl h
      ·exact .inr (.inl h)
      ·exact .inr (.inr ⟨e, h1, by omega, h3⟩)
     | some p' =>
      rw [ha] at hq; simp only [Zo] at hq ⊢; rcases hq with rfl | hq
      ·exact .inr (.inl (.inl rfl))
      ·rcases ih q hq with h | h | ⟨e, h1, h2, h3⟩
       ·exact .inl h
       ·exact .inr (.inl (.inr h))
       ·exact .inr (.inr ⟨e, h1, by omega, h3⟩)
theorem Vj4 {L : Nat -> Bool} {i k : Nat} {o : Oper} (hg : Good ops st M L i o) (h : Vcu M i k = true) : (k < i -> L k = true) /\ (i < k -> L k = false) := by
 simp only [Vcu, Zu, Ze, decide_eq_true_eq] at h; rcases h with ⟨h1, h2⟩ | ⟨h1, h2⟩
 ·exact ⟨fun _ => hg.down k h2 (by omega), fun h => by omega⟩
 ·refine ⟨fun h => by omega, fun _ => ?_⟩; cases hL : L k with
  | false => rfl
  | true => rw [hg.up k hL] at h2; simp at h2
theorem Vph (M : List Nat) (i k : Nat) : Vcu M i k = Vcu M k i := by
 simp only [Vcu]; rw [Bool.or_comm]
theorem alAt_lt {k : Nat} {p : Nat × ABox} (h : alAt P ops k = some p) : k < ops.length := by
 rcases Zc k ops.length with h1 | h1
 ·exact h1
 ·simp [alAt, Zf h1] at h
theorem outOf_lt {k : Nat} (h : (Vat st k).isSome = true) : k < st.length := by
 rcases Zc k st.length with h1 | h1
 ·exact h1
 ·simp [Vat, Zf h1] at h
theorem Voe {k : Nat} {p : Nat × ABox} (hs : alSt P ops st M b0 = true) (hst : st.length = ops.length) (hk : alAt P ops k = some p) : Vat st k = none /\ (∀ q ∈ b0.1, q.1 ≠ p.1) /\ (∀ e b, Vat st e = some b -> Vcu M k e = true /\ (e < k -> ∀ q ∈ b.1, q.1 ≠ p.1)) /\ (∀ e q, alAt P ops e = some q -> e ≠ k -> q.1 ≠ p.1) := by
 have hkl := alAt_lt hk; simp only [alSt, Zk, Zp] at hs
 have h1 := hs k hkl; rw [hk] at h1; simp only [Ze, Zv, Zk, Zp] at h1; obtain ⟨⟨h2, h3⟩, h4⟩ := h1
 have nk : ∀ l : List (Nat × ABox), hasKey l p.1 = false -> ∀ q ∈ l, q.1 ≠ p.1 := by
  intro l hl q hq; simp only [hasKey, Z3] at hl; simpa using hl q hq
 refine ⟨by simpa using h2, nk _ h3, fun e b hb => ?_, fun e q hq hne => ?_⟩
 ·have hel : e < ops.length := by rw [<- hst]; exact outOf_lt (by rw [hb]; rfl)
  have := h4 e hel; rw [hb] at this; simp only [Ze] at this; obtain ⟨⟨q1, q2⟩, _⟩ := this; refine ⟨q1, fun hlt => nk _ ?_⟩; simp only [Zu, decide_eq_true_eq, Zv] at q2; rcases q2 with q2 | q2
  ·omega
  ·exact q2
 ·have := h4 e (alAt_lt hq)
  have := this.2; rw [hq] at this; simp only [Zu, beq_iff_eq, Zv, beq_eq_false_iff_ne] at this; rcases this with h | h
  ·exact absurd h hne
  ·exact h
theorem Vq2 {L : Nat -> Bool} (hs : alSt P ops st M b0 = true) (hst : st.length = ops.length) : Apart (exs P ops st L ops.length) (bxD st b0 L ops.length).1 := by
 intro p hp q hq; obtain ⟨k, h1, h2, h3, h4⟩ := Vi1 hp; obtain ⟨g1, g2, g3, g4⟩ := Voe hs hst h3; rcases bx_last (st := st) (b0 := b0) (L := L) ops.length with ⟨e1, e2⟩ | ⟨e, e1, e2, e3, e4, e5⟩
 ·rw [e1] at hq; exact Ne.symm (g2 q hq)
 ·rw [e4] at hq; obtain ⟨b, hb⟩ := Zi.1 e3; simp only [Vcm, hb, Option.getD_some] at hq; rcases Nat.lt_trichotomy e k with hlt | heq | hgt
  ·exact Ne.symm ((g3 e b hb).2 hlt q hq)
  ·subst heq; rw [g1] at hb; simp at hb
  ·have := h4 e hgt e1 e3; rw [e2] at this; simp at this
theorem alBox_zero {o : Oper} {p : Nat × ABox} (h : Vof P o = some p) (id : Nat) : p.2.svs.any (SV.names id) = false := by
 unfold Vof at h
 split at h
 ·split at h
  ·rename_i z hz; simp only [Za] at h; subst h; rw [Z3]; intro s hs; simp only [ABox.svs, zeroCells, Zy] at hs; obtain ⟨c, _, rfl⟩ := hs; simp [Vkp]
  ·simp at h
 ·simp at h
theorem alloc_more {o : Oper} {p : Nat × ABox} {ors : List Or} {fr fr' : List SV} {bx ex bx' : List (Nat × ABox)} {gn gn' : List (Key × Nat)} {cs : List Prop} {v : SV} (hp : Vof P o = some p) (h : runV P o ors ⟨fr, bx, gn⟩ = some (cs, v, bx', gn')) (hfr : fr'.any (SV.names p.1) = false)
  (hex : ∀ q ∈ ex, q.1 ≠ p.1 /\ q.2.svs.any (SV.names p.1) = false) : bx' = p :: bx /\ gn' = gn /\ runV P o ors ⟨fr', ex ++ bx, gn⟩ = some (cs, v, p :: (ex ++ bx), gn) := by
 unfold Vof at hp
 split at hp
 ·rename_i t id ho hd
  split at hp
  ·rename_i z hz; simp only [Za] at hp; subst hp; simp only at hfr hex
   have hv : ∀ S, Vaz P o ors S = none := by intro S; unfold Vaz; rw [ho]
   unfold runV at h ⊢; simp only [hv] at h ⊢; unfold Vgs at h ⊢; simp only [ho] at h ⊢; simp only [Vc0, Vcg, Bool.or_true] at h ⊢; unfold Vaw at h ⊢; simp only [ho] at h ⊢; unfold Vqx at h ⊢; simp only [hd, hz] at h ⊢
   by_cases hc : (z.cells.toList.all fun c => c.oneCell') = true /\ id < 1000 /\ (⟨fr, bx, gn⟩ : St).names id = false
   ·rw [if_pos hc] at h
    have hn : (⟨fr', ex ++ bx, gn⟩ : St).names id = false := by
     have := hc.2.2; simp only [St.names, Bool.or_eq_false_iff] at this ⊢; refine ⟨hfr, ?_⟩; rw [List.any_append, this.2, Bool.or_false, Z3]; intro q hq
     have := hex q hq; simp [this.1, this.2]
    rw [if_pos ⟨hc.1, hc.2.1, hn⟩]; cases ors with
    | nil =>
     simp only [Za, Zb, St.addBox] at h ⊢; obtain ⟨rfl, rfl, rfl, rfl⟩ := h; exact ⟨rfl, rfl, rfl, rfl, trivial⟩
    | cons x l => simp at h
   ·rw [if_neg hc] at h; simp at h
  ·simp at hp
 ·simp at hp
def runAt (P : Program) (o : Oper) (s : DS) (f : List SV) (b want : BG) : Option (List Prop × List VB × List VB) :=
 match runV P o s.ors ⟨f, b.1, b.2⟩ with
 | some (cs, v, bx, gn) => some (cs, [(v, bx, gn)], [(s.v, want)])
 | none => none
def dRun3 (P : Program) (ops : List Oper) (st : List DS) (M : List Nat) (f : List SV) (b0 : BG) (i : Nat) (o : Oper) (s : DS) : Option (List Prop × List VB × List VB) :=
 match alAt P ops i with
 | some p => runAt P o s f (Vcm st b0 (Vcf st i)) (p :: (Vcm st b0 (Vcf st i)).1, (Vcm st b0 (Vcf st i)).2)
 | none => match s.out with
  | some b => runAt P o s f (exs P ops st (fun _ => true) i ++ (Vcm st b0 (Vcf st i)).1, (Vcm st b0 (Vcf st i)).2) b
  | none => match (still o.op && Vjv s.ors) || Vn9 o.op s.v || (readC s.ors && (Zx ops.length).all (fun k => match alAt P ops k with | some q => !(Vnk s.ors).contains q.1 | none => true)) with
   | true => Vkn P o s f st b0 (cands st M ops.length i)
   | false => none
def dOp3 (P : Program) (ops : List Oper) (st : List DS) (M : List Nat) (f0 : List SV) (b0 : BG) (i : Nat) : Option (List Prop × List VB × List VB) :=
 match ops[i]?, st[i]? with
 | some o, some s => (match alOk ops st M f0 i o with
  | false => none
  | true =>
  match o.guard with
  | none => dRun3 P ops st M (frD ops st f0 (fun _ => true) i) b0 i o s
  | some (j, want) => match guardOk ((Vdx ops j).bind ((frD ops st f0 (fun _ => true) i)[·]?)) want s.gd with
   | some (cs, true) => match dRun3 P ops st M (frD ops st f0 (fun _ => true) i) b0 i o s with
    | some (c2, r) => some (cs ++ c2, r)
    | none => none
   | some (cs, false) => match s.out, alAt P ops i with
    | none, none => some (cs, [(s.v, b0)], [(Vaj, b0)])
    | _, _ => none
   | none => none)
 | _, _ => none
def Vqg (P : Program) (ops : List Oper) (st : List DS) (M : List Nat) (f0 : List SV) (b0 : BG) : Nat -> Option (List Prop × List VB × List VB)
 | 0 => some ([], [], [])
 | m + 1 => match Vqg P ops st M f0 b0 m, dOp3 P ops st M f0 b0 m with
  | some (a, x, y), some (b, x', y') => some (a ++ b, x ++ x', y ++ y')
  | _, _ => none
theorem Vp7 {o : Oper} {s : DS} {f : List SV} {b want : BG} {cs : List Prop} {x y : List VB} (h : runAt P o s f b want = some (cs, x, y)) : x.length = y.length := by
 unfold runAt at h
 split at h
 ·simp only [Za, Zb] at h; obtain ⟨_, rfl, rfl⟩ := h; rfl
 ·simp at h
theorem Vqd {f : List SV} {i : Nat} {o : Oper} {s : DS} {cs : List Prop} {x y : List VB} (h : dRun3 P ops st M f b0 i o s = some (cs, x, y)) : x.length = y.length := by
 unfold dRun3 at h
 split at h
 ·exact Vp7 h
 ·split at h
  ·exact Vp7 h
  ·split at h
   ·exact Vmj _ _ _ _ h
   ·simp at h
theorem dOp3_len {i : Nat} {cs : List Prop} {x y : List VB} (h : dOp3 P ops st M f0 b0 i = some (cs, x, y)) : x.length = y.length := by
 unfold dOp3 at h
 split at h
 ·split at h
  ·simp at h
  ·split at h
   ·exact Vqd h
   ·split at h
    ·split at h
     ·rename_i h2; simp only [Za, Zb] at h; obtain ⟨_, rfl⟩ := h; exact Vqd h2
     ·simp at h
    ·split at h
     ·simp only [Za, Zb] at h; obtain ⟨_, rfl, rfl⟩ := h; rfl
     ·simp at h
    ·simp at h
 ·simp at h
theorem Vqe : ∀ (n : Nat) (cs : List Prop) (x y : List VB), Vqg P ops st M f0 b0 n = some (cs, x, y) -> x.length = y.length
 | 0, cs, x, y, h => by simp only [Vqg, Za, Zb] at h; obtain ⟨_, rfl, rfl⟩ := h; rfl
 | n + 1, cs, x, y, h => by
  simp only [Vqg] at h
  split at h
  ·rename_i a x1 y1 b x2 y2 h1 h2; simp only [Za, Zb] at h; obtain ⟨_, rfl, rfl⟩ := h; simp [Vqe n _ _ _ h1, dOp3_len h2]
  ·simp at h
theorem Vqf : ∀ (n : Nat) (cs : List Prop) (x y : List VB), Vqg P ops st M f0 b0 n = some (cs, x, y) -> All cs -> x = y -> ∀ i, i < n -> ∃ c u, dOp3 P ops st M f0 b0 i = some (c, u, u) /\ All c
 | 0, cs, x, y, h, hc, e, i, hi => by omega
 | n + 1, cs, x, y, h, hc, e, i, hi => by
  simp only [Vqg] at h
  split at h
  ·rename_i a x1 y1 b x2 y2 h1 h2; simp only [Za, Zb] at h; obtain ⟨rfl, rfl, rfl⟩ := h; obtain ⟨hc1, hc2⟩ := Vau hc; obtain ⟨e1, e2⟩ := List.append_inj e (Vqe n _ _ _ h1); rcases Zc i n with hlt | hge
   ·exact Vqf n _ _ _ h1 hc1 e1 i hlt
   ·have : i = n := by omega
    subst this; subst e2; exact ⟨b, x2, h2, hc2⟩
  ·simp at h
end
theorem W_draw2 {P : Program} {id : Nat} {ops : Array Oper} {Q : Exit -> St -> Prop} {S : St} (st : List DS) {cs : List Prop} {u : List VB} (hm : P.follows .mixedOrders = true) (hst : st.length = ops.toList.length)
  (hs : Vkm ops.toList st (masks ops.toList []) = true) (hal : alSt P ops.toList st (masks ops.toList []) (S.bx, S.gn) = true) (hd : Vqg P ops.toList st (masks ops.toList []) S.fr (S.bx, S.gn) ops.toList.length = some (cs, u, u)) (hc : All cs)
  (hq : Q .normal ⟨frD ops.toList st S.fr (fun _ => true) ops.toList.length, exs P ops.toList st (fun _ => true) ops.toList.length ++ (bxD st (S.bx, S.gn) (fun _ => true) ops.toList.length).1, (bxD st (S.bx, S.gn) (fun _ => true) ops.toList.length).2⟩) : W P (.region id ops true) Q S := by
 intro G0 w0 a0 hr0; obtain ⟨hstep0, hr0'⟩ := hr0.draw; apply wp_region_any hm; generalize hol : ops.toList = opl at *
 have hn : ops.size = opl.length := by rw [<- hol]; simp
 have hget : ∀ i : Nat, ops[i]? = opl[i]? := by intro i; rw [<- hol]; simp
 have main : ∀ (fuel : Nat) (listed : Array Bool) (G : Gh) (w : World) (a : Act), listed.size = ops.size -> left (fun k => listed.getD k false) opl.length <= fuel ->
   (∀ (k : Nat) ok, opl[k]? = some ok -> listed.getD k false = true -> ∀ e ∈ ok.after, Region.binds .any e = true -> listed.getD e.on false = true) ->
   Rel G w ⟨frD opl st S.fr (fun k => listed.getD k false) opl.length, exs P opl st (fun k => listed.getD k false) opl.length ++ (bxD st (S.bx, S.gn) (fun k => listed.getD k false) opl.length).1, (bxD st (S.bx, S.gn) (fun k => listed.getD k false) opl.length).2⟩ a ->
   Step G0 w0 G w -> (∀ i, Fx i -> G.ow (i, 0) = G0.ow (i, 0)) -> wpAny P .any ops (lift Q G0 w0) fuel listed a w := by
  intro fuel
  have done : ∀ (listed : Array Bool) (G : Gh) (w : World) (a : Act), (∀ i, i < opl.length -> listed.getD i false = true) -> Rel G w ⟨frD opl st S.fr (fun k => listed.getD k false) opl.length, exs P opl st (fun k => listed.getD k false) opl.length ++ (bxD st (S.bx, S.gn) (fun k => listed.getD k false) opl.length).1, (bxD st (S.bx, S.gn) (fun k => listed.getD k false) opl.length).2⟩ a ->
    Step G0 w0 G w -> (∀ i, Fx i -> G.ow (i, 0) = G0.ow (i, 0)) -> lift Q G0 w0 .normal a w := by
   intro listed G w a hall hr hst' how; rw [Vpz (L' := fun _ => true) _ hall, Vqm (L' := fun _ => true) _ hall, Vj6 (L' := fun _ => true) (fun k hk _ => hall k hk)] at hr; exact ⟨_, G, hq, hst', hr, how⟩
  induction fuel with
  | zero =>
   intro listed G w a hsz hle hcl hr hst' how
   have hall := left_zero (Nat.le_zero.1 hle); refine ⟨?_, done listed G w a hall hr hst' how⟩; rw [List.eq_nil_iff_forall_not_mem]; intro j hj; obtain ⟨h1, o, h2, _⟩ := mem_ready.1 hj
   have hjl : j < ops.size := (Array.getElem?_eq_some_iff.1 h2).1
   have h3 := hall j (by omega); simp only [Zl] at h1 h3; rw [Array.getElem?_eq_getElem (by omega : j < listed.size)] at h1 h3; simp only [Option.getD_some] at h1 h3; rw [h1] at h3; simp at h3
  | succ fuel ih =>
   intro listed G w a hsz hle hcl hr hst' how
   have same : ∀ j, j < opl.length -> listed.getD j true = listed.getD j false := by
    intro j hj; simp only [Zl]; rw [Array.getElem?_eq_getElem (by omega : j < listed.size)]; rfl
   refine ⟨fun hnil => ?_, fun i hi => ?_⟩
   ·apply done listed G w a _ hr hst' how; apply Classical.byContradiction; intro hno; obtain ⟨i, h1, h2, h3⟩ := least_false hno
    have : i ∈ Region.ready .any ops listed := by
     rw [mem_ready]; refine ⟨by rw [same i h1]; exact h2, opl[i], by rw [hget i]; simp [h1], fun e he hb => h3 e.on ?_⟩; simp only [Vkm, Zk, Zp] at hs
     have q := hs i h1; simp only [List.getElem?_eq_getElem h1, Ze] at q
     have q1 := q.1; simp only [Zk] at q1
     have := q1 e (by simpa using he); simpa [hb] using this
    rw [hnil] at this; simp at this
   ·obtain ⟨h1, o, h2, h3⟩ := mem_ready.1 hi; rw [hget i] at h2
    have hil : i < opl.length := by
     rcases Zc i opl.length with h | h
     ·exact h
     ·simp [Zf h] at h2
    rw [same i hil] at h1; obtain ⟨s, hsi⟩ : ∃ s, st[i]? = some s := ⟨st[i]'(by omega), by simp⟩
    have hg : Good opl st (masks opl []) (fun k => listed.getD k false) i o := by
     refine good_of rfl hs (by omega) (fun k hk => ?_) h2 h1 hcl h3; rcases Zc k opl.length with h | h
     ·exact h
     ·simp [Array.getElem?_eq_none (show listed.size <= k by omega)] at hk
    have hset : (fun k => (listed.setIfInBounds i true).getD k false) = also (fun k => listed.getD k false) i := by
     funext k; simp only [also]
     split
     ·rename_i hk; subst hk; simp [Zl, show k < listed.size by omega]
     ·rename_i hk; rw [getD_set_ne false (Ne.symm hk)]
    have hfr2 : frD opl st S.fr (also (fun k => listed.getD k false) i) opl.length = putF (frD opl st S.fr (fun k => listed.getD k false) opl.length) o.dst s.v := by
     have := congrArg St.fr (Vms (f0 := S.fr) (b0 := (S.bx, S.gn)) hg h2 hil hsi); rw [show frD opl st S.fr (also (fun k => listed.getD k false) i) opl.length = _ from this]; cases o.dst <;> rfl
    have hbx2 : bxD st (S.bx, S.gn) (also (fun k => listed.getD k false) i) opl.length = s.out.getD (bxD st (S.bx, S.gn) (fun k => listed.getD k false) opl.length) := by
     have e := Vms (f0 := S.fr) (b0 := (S.bx, S.gn)) hg h2 hil hsi
     have e1 := congrArg St.bx e
     have e2 := congrArg St.gn e; apply Prod.ext
     ·rw [show (bxD st (S.bx, S.gn) (also (fun k => listed.getD k false) i) opl.length).1 = _ from e1]; cases o.dst <;> rfl
     ·rw [show (bxD st (S.bx, S.gn) (also (fun k => listed.getD k false) i) opl.length).2 = _ from e2]; cases o.dst <;> rfl
    have next : ∀ (G' : Gh) (w' : World) (a' : Act), Step G w G' w' -> (∀ i, Fx i -> G'.ow (i, 0) = G.ow (i, 0)) ->
      Rel G' w' ⟨putF (frD opl st S.fr (fun k => listed.getD k false) opl.length) o.dst s.v, exs P opl st (also (fun k => listed.getD k false) i) opl.length ++ (s.out.getD (bxD st (S.bx, S.gn) (fun k => listed.getD k false) opl.length)).1, (s.out.getD (bxD st (S.bx, S.gn) (fun k => listed.getD k false) opl.length)).2⟩ a' ->
      wpAny P .any ops (lift Q G0 w0) fuel (listed.setIfInBounds i true) a' w' := by
     intro G' w' a' k1 k2 k3; rw [<- hfr2, <- hbx2] at k3; refine ih (listed.setIfInBounds i true) G' w' a' (by simp [hsz]) ?_ ?_ ?_ (hst'.trans k1) (fun j hj => (k2 j hj).trans (how j hj))
     ·rw [hset]; have := left_also (L := fun k => listed.getD k false) h1 hil; omega
     ·intro k ok hk hL e he hb
      by_cases hki : k = i
      ·subst hki; rw [h2] at hk; simp only [Za] at hk; subst hk; exact getD_set_true (h3 e he hb)
      ·rw [getD_set_ne false (Ne.symm hki)] at hL; exact getD_set_true (hcl k ok hk hL e he hb)
     ·rw [hset]; exact k3
    have putE : ∀ (f : List SV) (bx : List (Nat × ABox)) (gn : List (Key × Nat)), ((⟨f, bx, gn⟩ : St).put o.dst s.v) = ⟨putF f o.dst s.v, bx, gn⟩ := by
     intro f bx gn; cases o.dst <;> rfl
    have pureN : alAt P opl i = none -> Vat st i = none -> exs P opl st (also (fun k => listed.getD k false) i) opl.length = exs P opl st (fun k => listed.getD k false) opl.length := by
     intro q1 q2; refine Vj6 (fun k hk hs => ?_); simp only [also]
     split
     ·rename_i hki; subst hki; rw [q1, q2] at hs; simp at hs
     ·rfl
    have hout : Vat st i = s.out := by simp [Vat, hsi]
    obtain ⟨c, uu, hdo, hca⟩ := Vqf _ _ _ _ hd hc rfl i hil; simp only [dOp3, h2, hsi] at hdo; cases hao : alOk opl st (masks opl []) S.fr i o with
    | false => rw [hao] at hdo; simp at hdo
    | true =>
    rw [hao] at hdo; simp only at hdo
    have local_ : ∀ x ∈ o.op.operands, ∀ bx gn, (⟨frD opl st S.fr (fun _ => true) i, bx, gn⟩ : St).ev x = (⟨frD opl st S.fr (fun k => listed.getD k false) opl.length, bx, gn⟩ : St).ev x := by
     intro x hx bx gn; cases x with
     | tmp t =>
      have : t ∈ looks opl o := by
       simp only [looks, Zt, Zz]; exact .inl (.inl ⟨.tmp t, by simpa using hx, rfl⟩)
      simp only [St.ev, List.getD_eq_getElem?_getD]; rw [Vp1 hg hil this]
     | _ => rfl
    have runs : ∀ {cr : List Prop} {v2 : List VB}, dRun3 P opl st (masks opl []) (frD opl st S.fr (fun _ => true) i) (S.bx, S.gn) i o s = some (cr, v2, v2) -> All cr -> o.wp P a w (wpAny P .any ops (lift Q G0 w0) fuel (listed.setIfInBounds i true)) (lift Q G0 w0) := by
     intro cr v2 hdr hcr; obtain ⟨cd, hcd, hbx⟩ := cand_mem (b0 := (S.bx, S.gn)) hg hil; unfold dRun3 at hdr
     split at hdr
     ·rename_i p hp; obtain ⟨g1, g2, g3, g4⟩ := Voe hal hst hp
      have hbp : Vof P o = some p := by simpa [alAt, h2] using hp
      have hce : bxD st (S.bx, S.gn) (fun k => listed.getD k false) opl.length = Vcm st (S.bx, S.gn) (Vcf st i) := by
       have hu : ∀ k, i < k -> (Vat st k).isSome = true -> listed.getD k false = false := by
        intro k hk hs; obtain ⟨b, hb⟩ := Zi.1 hs; exact (Vj4 hg (g3 k b hb).1).2 hk
       rw [bx_upto hg.un hu opl.length (by omega)]; refine Vfb i (fun k hk hs => ?_); obtain ⟨b, hb⟩ := Zi.1 hs; exact (Vj4 hg (g3 k b hb).1).1 hk
      unfold runAt at hdr
      split at hdr
      ·rename_i cs' v bx' gn' hr1; simp only [Za, Zb] at hdr; obtain ⟨rfl, e1, e2⟩ := hdr; rw [<- e2] at e1; simp only [Zq, Zb, and_true] at e1; obtain ⟨rfl, rfl, rfl⟩ := e1
       have hdst : o.dst = some p.1 := by
        unfold Vof at hbp
        split at hbp
        ·rename_i hd
         split at hbp
         ·simp only [Za] at hbp; subst hbp; exact hd
         ·simp at hbp
        ·simp at hbp
       have hia : Vcg o.op = true := by
        unfold Vof at hbp
        split at hbp
        ·rename_i ho hd; rw [ho]; rfl
        ·simp at hbp
       obtain ⟨_, _, q3⟩ := alloc_more (fr' := frD opl st S.fr (fun k => listed.getD k false) opl.length) (ex := exs P opl st (fun k => listed.getD k false) opl.length) hbp hr1 (Vl5 hao hg.un hg.up hia p.1 hdst _ (Zr _)) (by
        intro q hq; obtain ⟨k, k1, k2, k3, k4⟩ := Vi1 hq
        have hki : k ≠ i := by intro e; subst e; rw [hg.un] at k2; simp at k2
        refine ⟨g4 k q k3 hki, ?_⟩
        have : ∃ ok, Vof P ok = some q := by
         unfold alAt at k3; cases hk : opl[k]? with
         | none => rw [hk] at k3; simp at k3
         | some ok => rw [hk] at k3; exact ⟨ok, by simpa using k3⟩
        obtain ⟨ok, hok⟩ := this
        exact alBox_zero hok p.1)
       have hr' := hr; rw [hce] at hr'; refine Vdp q3 hcr hr' (fun G' a' w' k1 k2 k3 => next G' w' a' k1 k3 ?_); rw [putE] at k2; rw [show s.out = none by rw [<- hout]; exact g1, hce]; refine ⟨k2.wf, k2.size, k2.fr, fun q hq => k2.bx q ?_, k2.gn, k2.defers⟩; simp only [Option.getD_none, Zt, Zo] at hq ⊢; rcases hq with hq | hq
       ·rcases exs_al hp _ q hq with h | h | ⟨e, e1, e2, e3, e4⟩
        ·exact .inl h
        ·exact .inr (.inl h)
        ·obtain ⟨b, hb⟩ := Zi.1 e3
         have := (Vj4 hg (g3 e b hb).1).2 e1; rw [this] at e4; simp at e4
       ·exact .inr (.inr hq)
      ·simp at hdr
     ·rename_i hna
      split at hdr
      ·rename_i b hb
       have hoi : (Vat st i).isSome = true := by rw [hout, hb]; rfl
       have hordE : ∀ k, (Vat st k).isSome = true -> (k < i -> listed.getD k false = true) /\ (i < k -> listed.getD k false = false) := fun k hk => hg.eff k hoi hk
       have hordA : ∀ k, (alAt P opl k).isSome = true -> (k < i -> listed.getD k false = true) /\ (i < k -> listed.getD k false = false) := by
        intro k hk; obtain ⟨p, hp⟩ := Zi.1 hk; obtain ⟨b', hb'⟩ := Zi.1 hoi; obtain ⟨_, _, g3, _⟩ := Voe hal hst hp; exact Vj4 hg (by rw [Vph]; exact (g3 i b' hb').1)
       have hce : bxD st (S.bx, S.gn) (fun k => listed.getD k false) opl.length = Vcm st (S.bx, S.gn) (Vcf st i) := by
        rw [bx_upto hg.un (fun k hk hs => (hordE k hs).2 hk) opl.length (by omega)]; exact Vfb i (fun k hk hs => (hordE k hs).1 hk)
       have hxe : exs P opl st (fun k => listed.getD k false) opl.length = exs P opl st (fun _ => true) i := by
        rw [exs_upto (i := i) (fun k hk hs => ?_) opl.length (by omega)]
        ·exact Vj6 (fun k hk hs => by rcases hs with hs | hs; exact (hordE k hs).1 hk; exact (hordA k hs).1 hk)
        ·rcases Zc i k with hlt | hge
         ·rcases hs with hs | hs
          ·exact (hordE k hs).2 hlt
          ·exact (hordA k hs).2 hlt
         ·have : k = i := by omega
          subst this; exact hg.un
       unfold runAt at hdr
       split at hdr
       ·rename_i cs' v bx' gn' hr1; simp only [Za, Zb] at hdr; obtain ⟨rfl, e1, e2⟩ := hdr; rw [<- e2] at e1; simp only [Zq, Zb, and_true] at e1; obtain ⟨rfl, e1⟩ := e1
        have q3 := Vm5 (fr' := frD opl st S.fr (fun k => listed.getD k false) opl.length) (fun x hx => local_ x hx _ _) (fun ha id hid => Vl5 hao hg.un hg.up ha id hid _ (Zr _)) hr1
        have hr' := hr; rw [hce, hxe] at hr'; refine Vdp q3 hcr hr' (fun G' a' w' k1 k2 k3 => next G' w' a' k1 k3 ?_); rw [putE] at k2; rw [hb, exs_eff hoi (fun k hk hs => by rcases hs with hs | hs; exact (hordE k hs).2 hk; exact (hordA k hs).2 hk) _ hil, List.nil_append]; simp only [Option.getD_some]; rw [<- e1]; exact k2
       ·simp at hdr
      ·rename_i hb
       split at hdr
       ·rename_i hsq; simp only [Zu, Ze] at hsq; obtain ⟨c', g1, g2⟩ := Vqc _ _ _ _ hdr hcr rfl; obtain ⟨cs', q1, q2⟩ := Vqb g1 g2 cd hcd; rw [<- hbx] at q1
        have q3 := Vm5 (fr' := frD opl st S.fr (fun k => listed.getD k false) opl.length) (fun x hx => local_ x hx _ _) (fun ha id hid => Vl5 hao hg.un hg.up ha id hid _ (Zr _)) q1; rcases hsq with (hsq | hsq) | hsq
        ·have q4 := (runV_more (Vq2 hal hst) hsq.1 hsq.2 q3).2.2; refine Vdp q4 q2 hr (fun G' a' w' k1 k2 k3 => next G' w' a' k1 k3 ?_); rw [putE] at k2; rw [pureN hna (by rw [hout, hb]), hb]; exact k2
        ·have q4 := (runV_moreA (ex := exs P opl st (fun k => listed.getD k false) opl.length) hsq q3).2.2; refine Vdp q4 q2 hr (fun G' a' w' k1 k2 k3 => next G' w' a' k1 k3 ?_); rw [putE] at k2; rw [pureN hna (by rw [hout, hb]), hb]; exact k2
        ·rw [hb] at q3
         have q4 := runV_moreC (Vq2 hal hst) hsq.1 (fun p hp => by
          obtain ⟨k, hk, _, hka, _⟩ := Vi1 hp
          have := Zk.1 hsq.2 k (Zp.2 hk); rw [hka] at this
          simpa using this) q3
         refine Vdp q4 q2 hr (fun G' a' w' k1 k2 k3 => next G' w' a' k1 k3 ?_); rw [putE] at k2; rw [pureN hna (by rw [hout, hb]), hb]; exact k2
       ·simp at hdr
    unfold wpOp; rw [hget i, h2]; simp only; cases hgd : o.guard with
    | none =>
     rw [if_pos (by simp [Region.wanted, hgd])]; simp only [hgd] at hdo; exact .inl (runs hdo hca)
    | some gw =>
     obtain ⟨j, want⟩ := gw; simp only [hgd] at hdo
     have slot : ∀ sv, ((Vdx opl j).bind fun t => (frD opl st S.fr (fun _ => true) i)[t]?) = some sv -> ∃ t u, (ops[j]?).bind (·.dst) = some t /\ a.tmps[t]? = some u /\ RepS G w sv u := by
      intro sv hsv; cases hdj : Vdx opl j with
      | none => simp [hdj] at hsv
      | some t =>
       simp only [hdj, Zn] at hsv; rw [<- Vp1 hg hil (by simp [looks, hgd, hdj])] at hsv
       have hrf := hr.fr t sv hsv
       have hlt : t < a.tmps.size := by
        rw [<- hr.size]; rcases Zc t (frD opl st S.fr (fun k => listed.getD k false) opl.length).length with h' | h'
        ·exact h'
        ·simp only [Zf h'] at hsv; simp at hsv
       refine ⟨t, a.tmps[t], ?_, by simp [hlt], ?_⟩
       ·rw [hget j]; exact hdj
       ·simpa [Zl, hlt] using hrf
     have Vgm : RepS G w Vaj undef := by
      simp only [Vaj, RepS, Rep]; exact ⟨#[], rfl, by simp [RepL]⟩
     have skip : Region.wanted o (yielded ops a.tmps) = false -> s.v = Vaj -> s.out = none -> alAt P opl i = none -> (if Region.wanted o (yielded ops a.tmps) = true then o.wp P a w (wpAny P .any ops (lift Q G0 w0) fuel (listed.setIfInBounds i true)) (lift Q G0 w0) \/ o.asks P a w /\ LetsOut (lift Q G0 w0) else wpAny P .any ops (lift Q G0 w0) fuel (listed.setIfInBounds i true) (a.put o.dst undef) w) := by
      intro hw hv ho hna; rw [hw]; simp only [Zg, if_false]; refine next G w _ (Step.refl G w) (fun _ _ => rfl) ?_
      rw [pureN hna (by rw [hout, ho]), ho]
      have := hr.put o.dst Vgm; rw [<- hv, putE] at this; exact this
     cases hgo : guardOk ((Vdx opl j).bind fun t => (frD opl st S.fr (fun _ => true) i)[t]?) want s.gd with
     | none => simp [hgo] at hdo
     | some pr =>
      obtain ⟨gcs, wn⟩ := pr; rw [hgo] at hdo; generalize hsv : ((Vdx opl j).bind fun t => (frD opl st S.fr (fun _ => true) i)[t]?) = osv at hgo slot; unfold guardOk at hgo
      split at hgo
      ·rename_i hgd2; simp only [Za, Zb] at hgo; obtain ⟨rfl, rfl⟩ := hgo; obtain ⟨t, u, e1, e2, e3⟩ := slot _ rfl; simp only [RepS, Rep] at e3; obtain ⟨us, rfl, _⟩ := e3; simp only at hdo
       split at hdo
       ·rename_i hno hna; simp only [Za, Zb] at hdo; obtain ⟨rfl, e4, e5⟩ := hdo; rw [<- e5] at e4; simp only [Zq, Zb, and_true] at e4; exact skip (by simp only [Region.wanted, hgd, yielded, e1, Zn, e2]; rfl) e4 hno hna
       ·simp at hdo
      ·rename_i b d hgd2; simp only [Za, Zb] at hgo; obtain ⟨rfl, rfl⟩ := hgo; obtain ⟨t, u, e1, e2, e3⟩ := slot _ rfl; simp only [RepS, Rep] at e3; obtain ⟨rfl, _⟩ := e3; cases hdw : (d == want) with
       | true =>
        simp only [hdw] at hdo; cases hdr : dRun3 P opl st (masks opl []) (frD opl st S.fr (fun _ => true) i) (S.bx, S.gn) i o s with
        | none => simp [hdr] at hdo
        | some cr =>
         obtain ⟨cr, v1, v2⟩ := cr; simp only [hdr, Za, Zb] at hdo; obtain ⟨rfl, e4, e5⟩ := hdo; rw [e4, e5] at hdr; obtain ⟨hb, hcr⟩ := hca; subst hb; rw [if_pos (by simp only [Region.wanted, hgd, yielded, e1, Zn, e2]; simpa using hdw)]; exact .inl (runs hdr hcr)
       | false =>
        simp only [hdw] at hdo
        split at hdo
        ·rename_i hno hna; simp only [Za, Zb] at hdo; obtain ⟨rfl, e4, e5⟩ := hdo; rw [<- e5] at e4; simp only [Zq, Zb, and_true] at e4; obtain ⟨hb, _⟩ := hca; subst hb; exact skip (by simp only [Region.wanted, hgd, yielded, e1, Zn, e2]; simpa using hdw) e4 hno hna
        ·simp at hdo
      ·simp at hgo
 refine main ops.size (Array.replicate ops.size false) G0 _ a0 (by simp) ?_ ?_ ?_ hstep0 (fun _ _ => rfl)
 ·have : ∀ (L : Nat -> Bool) m, left L m <= m := by
   intro L m
   induction m with
   | zero => simp [left]
   | succ m ih => simp only [left]; split <;> omega
  rw [hn]; exact this _ _
 ·intro k ok hk hL; simp only [Zl, Array.getElem?_replicate] at hL
  split at hL <;> simp at hL
 ·have hf : (fun k => (Array.replicate ops.size false).getD k false) = fun _ => false := by
   funext k; simp only [Zl, Array.getElem?_replicate]; split <;> rfl
  rw [hf]
  have e1 : ∀ m, frD opl st S.fr (fun _ => false) m = S.fr := by
   intro m; induction m with
   | zero => rfl
   | succ m ih => simp [frD, ih]
  have e2 : ∀ m, bxD st (S.bx, S.gn) (fun _ => false) m = (S.bx, S.gn) := by
   intro m; induction m with
   | zero => rfl
   | succ m ih => simp [bxD, ih]
  have e3 : ∀ m, exs P opl st (fun _ => false) m = [] := by
   intro m; induction m with
   | zero => rfl
   | succ m ih => simp [exs, ih]
  rw [e1, e2, e3]; exact hr0'
def mkDS3 (P : Program) (ds : List (Option Tmp)) : List Oper -> List Oq -> St -> Option (List DS × List Oq)
 | [], ors, _ => some ([], ors)
 | o :: rest, ors, S => match (match o.guard with
   | none => some (ors, none, true)
   | some (j, want) => match Vcc ds S j with
    | some (.av (.tup [])) => some (ors, none, false)
    | some (.av (.val (.bool _))) => match ors with
     | .o (.b d) :: ors => some (ors, some d, d == want)
     | _ => none
    | _ => none : Option (List Oq × Option Bool × Bool)) with
  | none => none
  | some (ors, gd, false) => match mkDS3 P ds rest ors (S.put o.dst Vaj) with
   | some (l, r) => some (⟨[], gd, Vaj, none⟩ :: l, r)
   | none => none
  | some (ors, gd, true) => match oneV P o ors S with
   | none => none
   | some (us, ors1, v, bx, gn) => match (still o.op && Vjv us) || Vn9 o.op v || readC us with
    | true => match mkDS3 P ds rest ors1 (S.put o.dst v) with
     | some (l, r) => some (⟨us, gd, v, none⟩ :: l, r)
     | none => none
    | false => match mkDS3 P ds rest ors1 ((⟨S.fr, bx, gn⟩ : St).put o.dst v) with
     | some (l, r) => some (⟨us, gd, v, match Vcg o.op with | true => none | false => some (bx, gn)⟩ :: l, r)
     | none => none
def Vfi (P : Program) (X : Cf) (ors : List Oq) : Option DrawR := match X with
 | some (_, _, .at (.region _ ops true) ks S) => match mkDS3 P (ops.toList.map (·.dst)) ops.toList ors S with
  | some (st, rest) => some ⟨ops.toList, st, S.fr, (S.bx, S.gn), ks, rest⟩
  | none => none
 | _ => none
def Vq9 (P : Program) (d : Option DrawR) : Option (List Prop × List VB × List VB) := match d with
 | some d => match (d.st.length == d.ops.length) && Vkm d.ops d.st (masks d.ops []) && alSt P d.ops d.st (masks d.ops []) d.b0 with
  | true => Vqg P d.ops d.st (masks d.ops []) d.f0 d.b0 d.ops.length
  | false => none
 | none => none
def drawX3 (P : Program) (d : Option DrawR) (cs : List Prop) : Cf := match d with
 | some d => goK P d.ks (some (cs, d.rest, .fin .normal ⟨frD d.ops d.st d.f0 (fun _ => true) d.ops.length, exs P d.ops d.st (fun _ => true) d.ops.length ++ (bxD d.st d.b0 (fun _ => true) d.ops.length).1, (bxD d.st d.b0 (fun _ => true) d.ops.length).2⟩))
 | none => none
def Vo6 (P : Program) (d : Option DrawR) : List Prop := match Vq9 P d with
 | some (cs, _) => cs
 | none => [False]
def drawL3 (P : Program) (d : Option DrawR) : List VB := match Vq9 P d with
 | some (_, x, _) => x
 | none => []
def drawRt3 (P : Program) (d : Option DrawR) : Option (List VB) := match Vq9 P d with
 | some (_, _, y) => some y
 | none => none
theorem DR3 {P : Program} {α : Type} {K : α -> Exit -> St -> Prop} {M : α} {X : Cf} (oc : OC) (hm : P.follows .mixedOrders = true) (h : csOf (drawX3 P (Vfi P X oc.o) (Vo6 P (Vfi P X oc.o))) = some oc.c) (he : drawRt3 P (Vfi P X oc.o) = some (drawL3 P (Vfi P X oc.o))) (hn : Nx P K M (drawX3 P (Vfi P X oc.o) (Vo6 P (Vfi P X oc.o)))) : Nx P K M X := by
 obtain ⟨hn⟩ := hn; cases hd : Vfi P X oc.o with
 | none => rw [hd] at h; simp [drawX3, csOf] at h
 | some d =>
  rw [hd] at h he hn; unfold Vfi at hd
  split at hd
  ·rename_i c0 o0 i ops ks S
   split at hd
   ·rename_i st rest hmk; simp only [Za] at hd; subst hd; cases hC : Vq9 P (some ⟨ops.toList, st, S.fr, (S.bx, S.gn), ks, rest⟩) with
    | none => unfold drawRt3 at he; rw [hC] at he; simp at he
    | some q =>
     obtain ⟨cs, x, y⟩ := q
     have exy : y = x := by unfold drawRt3 drawL3 at he; rw [hC] at he; simpa using he
     have ecs : Vo6 P (some ⟨ops.toList, st, S.fr, (S.bx, S.gn), ks, rest⟩) = cs := by unfold Vo6; rw [hC]
     rw [ecs] at h hn; unfold Vq9 at hC; simp only at hC
     split at hC
     ·rename_i hst; simp only [Ze, beq_iff_eq] at hst; unfold drawX3 at h hn; simp only at h hn; cases hk : goK P ks (some (cs, rest, .fin .normal ⟨frD ops.toList st S.fr (fun _ => true) ops.toList.length, exs P ops.toList st (fun _ => true) ops.toList.length ++ (bxD st (S.bx, S.gn) (fun _ => true) ops.toList.length).1, (bxD st (S.bx, S.gn) (fun _ => true) ops.toList.length).2⟩)) with
      | none => rw [hk] at h; simp [csOf] at h
      | some r =>
       obtain ⟨c2, o2, out2⟩ := r; rw [hk] at h hn; unfold csOf at h
       split at h
       ·rename_i e2; simp only [Za, Zb] at e2 h; obtain ⟨rfl, rfl, rfl⟩ := e2; subst h; obtain ⟨q1, q2⟩ := Vai (K M) ks _ _ _ _ _ _ hk (oc.h trivial) hn; subst exy; exact ⟨W_draw2 st hm hst.1.1 hst.1.2 hst.2 hC q1 q2⟩
       ·simp at h
     ·simp at hC
   ·simp at hd
  ·simp at hd
end Go.Eng
namespace Go.Eng
theorem ib (s : ByteArray) (i : Int) (h : 0 <= i /\ i < ((Zh s : Nat) : Int)) : 0 <= i /\ i < ((Zh s : Nat) : Int) := h
end Go.Eng
namespace Go.Proofs.YtnpedjbgchdkbaaGreatDoor
open Go Go.Eng
def el {α : Type} [Inhabited α] (l : List α) (i : Nat) : α := (l[i]?).getD default
def lenM {α : Type} (f : α -> AV) (l : List α) : Nat := (l.map f).length
theorem Va2 {α : Type} (f : α -> AV) (l : List α) : lenM f l = l.length := by simp [lenM]
theorem el_some {α : Type} [Inhabited α] {l : List α} {i : Nat} (h : i < l.length) : l[i]? = some (el l i) := by simp [el, h]
theorem Vff {α : Type} [Inhabited α] {l : List α} {i : Nat} (h : i < l.length) : el l i ∈ l := List.mem_of_getElem? (el_some h)
theorem elx {α : Type} [Inhabited α] {f : α -> AV} {l : List AV} {xs : List α} {i : Nat} {y : AV} (e : l = xs.map f) (h : i < xs.length) (hy : f (el xs i) = y) : 0 <= ((i : Nat) : Int) /\ l[i]? = some y := by
 subst e hy; exact ⟨by omega, by simp [el_some h]⟩
theorem elxI {α : Type} [Inhabited α] {f : α -> AV} {l : List AV} {xs : List α} {i : Int} {y : AV} (e : l = xs.map f) (h0 : 0 <= i) (h : i < (xs.length : Int)) (hy : f (el xs i.toNat) = y) : 0 <= i /\ l[i.toNat]? = some y := by
  subst e hy; exact ⟨h0, by have : i.toNat < xs.length := by omega
                            simp [el_some this]⟩
def w1 {α : Type} (_ : α) : Nat := 1
def wStr (s : ByteArray) : Nat := s.size + 1
def wl {α : Type} (w : α -> Nat) : List α -> Nat
 | [] => 0
 | x :: l => w x + wl w l
theorem wl_mem {α : Type} {w : α -> Nat} : ∀ {l : List α} {x : α}, x ∈ l -> w x <= wl w l
 | y :: l, x, h => by
  simp only [Zo] at h; rcases h with rfl | h
  ·simp [wl]
  ·have := wl_mem (w := w) h; simp [wl]; omega
theorem wl_el {α : Type} [Inhabited α] {w : α -> Nat} {l : List α} {i : Nat} (h : i < l.length) : w (el l i) <= wl w l := wl_mem (Vff h)
theorem Vco {α : Type} {w : α -> Nat} (hw : ∀ x, 1 <= w x) : ∀ l : List α, l.length <= wl w l
 | [] => by simp
 | x :: l => by have := Vco hw l; have := hw x; simp [wl]; omega
def quo (k : IntKind) (a b : Int) : Int := k.wrap (a.tdiv b)
theorem el_strAV (xs : List ByteArray) (i : Nat) (h : i < xs.length) : 0 <= ((i : Nat) : Int) /\ (xs.map Vah)[i]? = some (Vah (el xs i)) := elx rfl h rfl
theorem byt_lt (s : ByteArray) (i : Nat) : byt s i < 256 := by
 unfold byt; exact UInt8.toNat_lt _
theorem wrap_byt (s : ByteArray) (i : Nat) : IntKind.i64.wrap ((byt s i : Nat) : Int) = ((byt s i : Nat) : Int) := wrap_i64 (by omega) (by have := byt_lt s i; omega)
theorem ap1 {α : Type} (f : α -> AV) (xs : List α) (y : α) : xs.map f ++ [f y] = (xs ++ [y]).map f := by simp
theorem Vgl (s : ByteArray) : 1 <= wStr s := by simp [wStr]
structure DPair where
 fKey : ByteArray
 fValue : ByteArray
instance : Inhabited DPair := ⟨⟨⟨#[]⟩, ⟨#[]⟩⟩⟩
def Vb4 (x : DPair) : AV := .agg [(vS x.fKey), (vS x.fValue)]
def wPair (x : DPair) : Nat := 1 + wStr x.fKey + wStr x.fValue
theorem aPair_eq (x : DPair) : Vb4 x = .agg [(vS x.fKey), (vS x.fValue)] := rfl
theorem wPair_eq (x : DPair) : wPair x = 1 + wStr x.fKey + wStr x.fValue := rfl
theorem el_aPair (xs : List DPair) (i : Nat) (h : i < xs.length) : 0 <= ((i : Nat) : Int) /\ (xs.map Vb4)[i]? = some (Vb4 (el xs i)) := elx rfl h rfl
theorem uni_aPair (l : List DPair) : Uni 2 (l.map Vb4) := by intro y hy; simp only [Zy] at hy; obtain ⟨x, _, rfl⟩ := hy; rw [aPair_eq]; exact ⟨rfl, rfl⟩
theorem Vja (x : DPair) : 1 <= wPair x := by rw [wPair_eq]; omega
structure DAttr where
 fID : ByteArray
 fClasses : List ByteArray
 fPairs : List DPair
instance : Inhabited DAttr := ⟨⟨⟨#[]⟩, [], []⟩⟩
def Vg0 (x : DAttr) : Nat := 1 + wStr x.fID + (wl wStr) x.fClasses + (wl wPair) x.fPairs
theorem Vmz (x : DAttr) : Vg0 x = 1 + wStr x.fID + (wl wStr) x.fClasses + (wl wPair) x.fPairs := rfl
def cAttr (x : DAttr) : AV := .agg [(vS x.fID), (.sl ((x.fClasses).map Vah)), (.sl ((x.fPairs).map Vb4))]
structure DCited where
 fKey : ByteArray
 fPrefix : ByteArray
 fSuffix : ByteArray
 fBare : Bool
instance : Inhabited DCited := ⟨⟨⟨#[]⟩, ⟨#[]⟩, ⟨#[]⟩, false⟩⟩
def Van (x : DCited) : AV := .agg [(vS x.fKey), (vS x.fPrefix), (vS x.fSuffix), (vB x.fBare)]
def Vjd (x : DCited) : Nat := 1 + wStr x.fKey + wStr x.fPrefix + wStr x.fSuffix + w1 x.fBare
theorem aCited_eq (x : DCited) : Van x = .agg [(vS x.fKey), (vS x.fPrefix), (vS x.fSuffix), (vB x.fBare)] := rfl
theorem wCited_eq (x : DCited) : Vjd x = 1 + wStr x.fKey + wStr x.fPrefix + wStr x.fSuffix + w1 x.fBare := rfl
def cCited (x : DCited) : AV := .agg [(vS x.fKey), (vS x.fPrefix), (vS x.fSuffix), (vB x.fBare)]
theorem Vq4 (xs : List DCited) (i : Nat) (h : i < xs.length) : 0 <= ((i : Nat) : Int) /\ (xs.map Van)[i]? = some (Van (el xs i)) := elx rfl h rfl
theorem uni_aCited (l : List DCited) : Uni 4 (l.map Van) := by intro y hy; simp only [Zy] at hy; obtain ⟨x, _, rfl⟩ := hy; rw [aCited_eq]; exact ⟨rfl, rfl⟩
theorem Vlx (x : DCited) : 1 <= Vjd x := by rw [wCited_eq]; omega
structure DInline where
 fKind : Int
 fText : ByteArray
 fDest : ByteArray
 fTitle : ByteArray
 fAttr : DAttr
 fArgs : List ByteArray
 fCites : List DCited
 fKids : List DInline
instance : Inhabited DInline := ⟨⟨0, ⟨#[]⟩, ⟨#[]⟩, ⟨#[]⟩, ⟨⟨#[]⟩, [], []⟩, [], [], []⟩⟩
mutual
def Va1 : DInline -> AV
 | ⟨y0, y1, y2, y3, y4, y5, y6, y7⟩ => .agg [(vI y0), (vS y1), (vS y2), (vS y3), (vS ((y4).fID)), (.sl (((y4).fClasses).map Vah)), (.sl (((y4).fPairs).map Vb4)), (.sl ((y5).map Vah)), (.sl ((y6).map Van)), (.sl (Vj8 y7))]
def Vj8 : List DInline -> List AV
 | [] => []
 | x :: l => Va1 x :: Vj8 l
end
mutual
def Var : DInline -> Nat
 | ⟨y0, y1, y2, y3, y4, y5, y6, y7⟩ => 1 + w1 y0 + wStr y1 + wStr y2 + wStr y3 + Vg0 y4 + (wl wStr) y5 + (wl Vjd) y6 + Vix y7
def Vix : List DInline -> Nat
 | [] => 0
 | x :: l => Var x + Vix l
end
theorem Vik : ∀ l, Vj8 l = l.map Va1
 | [] => rfl
 | x :: l => by rw [Vj8, Vik l]; rfl
theorem Vjb : ∀ l, Vix l = wl Var l
 | [] => rfl
 | x :: l => by rw [Vix, Vjb l]; rfl
theorem Vb3 (x : DInline) : Va1 x = .agg [(vI x.fKind), (vS x.fText), (vS x.fDest), (vS x.fTitle), (vS ((x.fAttr).fID)), (.sl (((x.fAttr).fClasses).map Vah)), (.sl (((x.fAttr).fPairs).map Vb4)), (.sl ((x.fArgs).map Vah)), (.sl ((x.fCites).map Van)), (.sl ((x.fKids).map Va1))] := by cases x; rw [Va1, Vik]
theorem Vdm (x : DInline) : Var x = 1 + w1 x.fKind + wStr x.fText + wStr x.fDest + wStr x.fTitle + Vg0 x.fAttr + (wl wStr) x.fArgs + (wl Vjd) x.fCites + (wl Var) x.fKids := by cases x; rw [Var, Vjb]
def Va8 (x : DInline) : AV := .agg [(vI x.fKind), (vS x.fText), (vS x.fDest), (vS x.fTitle), (vS ((x.fAttr).fID)), (.sl (((x.fAttr).fClasses).map Vah)), (.sl (((x.fAttr).fPairs).map Vb4)), (.sl ((x.fArgs).map Vah)), (.sl ((x.fCites).map Van)), (.sl ((x.fKids).map Va1))]
def Vcq (x : DInline) : List SV := [(jI x.fKind), (jS x.fText), (jS x.fDest), (jS x.fTitle), (jS ((x.fAttr).fID)), (jL (((x.fAttr).fClasses).map Vah)), (jL (((x.fAttr).fPairs).map Vb4)), (jL ((x.fArgs).map Vah)), (jL ((x.fCites).map Van)), (jL ((x.fKids).map Va1))]
theorem Vb2 (xs : List DInline) (i : Nat) (h : i < xs.length) : 0 <= ((i : Nat) : Int) /\ (xs.map Va1)[i]? = some (Va8 (el xs i)) := elx rfl h (Vb3 _)
theorem elI_aInline (xs : List DInline) (i : Int) (h0 : 0 <= i) (h : i < (xs.length : Int)) : 0 <= i /\ (xs.map Va1)[i.toNat]? = some (Va8 (el xs i.toNat)) := elxI rfl h0 h (Vb3 _)
theorem ap1_aInline (xs : List DInline) (y : DInline) : xs.map Va1 ++ [Va8 y] = (xs ++ [y]).map Va1 := by simp [Vb3 y, Va8]
theorem Vjc (x : DInline) : 1 <= Var x := by rw [Vdm]; omega
structure DBlock where
 fKind : Int
 fLevel : Int
 fInfo : ByteArray
 fText : ByteArray
 fDest : ByteArray
 fTitle : ByteArray
 fAttr : DAttr
 fLine : List DInline
 fKids : List DBlock
instance : Inhabited DBlock := ⟨⟨0, 0, ⟨#[]⟩, ⟨#[]⟩, ⟨#[]⟩, ⟨#[]⟩, ⟨⟨#[]⟩, [], []⟩, [], []⟩⟩
mutual
def Vae : DBlock -> AV
 | ⟨y0, y1, y2, y3, y4, y5, y6, y7, y8⟩ => .agg [(vI y0), (vI y1), (vS y2), (vS y3), (vS y4), (vS y5), (vS ((y6).fID)), (.sl (((y6).fClasses).map Vah)), (.sl (((y6).fPairs).map Vb4)), (.sl ((y7).map Va1)), (.sl (Voh y8))]
def Voh : List DBlock -> List AV
 | [] => []
 | x :: l => Vae x :: Voh l
end
mutual
def Vax : DBlock -> Nat
 | ⟨y0, y1, y2, y3, y4, y5, y6, y7, y8⟩ => 1 + w1 y0 + w1 y1 + wStr y2 + wStr y3 + wStr y4 + wStr y5 + Vg0 y6 + (wl Var) y7 + Vmy y8
def Vmy : List DBlock -> Nat
 | [] => 0
 | x :: l => Vax x + Vmy l
end
theorem Vlb : ∀ l, Voh l = l.map Vae
 | [] => rfl
 | x :: l => by rw [Voh, Vlb l]; rfl
theorem Vly : ∀ l, Vmy l = wl Vax l
 | [] => rfl
 | x :: l => by rw [Vmy, Vly l]; rfl
theorem Vd2 (x : DBlock) : Vae x = .agg [(vI x.fKind), (vI x.fLevel), (vS x.fInfo), (vS x.fText), (vS x.fDest), (vS x.fTitle), (vS ((x.fAttr).fID)), (.sl (((x.fAttr).fClasses).map Vah)), (.sl (((x.fAttr).fPairs).map Vb4)), (.sl ((x.fLine).map Va1)), (.sl ((x.fKids).map Vae))] := by cases x; rw [Vae, Vlb]
theorem Vex (x : DBlock) : Vax x = 1 + w1 x.fKind + w1 x.fLevel + wStr x.fInfo + wStr x.fText + wStr x.fDest + wStr x.fTitle + Vg0 x.fAttr + (wl Var) x.fLine + (wl Vax) x.fKids := by cases x; rw [Vax, Vly]
def Vev (x : DBlock) : AV := .agg [(vI x.fKind), (vI x.fLevel), (vS x.fInfo), (vS x.fText), (vS x.fDest), (vS x.fTitle), (vS ((x.fAttr).fID)), (.sl (((x.fAttr).fClasses).map Vah)), (.sl (((x.fAttr).fPairs).map Vb4)), (.sl ((x.fLine).map Va1)), (.sl ((x.fKids).map Vae))]
theorem Vkk (xs : List DBlock) (i : Nat) (h : i < xs.length) : 0 <= ((i : Nat) : Int) /\ (xs.map Vae)[i]? = some (Vev (el xs i)) := elx rfl h (Vd2 _)
theorem Vmi (xs : List DBlock) (i : Int) (h0 : 0 <= i) (h : i < (xs.length : Int)) : 0 <= i /\ (xs.map Vae)[i.toNat]? = some (Vev (el xs i.toNat)) := elxI rfl h0 h (Vd2 _)
theorem Vlz (x : DBlock) : 1 <= Vax x := by rw [Vex]; omega
structure DDoc where
 fMeta : List DPair
 fBlocks : List DBlock
instance : Inhabited DDoc := ⟨⟨[], []⟩⟩
structure DPiece where
 fKind : Int
 fInline : DInline
 fChar : ByteArray
 fN : Int
 fOpen : Bool
 fClose : Bool
 fImage : Bool
 fAt : Int
 fTo : Int
instance : Inhabited DPiece := ⟨⟨0, ⟨0, ⟨#[]⟩, ⟨#[]⟩, ⟨#[]⟩, ⟨⟨#[]⟩, [], []⟩, [], [], []⟩, ⟨#[]⟩, 0, false, false, false, 0, 0⟩⟩
def Vay (x : DPiece) : AV := .agg [(vI x.fKind), (vI ((x.fInline).fKind)), (vS ((x.fInline).fText)), (vS ((x.fInline).fDest)), (vS ((x.fInline).fTitle)), (vS (((x.fInline).fAttr).fID)), (.sl ((((x.fInline).fAttr).fClasses).map Vah)), (.sl ((((x.fInline).fAttr).fPairs).map Vb4)), (.sl (((x.fInline).fArgs).map Vah)), (.sl (((x.fInline).fCites).map Van)), (.sl (((x.fInline).fKids).map Va1)), (vS x.fChar), (vI x.fN), (vB x.fOpen), (vB x.fClose), (vB x.fImage), (vI x.fAt), (vI x.fTo)]
theorem Vqu (x : DPiece) : Vay x = .agg [(vI x.fKind), (vI ((x.fInline).fKind)), (vS ((x.fInline).fText)), (vS ((x.fInline).fDest)), (vS ((x.fInline).fTitle)), (vS (((x.fInline).fAttr).fID)), (.sl ((((x.fInline).fAttr).fClasses).map Vah)), (.sl ((((x.fInline).fAttr).fPairs).map Vb4)), (.sl (((x.fInline).fArgs).map Vah)), (.sl (((x.fInline).fCites).map Van)), (.sl (((x.fInline).fKids).map Va1)), (vS x.fChar), (vI x.fN), (vB x.fOpen), (vB x.fClose), (vB x.fImage), (vI x.fAt), (vI x.fTo)] := rfl
def Vcd (x : DPiece) : AV := .agg [(vI x.fKind), (vI ((x.fInline).fKind)), (vS ((x.fInline).fText)), (vS ((x.fInline).fDest)), (vS ((x.fInline).fTitle)), (vS (((x.fInline).fAttr).fID)), (.sl ((((x.fInline).fAttr).fClasses).map Vah)), (.sl ((((x.fInline).fAttr).fPairs).map Vb4)), (.sl (((x.fInline).fArgs).map Vah)), (.sl (((x.fInline).fCites).map Van)), (.sl (((x.fInline).fKids).map Va1)), (vS x.fChar), (vI x.fN), (vB x.fOpen), (vB x.fClose), (vB x.fImage), (vI x.fAt), (vI x.fTo)]
theorem Vq3 (xs : List DPiece) (i : Nat) (h : i < xs.length) : 0 <= ((i : Nat) : Int) /\ (xs.map Vay)[i]? = some (Vay (el xs i)) := elx rfl h rfl
structure DElem where
 fkind : Int
 fpiece : DPiece
 fimage : Bool
 freferences : Int
instance : Inhabited DElem := ⟨⟨0, ⟨0, ⟨0, ⟨#[]⟩, ⟨#[]⟩, ⟨#[]⟩, ⟨⟨#[]⟩, [], []⟩, [], [], []⟩, ⟨#[]⟩, 0, false, false, false, 0, 0⟩, false, 0⟩⟩
def Vep (x : DElem) : AV := .agg [(vI x.fkind), (vI ((x.fpiece).fKind)), (vI (((x.fpiece).fInline).fKind)), (vS (((x.fpiece).fInline).fText)), (vS (((x.fpiece).fInline).fDest)), (vS (((x.fpiece).fInline).fTitle)), (vS ((((x.fpiece).fInline).fAttr).fID)), (.sl (((((x.fpiece).fInline).fAttr).fClasses).map Vah)), (.sl (((((x.fpiece).fInline).fAttr).fPairs).map Vb4)), (.sl ((((x.fpiece).fInline).fArgs).map Vah)), (.sl ((((x.fpiece).fInline).fCites).map Van)), (.sl ((((x.fpiece).fInline).fKids).map Va1)), (vS ((x.fpiece).fChar)), (vI ((x.fpiece).fN)), (vB ((x.fpiece).fOpen)), (vB ((x.fpiece).fClose)), (vB ((x.fpiece).fImage)), (vI ((x.fpiece).fAt)), (vI ((x.fpiece).fTo)), (vB x.fimage), (vI x.freferences)]
theorem Vq5 (xs : List DElem) (i : Int) (h0 : 0 <= i) (h : i < (xs.length : Int)) : 0 <= i /\ (xs.map Vep)[i.toNat]? = some (Vep (el xs i.toNat)) := elxI rfl h0 h rfl
structure DEm where
 fin : DInline
 frun : Bool
 fpiece : Int
 fleft : Int
 fbefore : Int
 fnext : Int
instance : Inhabited DEm := ⟨⟨⟨0, ⟨#[]⟩, ⟨#[]⟩, ⟨#[]⟩, ⟨⟨#[]⟩, [], []⟩, [], [], []⟩, false, 0, 0, 0, 0⟩⟩
def aEm (x : DEm) : AV := .agg [(vI ((x.fin).fKind)), (vS ((x.fin).fText)), (vS ((x.fin).fDest)), (vS ((x.fin).fTitle)), (vS (((x.fin).fAttr).fID)), (.sl ((((x.fin).fAttr).fClasses).map Vah)), (.sl ((((x.fin).fAttr).fPairs).map Vb4)), (.sl (((x.fin).fArgs).map Vah)), (.sl (((x.fin).fCites).map Van)), (.sl (((x.fin).fKids).map Va1)), (vB x.frun), (vI x.fpiece), (vI x.fleft), (vI x.fbefore), (vI x.fnext)]
theorem aEm_eq (x : DEm) : aEm x = .agg [(vI ((x.fin).fKind)), (vS ((x.fin).fText)), (vS ((x.fin).fDest)), (vS ((x.fin).fTitle)), (vS (((x.fin).fAttr).fID)), (.sl ((((x.fin).fAttr).fClasses).map Vah)), (.sl ((((x.fin).fAttr).fPairs).map Vb4)), (.sl (((x.fin).fArgs).map Vah)), (.sl (((x.fin).fCites).map Van)), (.sl (((x.fin).fKids).map Va1)), (vB x.frun), (vI x.fpiece), (vI x.fleft), (vI x.fbefore), (vI x.fnext)] := rfl
def cEm (x : DEm) : AV := .agg [(vI ((x.fin).fKind)), (vS ((x.fin).fText)), (vS ((x.fin).fDest)), (vS ((x.fin).fTitle)), (vS (((x.fin).fAttr).fID)), (.sl ((((x.fin).fAttr).fClasses).map Vah)), (.sl ((((x.fin).fAttr).fPairs).map Vb4)), (.sl (((x.fin).fArgs).map Vah)), (.sl (((x.fin).fCites).map Van)), (.sl (((x.fin).fKids).map Va1)), (vB x.frun), (vI x.fpiece), (vI x.fleft), (vI x.fbefore), (vI x.fnext)]
def sEm (x : DEm) : List SV := [(jI ((x.fin).fKind)), (jS ((x.fin).fText)), (jS ((x.fin).fDest)), (jS ((x.fin).fTitle)), (jS (((x.fin).fAttr).fID)), (jL ((((x.fin).fAttr).fClasses).map Vah)), (jL ((((x.fin).fAttr).fPairs).map Vb4)), (jL (((x.fin).fArgs).map Vah)), (jL (((x.fin).fCites).map Van)), (jL (((x.fin).fKids).map Va1)), (jB x.frun), (jI x.fpiece), (jI x.fleft), (jI x.fbefore), (jI x.fnext)]
theorem elI_aEm (xs : List DEm) (i : Int) (h0 : 0 <= i) (h : i < (xs.length : Int)) : 0 <= i /\ (xs.map aEm)[i.toNat]? = some (aEm (el xs i.toNat)) := elxI rfl h0 h rfl
theorem Vbe (s : ByteArray) (i j : Nat) : (ByteArray.extract s i j).size = min j s.size - i := by simp
def letA (b : Int) : Bool := cond (cond (decide ((b : Int) >= 97)) (decide ((b : Int) <= 122)) false) true (cond (decide ((b : Int) >= 65)) (decide ((b : Int) <= 90)) false)
theorem letA_to (b : Int) : CallTo Tryz.prog 59 [(.av (.val (.int .u8 b)))] [] [] (jB (letA b)) [] [] := by
 refine BEG (fun r : Bool => (jB r)) (letA b) Tryz.func59 (by kernel_rfl) ?_; refine UF (letA.eq_1 ..) ?_; refine GO (tn 4 (kj (decide ((b : Int) >= 97)) (tn 2 z) z (tn 1 (kj (cond (decide ((b : Int) >= 97)) (decide ((b : Int) <= 122)) false) z (tn 3 (kj (decide ((b : Int) >= 65)) (tn 2 z) z z)) (tn 1 z))))) (by kernel_rfl) ?_; exact EN (by kernel_rfl)
def inN (b : Int) : Bool := cond (cond ((b : Int) == 45) ((b : Int) == 45) (cond ((b : Int) == 95) ((b : Int) == 95) (cond ((b : Int) == 46) ((b : Int) == 46) ((b : Int) == 58)))) true (cond (letA b) true (cond (decide ((b : Int) >= 48)) (decide ((b : Int) <= 57)) false))
theorem inN_to (b : Int) : CallTo Tryz.prog 77 [(.av (.val (.int .u8 b)))] [] [] (jB (inN b)) [] [] := by
 refine BEG (fun r : Bool => (jB r)) (inN b) Tryz.func77 (by kernel_rfl) ?_; refine UF (inN.eq_1 ..) ?_; refine GO (tn 4 (ks ((b : Int) == 45) [4] z (tn 2 (ks ((b : Int) == 95) [4] z (tn 2 (ks ((b : Int) == 46) [4] z (tn 2 z) z)) z)) z)) (by kernel_rfl) ?_; refine CS (fun h1 => ?_) (fun h1 => ?_)
 ·refine GO (kb h1 (tn 1 z)) (by kernel_rfl) ?_; exact EN (by kernel_rfl)
 ·refine GO (kb h1 (tn 1 (kc (letA_to b) (tn 1 (kj (letA b) z (tn 3 (kj (decide ((b : Int) >= 48)) (tn 2 z) z z)) (tn 1 z)))))) (by kernel_rfl) ?_; exact EN (by kernel_rfl)
def wrdA_L0 (s : ByteArray) (i : Int) : Nat -> Int -> Int
 | 0, _ => default
 | n0 + 1, v1 => cond (cond (decide ((v1 : Int) < ((Zh s : Nat) : Int))) (inN ((byt s (Int.toNat v1) : Nat) : Int)) false) (wrdA_L0 s i n0 (v1 + 1)) v1
def wrdA (s : ByteArray) (i : Int) : Int := wrdA_L0 s i ((s.size - Int.toNat i) + 1) i
theorem wrdA_to (s : ByteArray) (i : Int) (hs : s.size <= 1073741824) (h0 : 0 <= i) (h1 : i <= 1073741833) : CallTo Tryz.prog 60 [(jS s), (jI i)] [] [] (jI (wrdA s i)) [] [] := by
 refine BEG (fun r : Int => (jI r)) (wrdA s i) Tryz.func60 (by kernel_rfl) ?_; refine UF (wrdA.eq_1 ..) ?_; refine GO (tn 1 z) (by kernel_rfl) ?_; refine LP (fun N M S => ∃ v1 : Int, (0 <= v1) /\ (v1 <= 1073741833) /\ (s.size - Int.toNat v1 < N) /\ M = wrdA_L0 s i N v1 /\ S = (sx 18 [(0, (jS s)), (1, (jI v1))] [] [])) (by kernel_rfl) ⟨_, by first | omega | assumption | (simp only [Va2]; omega) | (simp; done) | (simp; omega), by first | omega | assumption | (simp only [Va2]; omega) | (simp; done) | (simp; omega), by omega, rfl, rfl⟩ (WK (by kernel_rfl)) ?_; rintro n0 M S ⟨v1, hv, hb, hF0, rfl, rfl⟩; obtain ⟨n0, rfl⟩ : ∃ k, n0 = k + 1 := ⟨n0 - 1, by omega⟩
 refine UF (wrdA_L0.eq_2 ..) ?_; refine GO (tn 5 (kj (decide ((v1 : Int) < ((Zh s : Nat) : Int))) (tn 2 (hp (fun h => by have j0 := h.2; have j0p := of_decide_eq_true j0; exact (ib s v1 (by omega))) (hc (fun h => by have j0 := h.2; have j0p := of_decide_eq_true j0; exact (inN_to ((byt s (Int.toNat v1) : Nat) : Int))) z))) z z)) (by kernel_rfl) ?_; refine CS (fun h1 => ?_) (fun h1 => ?_)
 ·obtain ⟨h1a, h1o⟩ := Vb8 h1
  have h1ap := of_decide_eq_true h1a; refine GO (kb h1 (tn 1 (kn (wrE (v1 + 1) (v1 + 1) (by omega)) (tn 1 z)))) (by kernel_rfl) ?_; exact AG ⟨_, by first | omega | assumption | (simp only [Va2]; omega) | (simp; done) | (simp; omega), by first | omega | assumption | (simp only [Va2]; omega) | (simp; done) | (simp; omega), by omega, rfl, rfl⟩ (WK (by kernel_rfl)) (by kernel_rfl) (Nat.lt_succ_self _)
 ·refine GO (kb h1 z) (by kernel_rfl) ?_; refine OUT (tn 2 z) (by kernel_rfl) ?_; exact EN (by kernel_rfl)
def namA (s : ByteArray) : Bool := cond (cond (cond (((Zh s : Nat) : Int) == 0) true (decide (((Zh s : Nat) : Int) > 60))) true (!letA ((byt s 0 : Nat) : Int))) false ((wrdA s 0 : Int) == ((Zh s : Nat) : Int))
theorem namA_to (s : ByteArray) (hs : s.size <= 1073741824) : CallTo Tryz.prog 36 [(jS s)] [] [] (jB (namA s)) [] [] := by
 refine BEG (fun r : Bool => (jB r)) (namA s) Tryz.func36 (by kernel_rfl) ?_; refine UF (namA.eq_1 ..) ?_; refine GO (tn 5 (kj (((Zh s : Nat) : Int) == 0) z (tn 3 z) (tn 1 (kj (cond (((Zh s : Nat) : Int) == 0) true (decide (((Zh s : Nat) : Int) > 60))) z (tn 1 (hp (fun h => by have j0 := h.2; obtain ⟨j0a, j0o⟩ := Va4 j0; have j0ap := ne_of_beq_false j0a; have j0op := of_decide_eq_false j0o; exact (ib s 0 (by omega))) (hc (fun h => by have j0 := h.2; obtain ⟨j0a, j0o⟩ := Va4 j0; have j0ap := ne_of_beq_false j0a; have j0op := of_decide_eq_false j0o; exact (letA_to ((byt s 0 : Nat) : Int))) (tn 1 z)))) z)))) (by kernel_rfl) ?_; refine CS (fun h1 => ?_) (fun h1 => ?_)
 ·refine GO (kb h1 (tn 1 z)) (by kernel_rfl) ?_; exact EN (by kernel_rfl)
 ·obtain ⟨h1a, h1o⟩ := Va4 h1; obtain ⟨h1aa, h1ao⟩ := Va4 h1a
  have h1aap := ne_of_beq_false h1aa
  have h1aop := of_decide_eq_false h1ao
  have h1on := notf h1o; refine GO (kb h1 (tn 1 (kc (wrdA_to s 0 (by omega) (by omega) (by omega)) (tn 4 z)))) (by kernel_rfl) ?_; exact EN (by kernel_rfl)
def digC (c : Int) : Bool := cond (decide ((c : Int) >= 48)) (decide ((c : Int) <= 57)) false
theorem digC_to (c : Int) : CallTo Tryz.prog 147 [(jI c)] [] [] (jB (digC c)) [] [] := by
 refine BEG (fun r : Bool => (jB r)) (digC c) Tryz.func147 (by kernel_rfl) ?_; refine UF (digC.eq_1 ..) ?_; refine GO (tn 4 (kj (decide ((c : Int) >= 48)) (tn 2 z) z (tn 1 z))) (by kernel_rfl) ?_; exact EN (by kernel_rfl)
def uncB (c : Int) : Bool := cond (cond (decide ((c : Int) < 32)) ((c : Int) != 10) false) true ((c : Int) == 127)
theorem uncB_to (c : Int) : CallTo Tryz.prog 24 [(jI c)] [] [] (jB (uncB c)) [] [] := by
 refine BEG (fun r : Bool => (jB r)) (uncB c) Tryz.func24 (by kernel_rfl) ?_; refine UF (uncB.eq_1 ..) ?_; refine GO (tn 4 (kj (decide ((c : Int) < 32)) (tn 2 z) z (tn 1 (kj (cond (decide ((c : Int) < 32)) ((c : Int) != 10) false) z (tn 2 z) (tn 1 z))))) (by kernel_rfl) ?_; exact EN (by kernel_rfl)
def wdtI (b : Int) : Int := cond (decide ((b : Int) < 128)) 1 (cond (cond (decide ((b : Int) >= 194)) (decide ((b : Int) <= 223)) false) 2 (cond (cond (decide ((b : Int) >= 224)) (decide ((b : Int) <= 239)) false) 3 (cond (cond (decide ((b : Int) >= 240)) (decide ((b : Int) <= 244)) false) 4 0)))
theorem wdtI_to (b : Int) : CallTo Tryz.prog 39 [(.av (.val (.int .u8 b)))] [] [] (jI (wdtI b)) [] [] := by
 refine BEG (fun r : Int => (jI r)) (wdtI b) Tryz.func39 (by kernel_rfl) ?_; refine UF (wdtI.eq_1 ..) ?_; refine GO (tn 4 z) (by kernel_rfl) ?_; refine CSd (fun h1p h1 => ?_) (fun h1p h1 => ?_)
 ·refine GO (kb h1 (tn 1 z)) (by kernel_rfl) ?_; exact EN (by kernel_rfl)
 ·refine GO (kb h1 (tn 3 (kj (decide ((b : Int) >= 194)) (tn 2 z) z (tn 1 z)))) (by kernel_rfl) ?_; refine CS (fun h2 => ?_) (fun h2 => ?_)
  ·obtain ⟨h2a, h2o⟩ := Vb8 h2
   have h2ap := of_decide_eq_true h2a
   have h2op := of_decide_eq_true h2o; refine GO (kb h2 (tn 1 z)) (by kernel_rfl) ?_; exact EN (by kernel_rfl)
  ·refine GO (kb h2 (tn 3 (kj (decide ((b : Int) >= 224)) (tn 2 z) z (tn 1 z)))) (by kernel_rfl) ?_; refine CS (fun h3 => ?_) (fun h3 => ?_)
   ·obtain ⟨h3a, h3o⟩ := Vb8 h3
    have h3ap := of_decide_eq_true h3a
    have h3op := of_decide_eq_true h3o; refine GO (kb h3 (tn 1 z)) (by kernel_rfl) ?_; exact EN (by kernel_rfl)
   ·refine GO (kb h3 (tn 3 (kj (decide ((b : Int) >= 240)) (tn 2 z) z (tn 1 z)))) (by kernel_rfl) ?_; refine CS (fun h4 => ?_) (fun h4 => ?_)
    ·obtain ⟨h4a, h4o⟩ := Vb8 h4
     have h4ap := of_decide_eq_true h4a
     have h4op := of_decide_eq_true h4o; refine GO (kb h4 (tn 1 z)) (by kernel_rfl) ?_; exact EN (by kernel_rfl)
    ·refine GO (kb h4 (tn 1 z)) (by kernel_rfl) ?_; exact EN (by kernel_rfl)
def skpS_L0 (s : ByteArray) (i : Int) : Nat -> Int -> Int
 | 0, _ => default
 | n0 + 1, v1 => cond (cond (decide ((v1 : Int) < ((Zh s : Nat) : Int))) (((byt s (Int.toNat v1) : Nat) : Int) == 32) false) (skpS_L0 s i n0 (v1 + 1)) v1
def skpS (s : ByteArray) (i : Int) : Int := skpS_L0 s i ((s.size - Int.toNat i) + 1) i
theorem skpS_to (s : ByteArray) (i : Int) (hs : s.size <= 1073741824) (h0 : 0 <= i) (h1 : i <= 1073741833) : CallTo Tryz.prog 106 [(jS s), (jI i)] [] [] (jI (skpS s i)) [] [] := by
 refine BEG (fun r : Int => (jI r)) (skpS s i) Tryz.func106 (by kernel_rfl) ?_; refine UF (skpS.eq_1 ..) ?_; refine GO (tn 1 z) (by kernel_rfl) ?_; refine LP (fun N M S => ∃ v1 : Int, (0 <= v1) /\ (v1 <= 1073741833) /\ (s.size - Int.toNat v1 < N) /\ M = skpS_L0 s i N v1 /\ S = (sx 18 [(0, (jS s)), (1, (jI v1))] [] [])) (by kernel_rfl) ⟨_, by first | omega | assumption | (simp only [Va2]; omega) | (simp; done) | (simp; omega), by first | omega | assumption | (simp only [Va2]; omega) | (simp; done) | (simp; omega), by omega, rfl, rfl⟩ (WK (by kernel_rfl)) ?_; rintro n0 M S ⟨v1, hv, hb, hF0, rfl, rfl⟩; obtain ⟨n0, rfl⟩ : ∃ k, n0 = k + 1 := ⟨n0 - 1, by omega⟩
 refine UF (skpS_L0.eq_2 ..) ?_; refine GO (tn 5 (kj (decide ((v1 : Int) < ((Zh s : Nat) : Int))) (tn 2 (hp (fun h => by have j0 := h.2; have j0p := of_decide_eq_true j0; exact (ib s v1 (by omega))) (tn 1 z))) z z)) (by kernel_rfl) ?_; refine CS (fun h1 => ?_) (fun h1 => ?_)
 ·obtain ⟨h1a, h1o⟩ := Vb8 h1
  have h1ap := of_decide_eq_true h1a
  have h1op := eq_of_beq h1o; refine GO (kb h1 (tn 1 (kn (wrE (v1 + 1) (v1 + 1) (by omega)) (tn 1 z)))) (by kernel_rfl) ?_; exact AG ⟨_, by first | omega | assumption | (simp only [Va2]; omega) | (simp; done) | (simp; omega), by first | omega | assumption | (simp only [Va2]; omega) | (simp; done) | (simp; omega), by omega, rfl, rfl⟩ (WK (by kernel_rfl)) (by kernel_rfl) (Nat.lt_succ_self _)
 ·refine GO (kb h1 z) (by kernel_rfl) ?_; refine OUT (tn 2 z) (by kernel_rfl) ?_; exact EN (by kernel_rfl)
def litP (s : ByteArray) (i : Int) (e : Int) : DPiece := DPiece.mk 0 (DInline.mk 1 (ByteArray.extract s (Int.toNat i) (Int.toNat e)) (⟨#[]⟩) (⟨#[]⟩) (DAttr.mk (⟨#[]⟩) ([]) ([])) ([]) ([]) ([])) (⟨#[]⟩) 0 false false false 0 e
theorem litP_to (s : ByteArray) (i : Int) (e : Int) (hs : s.size <= 1073741824) (h0 : 0 <= i) (h1 : i <= e) (h2 : e <= s.size) : CallTo Tryz.prog 107 [(jS s), (jI i), (jI e)] [] [] (.av (Vcd (litP s i e))) [] [] := by
 refine BEG (fun r : DPiece => (.av (Vcd r))) (litP s i e) Tryz.func107 (by kernel_rfl) ?_; refine UF (litP.eq_1 ..) ?_
 have := Vbe s (Int.toNat i) (Int.toNat e); refine GO (tn 4 (kp (show 0 <= (i : Int) /\ (i : Int) <= e /\ e <= ((Zh s : Nat) : Int) from (by omega)) (tn 4 z))) (by kernel_rfl) ?_; exact EN (by kernel_rfl)
def isrP (p : DPiece) : Bool := cond ((p.fKind : Int) != 1) false (cond (cond (eqs p.fChar (⟨#[42]⟩)) (eqs p.fChar (⟨#[42]⟩)) (eqs p.fChar (⟨#[95]⟩))) (cond (decide ((p.fN : Int) >= 1)) (decide ((p.fN : Int) <= 262144)) false) (cond (eqs p.fChar (⟨#[126]⟩)) ((p.fN : Int) == 2) false))
theorem isrP_to (p : DPiece) : CallTo Tryz.prog 161 [(.av (Vcd p))] [] [] (jB (isrP p)) [] [] := by
 refine BEG (fun r : Bool => (jB r)) (isrP p) Tryz.func161 (by kernel_rfl) ?_; refine UF (isrP.eq_1 ..) ?_; refine GO (tn 5 z) (by kernel_rfl) ?_; refine CSn (fun h1p h1 => ?_) (fun h1p h1 => ?_)
 ·refine GO (kb h1 (tn 1 z)) (by kernel_rfl) ?_; exact EN (by kernel_rfl)
 ·refine GO (kb h1 (tn 4 (ks (eqs p.fChar (⟨#[42]⟩)) [8] z (tn 2 z) z))) (by kernel_rfl) ?_; refine CS (fun h2 => ?_) (fun h2 => ?_)
  ·refine GO (kb h2 (tn 4 (kj (decide ((p.fN : Int) >= 1)) (tn 3 z) z (tn 1 z)))) (by kernel_rfl) ?_; exact EN (by kernel_rfl)
  ·refine GO (kb h2 (tn 2 z)) (by kernel_rfl) ?_; refine CS (fun h3 => ?_) (fun h3 => ?_)
   ·refine GO (kb h3 (tn 4 z)) (by kernel_rfl) ?_; exact EN (by kernel_rfl)
   ·refine GO (kb h3 (tn 1 z)) (by kernel_rfl) ?_; exact EN (by kernel_rfl)
def nmeS_L0 (s : ByteArray) (i : Int) : Nat -> Int -> Int
 | 0, _ => default
 | n0 + 1, v1 => cond (decide ((v1 : Int) < ((Zh s : Nat) : Int))) (cond (cond (cond (cond (cond (cond (!cond (cond (decide (((byt s (Int.toNat v1) : Nat) : Int) >= 97)) (decide (((byt s (Int.toNat v1) : Nat) : Int) <= 122)) false) true (cond (decide (((byt s (Int.toNat v1) : Nat) : Int) >= 65)) (decide (((byt s (Int.toNat v1) : Nat) : Int) <= 90)) false)) (!digC (IntKind.i64.wrap ((byt s (Int.toNat v1) : Nat) : Int))) false) (((byt s (Int.toNat v1) : Nat) : Int) != 45) false) (((byt s (Int.toNat v1) : Nat) : Int) != 95) false) (((byt s (Int.toNat v1) : Nat) : Int) != 46) false) (((byt s (Int.toNat v1) : Nat) : Int) != 58) false) v1 (nmeS_L0 s i n0 (v1 + 1))) v1
def nmeS (s : ByteArray) (i : Int) : Int := nmeS_L0 s i ((s.size - Int.toNat i) + 1) i
theorem nmeS_to (s : ByteArray) (i : Int) (hs : s.size <= 1073741824) (h0 : 0 <= i) (h1 : i <= 1073741833) : CallTo Tryz.prog 152 [(jS s), (jI i)] [] [] (jI (nmeS s i)) [] [] := by
 refine BEG (fun r : Int => (jI r)) (nmeS s i) Tryz.func152 (by kernel_rfl) ?_; refine UF (nmeS.eq_1 ..) ?_; refine GO (tn 1 z) (by kernel_rfl) ?_; refine LP (fun N M S => ∃ v1 : Int, (0 <= v1) /\ (v1 <= 1073741833) /\ (s.size - Int.toNat v1 < N) /\ M = nmeS_L0 s i N v1 /\ S = (sx 55 [(0, (jS s)), (1, (jI v1))] [] [])) (by kernel_rfl) ⟨_, by first | omega | assumption | (simp only [Va2]; omega) | (simp; done) | (simp; omega), by first | omega | assumption | (simp only [Va2]; omega) | (simp; done) | (simp; omega), by omega, rfl, rfl⟩ (WK (by kernel_rfl)) ?_; rintro n0 M S ⟨v1, hv, hb, hF0, rfl, rfl⟩; obtain ⟨n0, rfl⟩ : ∃ k, n0 = k + 1 := ⟨n0 - 1, by omega⟩
 refine UF (nmeS_L0.eq_2 ..) ?_; refine GO (tn 4 z) (by kernel_rfl) ?_; refine CSd (fun h1p h1 => ?_) (fun h1p h1 => ?_)
 ·refine GO (kb h1 (tn 2 (kp (ib s v1 (by omega)) (tn 4 (kj (decide (((byt s (Int.toNat v1) : Nat) : Int) >= 97)) (tn 2 z) z (tn 1 (kj (cond (decide (((byt s (Int.toNat v1) : Nat) : Int) >= 97)) (decide (((byt s (Int.toNat v1) : Nat) : Int) <= 122)) false) z (tn 3 (kj (decide (((byt s (Int.toNat v1) : Nat) : Int) >= 65)) (tn 2 z) z z)) (tn 4 (kj (!cond (cond (decide (((byt s (Int.toNat v1) : Nat) : Int) >= 97)) (decide (((byt s (Int.toNat v1) : Nat) : Int) <= 122)) false) true (cond (decide (((byt s (Int.toNat v1) : Nat) : Int) >= 65)) (decide (((byt s (Int.toNat v1) : Nat) : Int) <= 90)) false)) (tn 2 (hc (fun h => by have j0 := h.2; have j0n := nott j0; have := wrap_byt s (Int.toNat v1); have := byt_lt s (Int.toNat v1); exact (digC_to (IntKind.i64.wrap ((byt s (Int.toNat v1) : Nat) : Int)))) (tn 1 z))) z (tn 1 (kj (cond (!cond (cond (decide (((byt s (Int.toNat v1) : Nat) : Int) >= 97)) (decide (((byt s (Int.toNat v1) : Nat) : Int) <= 122)) false) true (cond (decide (((byt s (Int.toNat v1) : Nat) : Int) >= 65)) (decide (((byt s (Int.toNat v1) : Nat) : Int) <= 90)) false)) (!digC (IntKind.i64.wrap ((byt s (Int.toNat v1) : Nat) : Int))) false) (tn 2 z) z (tn 1 (kj (cond (cond (!cond (cond (decide (((byt s (Int.toNat v1) : Nat) : Int) >= 97)) (decide (((byt s (Int.toNat v1) : Nat) : Int) <= 122)) false) true (cond (decide (((byt s (Int.toNat v1) : Nat) : Int) >= 65)) (decide (((byt s (Int.toNat v1) : Nat) : Int) <= 90)) false)) (!digC (IntKind.i64.wrap ((byt s (Int.toNat v1) : Nat) : Int))) false) (((byt s (Int.toNat v1) : Nat) : Int) != 45) false) (tn 2 z) z (tn 1 (kj (cond (cond (cond (!cond (cond (decide (((byt s (Int.toNat v1) : Nat) : Int) >= 97)) (decide (((byt s (Int.toNat v1) : Nat) : Int) <= 122)) false) true (cond (decide (((byt s (Int.toNat v1) : Nat) : Int) >= 65)) (decide (((byt s (Int.toNat v1) : Nat) : Int) <= 90)) false)) (!digC (IntKind.i64.wrap ((byt s (Int.toNat v1) : Nat) : Int))) false) (((byt s (Int.toNat v1) : Nat) : Int) != 45) false) (((byt s (Int.toNat v1) : Nat) : Int) != 95) false) (tn 2 z) z (tn 1 (kj (cond (cond (cond (cond (!cond (cond (decide (((byt s (Int.toNat v1) : Nat) : Int) >= 97)) (decide (((byt s (Int.toNat v1) : Nat) : Int) <= 122)) false) true (cond (decide (((byt s (Int.toNat v1) : Nat) : Int) >= 65)) (decide (((byt s (Int.toNat v1) : Nat) : Int) <= 90)) false)) (!digC (IntKind.i64.wrap ((byt s (Int.toNat v1) : Nat) : Int))) false) (((byt s (Int.toNat v1) : Nat) : Int) != 45) false) (((byt s (Int.toNat v1) : Nat) : Int) != 95) false) (((byt s (Int.toNat v1) : Nat) : Int) != 46) false) (tn 2 z) z z))))))))))))))))) (by kernel_rfl) ?_; refine CS (fun h2 => ?_) (fun h2 => ?_)
  ·obtain ⟨h2a, h2o⟩ := Vb8 h2; obtain ⟨h2aa, h2ao⟩ := Vb8 h2a; obtain ⟨h2aaa, h2aao⟩ := Vb8 h2aa; obtain ⟨h2aaaa, h2aaao⟩ := Vb8 h2aaa; obtain ⟨h2aaaaa, h2aaaao⟩ := Vb8 h2aaaa
   have h2aaaaan := nott h2aaaaa
   have h2aaaaon := nott h2aaaao
   have h2aaaop := bne_iff_ne.1 h2aaao
   have h2aaop := bne_iff_ne.1 h2aao
   have h2aop := bne_iff_ne.1 h2ao
   have h2op := bne_iff_ne.1 h2o; refine GO (kb h2 z) (by kernel_rfl) ?_; refine OUT (tn 2 z) (by kernel_rfl) ?_; exact EN (by kernel_rfl)
  ·refine GO (kb h2 (tn 1 (kn (wrE (v1 + 1) (v1 + 1) (by omega)) (tn 1 z)))) (by kernel_rfl) ?_; exact AG ⟨_, by first | omega | assumption | (simp only [Va2]; omega) | (simp; done) | (simp; omega), by first | omega | assumption | (simp only [Va2]; omega) | (simp; done) | (simp; omega), by omega, rfl, rfl⟩ (WK (by kernel_rfl)) (by kernel_rfl) (Nat.lt_succ_self _)
 ·refine GO (kb h1 z) (by kernel_rfl) ?_; refine OUT (tn 2 z) (by kernel_rfl) ?_; exact EN (by kernel_rfl)
end Go.Proofs.YtnpedjbgchdkbaaGreatDoor
namespace Go.Eng
variable {P : Program}
theorem Vc8 {ops : Array Oper} {o : Oper} {rest : List Oper} {Q : St -> Prop} {S : St} {r : Res} (hg : o.guard = none) (hs : Sound P o S r) (hok : r.ok) (h : WO P ops rest Q (r.st.put o.dst r.v)) : WO P ops (o :: rest) Q S := by
 refine WO_op (fun G w a hr => Vao hg a) (fun G w a hr Q' next hn => ?_) h; obtain ⟨nx, v, w', G', h1, h2, h3, h4, h5, h6⟩ := hs hok G w a hr; unfold Oper.wp; rw [h1]; rcases h2 with rfl | ⟨rfl, rfl⟩
 ·rw [Oper.upon_value]; exact hn G' _ w' h3 (h4.put o.dst h5) h6
 ·rw [Oper.upon_skip]; exact hn G' _ w' h3 (h4.put o.dst h5) h6
theorem run_eq_nil {t e : TypeId} (ht : P.underlying t = some (.slice e)) (w : World) (a : Option Addr) (n c n' c' : Nat) : (binOp .eql t (.slice a n c) (.slice none n' c')).run P w = .ok (.bool a.isNone) w := by
 have h : (Op.equal t (.slice a n c) (.slice none n' c')).run P w = .ok a.isNone w := by
  rw [show Op.equal t (.slice a n c) (.slice none n' c') = Op.equalIn (9999 + 1) t (.slice a n c) (.slice none n' c') from rfl]; unfold Op.equalIn; cases a <;> simp [run_underlying' ht]
 simp [binOp, h]
theorem WO_isnil {ops : Array Oper} {o : Oper} {rest : List Oper} {Q : St -> Prop} {S : St} {t t' e : TypeId} {x : Operand} {l : List AV} (ho : o.op = .binOp .eql t x (.const (.slice none 0 0)) t') (hg : o.guard = none) (ht : P.underlying t = some (.slice e)) (hx : S.ev x = .av (.sl l))
  (h : ∀ b : Bool, (b = true -> l = []) -> WO P ops rest Q (S.put o.dst (.av (.val (.bool b))))) : WO P ops (o :: rest) Q S := by
 intro more Q' G w a hr hq
 have hxr := hr.ev x; rw [hx] at hxr; simp only [RepS, Rep] at hxr; obtain ⟨ad, cap, es, sz, hu, h1, h2, h3, h4⟩ := hxr
 have hbl : ad.isNone = true -> l = [] := by
  intro hn
  have : es = [] := h3 (by simpa using hn); subst this; exact List.length_eq_zero_iff.1 (by have := h1.length; simpa using this.symm)
 have he : (execOp a.eval o).run P w = .ok (.value (.bool ad.isNone)) w := by
  have e1 := run_eq_nil ht w ad l.length cap 0 0
  have e2 : (eqGuard .eql t x (.const (.slice none 0 0)) (.slice ad l.length cap) (.slice none 0 0)).run P w = .ok () w := by
   unfold eqGuard; simp
  have e3 : a.eval (.const (.slice none 0 0)) = .slice none 0 0 := rfl; simp only [execOp, ho, hu, e3, Sem.run_bind, e2, e1, Result.andThen_ok]; rfl
 simp only [Zw, wpList]; rw [if_pos (Vao hg a)]; refine .inl ?_; unfold Oper.wp; rw [he, Oper.upon_value]; exact h ad.isNone hbl more Q' G w _ (hr.put o.dst ⟨rfl, rfl⟩) hq
theorem step_tok0 {G : Gh} {w : World} (hw : Wf G w) (o : Obj) {k : Key} (hk0 : 0 < k.2) (n : Nat) :
  Step G w ((G.setU w.heap.size n).next k w.heap.size) (w.alloc o) /\ Wf ((G.setU w.heap.size n).next k w.heap.size) (w.alloc o) /\
   ∀ κ, κ ≠ k -> Keep G w ((G.setU w.heap.size n).next k w.heap.size) (w.alloc o) κ := by
 obtain ⟨s1, s2, s3⟩ := Vdo hw o n
 have how : ∀ κ b, (if κ = k then some w.heap.size else G.ow κ) = some b -> (κ = k /\ b = w.heap.size) \/ (κ ≠ k /\ G.ow κ = some b) := by
  intro κ b h
  split at h
  ·rename_i hk; simp at h; exact .inl ⟨hk, h.symm⟩
  ·rename_i hk; exact .inr ⟨hk, h⟩
 have hkp : ∀ κ, κ ≠ k -> Keep G w ((G.setU w.heap.size n).next k w.heap.size) (w.alloc o) κ := fun κ hκ => ⟨by simp only [Gh.next]; rw [if_neg hκ]; rfl, fun b hb => (s3 κ).2 b hb⟩
 refine ⟨⟨⟨s1.U, ⟨s1.imm.cell, s1.imm.map⟩, s1.size, s1.os, s1.tape, s1.output, s1.cp, fun κ => ?_, fun κ _ hg => ?_⟩, s1.stay, fun κ b h => ?_⟩, ⟨fun κ κ' b h h' => ?_, fun κ b h => ?_, s2.zero⟩, hkp⟩
 ·simp only [Gh.next, Gh.setU]; split <;> omega
 ·refine hkp κ (fun e => ?_); simp only [Gh.next, Gh.setU, if_pos e] at hg; omega
 ·rcases how κ b h with ⟨_, rfl⟩ | ⟨_, h1⟩
  ·exact .inr (Zr _)
  ·exact .inl ⟨κ, h1⟩
 ·rcases how κ b h with ⟨h1, h2⟩ | ⟨h1, h2⟩ <;> rcases how κ' b h' with ⟨h3, h4⟩ | ⟨h3, h4⟩
  ·rw [h1, h3]
  ·have := hw.lt κ' b h4; omega
  ·have := hw.lt κ b h2; omega
  ·exact hw.inj κ κ' b h2 h4
 ·rcases how κ b h with ⟨_, rfl⟩ | ⟨_, h1⟩
  ·simp
  ·have := hw.lt κ b h1; simp; omega
theorem Voz {o : Oper} {S : St} {t e : TypeId} {sz bt : Nat} {z : Value} (d : Nat) (ho : o.op = .buildSlice t 0 #[]) (ht : tElem P t = some e) (hi : tInfo P e = some (sz, bt, some z)) : Sound P o S ⟨True, .own (d, e + 1) (S.gen (d, e + 1) + 1) sz [], S.next (d, e + 1)⟩ := by
 intro _ G w a hr
 have ht' : P.underlying t = some (.slice e) := by
  unfold tElem at ht; split at ht
  ·rename_i hh; simp at ht; subst ht; exact hh
  ·simp at ht
 have hk0 : 0 < ((d, e + 1) : Key).2 := Nat.succ_pos e
 have hk2 : ∀ κ : Key, κ.2 = 0 -> κ ≠ (d, e + 1) := by intro κ h0 he; rw [he] at h0; simp at h0
 obtain ⟨s1, s2, s3⟩ := step_tok0 hr.wf (.cells #[] e) hk0 0; refine ⟨_, .slice (some ⟨w.heap.size, 0, none⟩) 0 0, w.alloc (.cells #[] e), _, ?_, .inl rfl, s1, hr.nextTok s1.toExt s2 (fun κ h0 => s3 κ (hk2 κ h0)) (Vfu (G := G.setU _ _) hr.gn _ _), ?_, fun i _ => by simp only [Gh.next, Gh.setU]; rw [if_neg (hk2 (i, 0) rfl)]⟩
 ·simp only [execOp, ho, Instr.buildSlice, Sem.run_bind, run_underlying' ht', Result.andThen_ok, run_sizeOf' hi]; simp [newRow, Instr.fill]; congr 2; apply Array.ext'; simp
 ·have hg : G.gen (d, e + 1) = S.gen (d, e + 1) := hr.gn _; refine ⟨hk0, by simp only [Gh.next, Gh.setU, if_true]; omega, some ⟨w.heap.size, 0, none⟩, 0, [], rfl, by simp [RepL], by simp, by simp, by simp, by simp, .inl (by simp [Va0]), fun _ => .inr ⟨w.heap.size, 0, #[], e, rfl, by simp [Gh.next], heap_alloc_new w _, by simp, by simp [Gh.next, Gh.setU], rfl⟩⟩
theorem Vl1 {o : Oper} {S : St} {t e d : TypeId} {sz bt : Nat} {z : Value} {x y : Operand} {k : Key} {g : Nat} {l l' : List AV} (ho : o.op = .call { callee := .builtin .append, args := #[x, y], argTypes := #[t, t] }) (hd : o.dst = some d) (hx : S.ev x = .own k g sz l) (hy : (S.ev y).toAV = some (.sl l')) (hk : e + 1 = k.2)
  (ht : tElem P t = some e) (hi : tInfo P e = some (sz, bt, some z)) (hz : z.cells.size = sz) (hbt : 0 < bt) (h2 : notInt P t = true) :
  Vaw P o S = some ⟨S.gen k = g /\ Uni sz l' /\ (l.length + l'.length) * bt <= 140737488355328, .own k (g + 1) sz (l ++ l'), S.next k⟩ := by
 unfold Vaw; rw [ho]; simp only [Vde]; unfold Vfm; rw [ht, hd]; simp only [hi]; rw [if_pos ⟨hz, hbt, h2⟩]; simp only [aSrc, hy, hx]; rw [if_pos ⟨trivial, hk⟩]
theorem Vo9 {f : FuncId} {fn : Func} {t e : TypeId} {sz bt : Nat} {z : Value} {i0 i1 i2 i3 : Nat} {a0 b0 b1 c0 d0 d1 d2 d3 : Oper} {t' : TypeId} (hf : P.funcs[f]? = some fn)
  (hb : fn.body = some (.seq (.region i0 #[a0] false) (.seq (.seq (.region i1 #[b0, b1] false) (.cond (.tmp 4) (.seq (.region i2 #[c0] false) .ret) .skip)) (.seq (.region i3 #[d0, d1, d2, d3] false) .ret))))
  (hname : (fn.name == "runtime.NumGoroutine") = false) (hn : fn.ntmps = 8) (hres : fn.results.toList = [.tmp 2])
  (ha0 : a0.op = .assign (.const (.slice none 0 0)) /\ a0.dst = some 2 /\ a0.guard = none) (hb0 : b0.op = .move (.tmp 0) /\ b0.dst = some 3 /\ b0.guard = none) (hb1 : b1.op = .binOp .eql t (.tmp 3) (.const (.slice none 0 0)) t' /\ b1.dst = some 4 /\ b1.guard = none)
  (hc0 : c0.op = .assign (.const (.slice none 0 0)) /\ c0.dst = some 2 /\ c0.guard = none) (hd0 : d0.op = .buildSlice t 0 #[] /\ d0.dst = some 5 /\ d0.guard = none) (hd1 : d1.op = .move (.tmp 0) /\ d1.dst = some 6 /\ d1.guard = none)
  (hd2 : d2.op = .call { callee := .builtin .append, args := #[.tmp 5, .tmp 6], argTypes := #[t, t] } /\ d2.dst = some 7 /\ d2.guard = none) (hd3 : d3.op = .assign (.tmp 7) /\ d3.dst = some 2 /\ d3.guard = none)
  (ht : tElem P t = some e) (hi : tInfo P e = some (sz, bt, some z)) (hz : z.cells.size = sz) (hbt : 0 < bt) (l : List AV) (hu : Uni sz l) (hl : l.length * bt <= 140737488355328) :
  CallTo P f [.av (.sl l)] [] [] (.av (.sl l)) [] [] := by
 have ht' : P.underlying t = some (.slice e) := by
  unfold tElem at ht; split at ht
  ·rename_i hh; simp at ht; subst ht; exact hh
  ·simp at ht
 have h2 : notInt P t = true := by unfold notInt; rw [ht']
 refine Vc9 hf hb hname hn (by simp) (by simp) (by simp) (by intro s hs; simp at hs; subst hs; exact ok_av rfl _ _) (by simp) (ok_av rfl _ _) (by simp) rfl rfl ?_
 have hend : ∀ (S : St) (s : SV), S.fr[2]? = some s -> s.norm = .av (.sl l) -> Ends P fn (.av (.sl l)) [] [] .ret S := by
  intro S s h1 h3; refine ⟨⟨false, ?_⟩, by simp, by simp⟩; unfold aRes; rw [hres]; simp [Vog, h1, h3]
 refine Vqy (Vak ?_); refine Vc8 ha0.2.2 (Vby (.inr ha0.1)) trivial ?_; rw [ha0.2.1]; refine Vbw rfl ?_; refine Vqy (Vqy (Vak ?_)); refine Vc8 hb0.2.2 (Vby (.inl hb0.1)) trivial ?_; rw [hb0.2.1]; refine WO_isnil (l := l) hb1.1 hb1.2.2 ht' rfl (fun b hb => ?_); rw [hb1.2.1]; refine Vbw rfl ?_; refine W_cond (b := b) rfl ?_; cases b with
 | true =>
  have hl0 := hb rfl; subst hl0; simp only [if_true]; refine Vqy (Vak ?_); refine Vc8 hc0.2.2 (Vby (.inr hc0.1)) trivial ?_; rw [hc0.2.1]; refine Vbw rfl ?_; exact W_ret (hend _ .nil rfl rfl)
 | false =>
  simp only [Zg, if_false]; refine W_skip ?_; refine Vqy (Vak ?_); refine Vc8 hd0.2.2 (Voz 5 hd0.1 ht hi) trivial ?_; rw [hd0.2.1]; refine Vc8 hd1.2.2 (Vby (.inl hd1.1)) trivial ?_; rw [hd1.2.1]
  show WO P _ [d2, d3] _ ⟨[.av (.sl l), .junk, .nil, .av (.sl l), .av (.val (.bool false)), .own (5, e + 1) 1 sz [], .av (.sl l), .junk], [], [((5, e + 1), 1)]⟩; refine Vc8 hd2.2.2 (Vb9 (Vl1 hd2.1 hd2.2.1 rfl rfl rfl ht hi hz hbt h2)) ⟨by simp [St.gen], hu, by simpa using hl⟩ ?_; rw [hd2.2.1]; refine Vc8 hd3.2.2 (Vby (.inr hd3.1)) trivial ?_; rw [hd3.2.1]; refine Vbw rfl ?_; exact W_ret (hend _ (.own (5, e + 1) 2 sz l) rfl rfl)
end Go.Eng
namespace Go.Eng
variable {P : Program}
section
variable {t t2 ty e : TypeId} {sz bt : Nat} {z : Value}
end
theorem Vp2 (w : World) (arr arr' : Array Value) (e : TypeId) : (w.alloc (.cells arr e)).setRow w.heap.size arr' = w.alloc (.cells arr' e) := by
 have h : ((w.alloc (.cells arr e)).setRow w.heap.size arr').heap = (w.alloc (.cells arr' e)).heap := by
  apply Array.ext_getElem?; intro i
  by_cases hi : i = w.heap.size
  ·subst hi; rw [setRow_heap _ _ arr arr' e _ (heap_alloc_new w _), heap_alloc_new w _]
  ·rw [setRow_other _ _ _ _ hi]; rcases Zc i w.heap.size with h | h
   ·rw [heap_alloc_lt w _ h, heap_alloc_lt w _ h]
   ·rw [Array.getElem?_eq_none (by simp; omega), Array.getElem?_eq_none (by simp; omega)]
 exact congrArg (fun h => ({ w with heap := h } : World)) h
theorem Ve9 (w : World) (b : Nat) (arr arr' : Array Value) : (w.setRow b arr).setRow b arr' = w.setRow b arr' := by
 have h : ((w.setRow b arr).setRow b arr').heap = (w.setRow b arr').heap := by
  apply Array.ext_getElem?; intro i; simp only [World.setRow, Array.getElem?_modify]
  split
  ·cases w.heap[i]? with
   | none => rfl
   | some o => cases o <;> rfl
  ·rfl
 exact congrArg (fun h => ({ w with heap := h } : World)) h
theorem own_grown {G : Gh} {w : World} {S : St} {a : Act} {k : Key} {g sz e cap : Nat} {ad : Option Addr} {l l' : List AV} {es es' : List Value} (hr : Rel G w S a) (hk0 : 0 < k.2) (hke : e + 1 = k.2) (hgg : G.gen k = g)
  (g2 : RepL G.U w l es) (g3 : ∀ e ∈ es, e.cells.size = sz) (g5 : Lies G.U w ad (Va0 es)) (hx : RepL G.U w l' es') (hu : Uni sz l') {nc : Nat} {rest : List Value} (q1 : l.length + l'.length <= nc) (q2 : rest.length = (nc - (l.length + l'.length)) * sz) :
  ∃ G', Step G w G' (w.drew.alloc (.cells (Va0 es ++ Va0 es' ++ rest).toArray e)) /\ Rel G' (w.drew.alloc (.cells (Va0 es ++ Va0 es' ++ rest).toArray e)) (S.next k) a /\
   RepS G' (w.drew.alloc (.cells (Va0 es ++ Va0 es' ++ rest).toArray e)) (.own k (g + 1) sz (l ++ l')) (.slice (some ⟨w.heap.size, 0, none⟩) (l.length + l'.length) nc) /\ ∀ i, G'.ow (i, 0) = G.ow (i, 0) := by
 have hes' := hu.sizes hx
 have h1' := hx.cells hu
 have hkne : ∀ i : Nat, ((i, 0) : Key) ≠ k := by intro i he; rw [<- he] at hk0; simp at hk0
 have hk2 : ∀ κ : Key, κ.2 = 0 -> κ ≠ k := by intro κ h0 he; rw [he] at h0; omega
 have hl1 := Va3 es g3
 have hl2 := Va3 es' hes'
 have hll := g2.length
 have hll' := hx.length
 have hcellsOld : ∀ c ∈ Va0 es, c.oneCell' = true := by
  rcases g5 with h | ⟨_, _, _, _, h3⟩
  ·rw [h]; simp
  ·intro c hc; obtain ⟨j, hj⟩ := List.mem_iff_getElem?.1 hc; exact (h3 j c hj).2
 have hsz : ∀ e ∈ es ++ es', e.cells.size = sz := by
  intro e he; rcases Zt.1 he with h | h
  ·exact g3 e h
  ·exact hes' e h
 obtain ⟨s1, s2, s3⟩ := step_tok hr.wf (.cells (Va0 es ++ Va0 es' ++ rest).toArray e) hk0 (Va0 (es ++ es')).length; refine ⟨_, s1, hr.nextTok s1.toExt s2 (fun κ h0 => s3 κ (hk2 κ h0)) (Vfu (G := G.setU _ _) hr.gn k _), ?_, fun i => by simp only [Gh.next, Gh.setU]; rw [if_neg (hkne i)]⟩; refine ⟨hk0, by simp only [Gh.next, Gh.setU, if_true]; omega, some ⟨w.heap.size, 0, none⟩, nc, es ++ es', by simp, ?_, hsz, by simpa using q1, by simp, by simp, ?_, fun _ => .inr ⟨w.heap.size, 0, _, e, rfl, by simp [Gh.next], heap_alloc_new w.drew _, ?_, ?_, hke⟩⟩
 ·exact RepL.mono s1.U s1.imm _ _ (g2.append hx)
 ·have := Vh8 (w := w.drew) (cs := Va0 (es ++ es')) (rest := rest) (e := e) (n := (Va0 (es ++ es')).length) G.U (by rw [Vam]; intro c hc; rcases Zt.1 hc with h | h; exact hcellsOld c h; exact h1' c h) rfl; rw [Vam] at this ⊢; exact this
 ·simp only [Nat.zero_add, List.size_toArray, Z0, hl1, hl2, hll, hll', q2]; rw [<- Nat.add_mul, <- Nat.add_mul]; exact Nat.mul_le_mul_right _ (by omega)
 ·simp only [Gh.next, Gh.setU, if_true, Nat.zero_add]; rw [Va3 _ hsz]; simp [hll, hll']
theorem own_room {G : Gh} {w : World} {S : St} {a : Act} {k : Key} {g sz cap b off e' : Nat} {arr : Array Value} {l l' : List AV} {es es' : List Value} (hr : Rel G w S a) (hk0 : 0 < k.2) (hgg : G.gen k = g)
  (g2 : RepL G.U w l es) (g3 : ∀ e ∈ es, e.cells.size = sz) (g5 : Lies G.U w (some ⟨b, off, none⟩) (Va0 es)) (o1 : G.ow k = some b) (o2 : w.heap[b]? = some (.cells arr e' (0, 0))) (o3 : off + cap * sz <= arr.size) (o4 : G.U b = off + l.length * sz) (o5 : e' + 1 = k.2)
  (hx : RepL G.U w l' es') (hu : Uni sz l') (hle : l.length + l'.length <= cap) :
  ∃ G', Step G w G' (w.setRow b (arr.toList.take (off + l.length * sz) ++ Va0 es' ++ arr.toList.drop (off + l.length * sz + (Va0 es').length)).toArray) /\
   Rel G' (w.setRow b (arr.toList.take (off + l.length * sz) ++ Va0 es' ++ arr.toList.drop (off + l.length * sz + (Va0 es').length)).toArray) (S.next k) a /\
   RepS G' (w.setRow b (arr.toList.take (off + l.length * sz) ++ Va0 es' ++ arr.toList.drop (off + l.length * sz + (Va0 es').length)).toArray) (.own k (g + 1) sz (l ++ l')) (.slice (some ⟨b, off, none⟩) (l.length + l'.length) cap) /\ ∀ i, G'.ow (i, 0) = G.ow (i, 0) := by
 have hes' := hu.sizes hx
 have h1' := hx.cells hu
 have hkne : ∀ i : Nat, ((i, 0) : Key) ≠ k := by intro i he; rw [<- he] at hk0; simp at hk0
 have hk2 : ∀ κ : Key, κ.2 = 0 -> κ ≠ k := by intro κ h0 he; rw [he] at h0; omega
 have hl1 := Va3 es g3
 have hl2 := Va3 es' hes'
 have hll := g2.length
 have hll' := hx.length
 have hcellsOld : ∀ c ∈ Va0 es, c.oneCell' = true := by
  rcases g5 with h | ⟨_, _, _, _, h3⟩
  ·rw [h]; simp
  ·intro c hc; obtain ⟨j, hj⟩ := List.mem_iff_getElem?.1 hc; exact (h3 j c hj).2
 have hsz : ∀ e ∈ es ++ es', e.cells.size = sz := by
  intro e he; rcases Zt.1 he with h | h
  ·exact g3 e h
  ·exact hes' e h
 have hmul : (l.length + l'.length) * sz <= cap * sz := Nat.mul_le_mul_right _ hle; rw [Nat.add_mul] at hmul; obtain ⟨s1, s2, s3⟩ := Vou hr.wf hk0 o1 o2 (off + (l.length + l'.length) * sz) (by rw [o4, Nat.add_mul]; omega) (arr.toList.take (off + l.length * sz) ++ Va0 es' ++ arr.toList.drop (off + l.length * sz + (Va0 es').length)).toArray
  (fun j hj => by
   rw [o4] at hj
   have : j < (arr.toList.take (off + l.length * sz)).length := by simp; omega
   simp only [List.getElem?_toArray]; rw [Z1, Zs this, List.getElem?_take, if_pos hj]
   simp)
 refine ⟨_, s1, hr.nextTok s1.toExt s2 (fun κ h0 => s3 κ (hk2 κ h0)) (Vfu (G := G.setU _ _) hr.gn k _), ?_, fun i => by simp only [Gh.next, Gh.setU]; rw [if_neg (hkne i)]⟩; refine ⟨hk0, by simp only [Gh.next, Gh.setU, if_true]; omega, some ⟨b, off, none⟩, cap, es ++ es', by simp, RepL.mono s1.U s1.imm _ _ (g2.append hx), hsz, by simpa using hle, by simp, by simp, ?_, fun _ => .inr ⟨b, off, _, e', rfl, by simp [Gh.next], setRow_heap w b arr _ e' _ o2, ?_, ?_, o5⟩⟩
 ·rw [Vam]
  by_cases hzz : Va0 es ++ Va0 es' = []
  ·exact .inl hzz
  ·refine .inr ⟨b, off, rfl, ?_, fun j v hj => ⟨?_, ?_⟩⟩
   ·simp only [Gh.next, Gh.setU, if_true, Z0, hl1, hl2, hll, hll', Nat.add_mul]; omega
   ·simp only [World.cell?, setRow_heap w b arr _ e' _ o2]; rcases Zc j (Va0 es).length with hjl | hjl
    ·rw [Zs hjl] at hj
     have hold : w.cell? ⟨b, off + j, none⟩ = some v := by
      rcases g5 with h | ⟨b', off', q1, q2, q3⟩
      ·rw [h] at hjl; simp at hjl
      ·simp at q1; obtain ⟨rfl, rfl⟩ := q1; exact (q3 j v hj).1
     simp only [World.cell?, o2] at hold; simp at hold
     have hlt : off + j < off + l.length * sz := by rw [hl1, hll] at hjl; omega
     have : off + j < (arr.toList.take (off + l.length * sz)).length := by simp; omega
     simp only [List.getElem?_toArray]; rw [Z1, Zs this, List.getElem?_take, if_pos hlt]; simpa using hold
    ·rw [List.getElem?_append_right hjl] at hj
     have htl : (arr.toList.take (off + l.length * sz)).length = off + l.length * sz := by simp; omega
     have hjj : j - (Va0 es).length < (Va0 es').length := by
      rcases Zc (j - (Va0 es).length) (Va0 es').length with h | h
      ·exact h
      ·simp [Zf h] at hj
     have hq : (Va0 es).length = l.length * sz := by rw [hl1, hll]
     have hjj2 : off + j - (off + l.length * sz) < (Va0 es').length := by omega
     simp only [List.getElem?_toArray]; rw [Z1, List.getElem?_append_right (by rw [htl]; omega), htl, Zs hjj2]; rw [show off + j - (off + l.length * sz) = j - (Va0 es).length by omega]; simpa using hj
   ·have := List.mem_of_getElem? hj; rcases Zt.1 this with h | h
    ·exact hcellsOld v h
    ·exact h1' v h
 ·simp only [List.size_toArray, Z0, List.length_take, List.length_drop, Array.length_toList, hl2, hll']; omega
 ·simp only [Gh.next, Gh.setU, if_true, Z0]
theorem Vnc {α : Type} (A z x : List α) (p : Nat) (hp : p <= A.length) (hz : z.length = x.length) :
  (A.take p ++ z ++ A.drop (p + z.length)).take p ++ x ++ (A.take p ++ z ++ A.drop (p + z.length)).drop (p + x.length) = A.take p ++ x ++ A.drop (p + x.length) := by
 have htl : (A.take p).length = p := by simp; omega
 rw [Z1 (A.take p) z, List.take_left' htl]; congr 1
 have : p + x.length = (A.take p).length + z.length := by rw [htl, hz]
 rw [this, List.drop_append, List.drop_eq_nil_of_le (by omega), List.nil_append, Nat.add_sub_cancel_left, List.drop_left' rfl, htl]
def PushTo (P : Program) (G : Gh) (w : World) (S : St) (a : Act) (k : Key) (g sz : Nat) (l : List AV) (x : AV) (u v0 vx : Value) (ty t : TypeId) : Prop :=
 ∃ b off cap w1 arr1 arr2 e1 G', (Builtin.append_ #[t, t] ty #[u, v0]).run P w = .ok (.slice (some ⟨b, off, none⟩) (l.length + 1) cap) w1 /\ w1.heap[b]? = some (.cells arr1 e1 (0, 0)) /\
  (∀ W : World, W.heap[b]? = some (.cells arr1 e1 (0, 0)) -> (storeCells ⟨b, off + l.length * sz, none⟩ vx.cells.toList).run P W = .ok () (W.setRow b arr2)) /\ Step G w G' (w1.setRow b arr2) /\ Rel G' (w1.setRow b arr2) (S.next k) a /\
  RepS G' (w1.setRow b arr2) (.own k (g + 1) sz (l ++ [x])) (.slice (some ⟨b, off, none⟩) (l.length + 1) cap) /\ (∀ i, G'.ow (i, 0) = G.ow (i, 0)) /\ ∀ κ c, κ ≠ k -> G.ow κ = some c -> c ≠ b /\ w1.heap[c]? = w.heap[c]?
theorem push_own {t ty e : TypeId} {sz bt : Nat} {z : Value} (ht : tElem P t = some e) (h2 : notInt P t = true) (hi : tInfo P e = some (sz, bt, some z)) (hz : z.cells.size = sz) (hbt : 0 < bt)
  {G : Gh} {w : World} {S : St} {a : Act} {k : Key} {g : Nat} {l : List AV} {x0 x : AV} {u v0 vx : Value} {es0 : List Value} (hr : Rel G w S a) (hown : RepS G w (.own k g sz l) u) (hke : e + 1 = k.2) (hgen : S.gen k = g) (h0 : Src P w G.U sz v0 [x0] es0) (hu0 : Uni sz [x0])
  (hx : Rep G.U w x vx) (hux : Uni sz [x]) (hb : (l.length + 1) * bt <= 140737488355328) :
  PushTo P G w S a k g sz l x u v0 vx ty t := by
 obtain ⟨hk0, hgle, ad, cap, es, rfl, g2, g3, g4, gn, gsp, g5, g6⟩ := hown
 have hgg : G.gen k = g := by rw [hr.gn k]; exact hgen
 have g6 := g6 hgg
 have hes0 := hu0.sizes h0.rep
 have hrx : RepL G.U w [x] [vx] := by simp only [RepL]; exact ⟨vx, [], rfl, hx, rfl⟩
 have hvx := hux.sizes hrx
 have hcx := hrx.cells hux
 have hc0 := h0.rep.cells hu0
 have hl1 := Va3 es g3
 have hl0 := Va3 es0 hes0
 have hlx := Va3 [vx] hvx
 have hll := g2.length
 have hll0 := h0.rep.length
 have e0 : es0.length = 1 := by simpa using hll0
 have hvv : Va0 [vx] = vx.cells.toList := by simp [Va0]
 rw [e0] at hl0; simp only [List.length_singleton] at hlx
 have hl0x : (Va0 es0).length = (Va0 [vx]).length := by omega
 have grow : cap < l.length + 1 -> (ad = none -> es = []) -> PushTo P G w S a k g sz l x (.slice ad l.length cap) v0 vx ty t := by
  intro hlt hn; obtain ⟨nc, rest, q1, q2, q3⟩ := run_append_grow (ty := ty) ht h2 hi hz hbt (w := w) (a := ad) (n := l.length) (cap := cap) (m := 1) (x := v0) (olds := Va0 es) (news := Va0 es0) (h0.len w rfl)
   (fun w' hw => Vcl g5 g3 hll hn w' hw) (fun w' hw => h0.cells w' hw) hlt hb
  obtain ⟨G', s1, s2, s3, s4⟩ := own_grown (rest := rest) (nc := nc) (cap := cap) hr hk0 hke hgg g2 g3 g5 hrx hux (by simpa using q1) (by simpa using q2)
  have htl : (Va0 es).length = l.length * sz := by rw [hl1, hll]
  have hst : ∀ W : World, W.heap[w.heap.size]? = some (.cells (Va0 es ++ Va0 es0 ++ rest).toArray e (0, 0)) -> (storeCells ⟨w.heap.size, 0 + l.length * sz, none⟩ vx.cells.toList).run P W = .ok () (W.setRow w.heap.size (Va0 es ++ Va0 [vx] ++ rest).toArray) := by
   intro W hW; rw [Nat.zero_add]
   have hst := run_storeCells_at (P := P) w.heap.size (l.length * sz) e (Va0 [vx]) 0 (Va0 es ++ Va0 es0 ++ rest).toArray W hW (by simp only [List.size_toArray, Z0, hl1, hll]; omega) hcx; simp only [Nat.add_zero] at hst; rw [hvv] at hst; rw [hst]; congr 3; rw [hvv] at hl0x; rw [Z1 (Va0 es), List.take_left' htl, hvv]; congr 1; rw [<- htl, List.drop_append, List.drop_eq_nil_of_le (by omega), List.nil_append, Nat.add_sub_cancel_left, List.drop_left' hl0x]
  have hw : (w.drew.alloc (.cells (Va0 es ++ Va0 es0 ++ rest).toArray e)).setRow w.heap.size (Va0 es ++ Va0 [vx] ++ rest).toArray = w.drew.alloc (.cells (Va0 es ++ Va0 [vx] ++ rest).toArray e) := Vp2 w.drew _ _ e; refine ⟨w.heap.size, 0, nc, _, _, (Va0 es ++ Va0 [vx] ++ rest).toArray, e, G', q3, heap_alloc_new w.drew _, hst, ?_, ?_, ?_, s4, fun κ c _ hκ => ?_⟩
  ·rw [hw]; exact s1
  ·rw [hw]; exact s2
  ·rw [hw]; exact s3
  ·have := hr.wf.lt κ c hκ; exact ⟨by omega, heap_alloc_lt w.drew _ this⟩
 rcases g6 with rfl | ⟨b, off, arr, e', rfl, o1, o2, o3, o4, o5⟩
 ·have hl00 : l.length = 0 := by omega
  have hes00 : es = [] := List.length_eq_zero_iff.1 (by omega); exact grow (by omega) (fun _ => hes00)
 ·by_cases hle : l.length + 1 <= cap
  ·have hmul : (l.length + 1) * sz <= cap * sz := Nat.mul_le_mul_right _ hle; rw [Nat.add_mul] at hmul
   have hst := run_storeCells_at (P := P) b (off + l.length * sz) e' (Va0 es0) 0 arr w o2 (by omega) hc0; simp only [Nat.add_zero] at hst
   have hst2 : ∀ W : World, W.heap[b]? = some (.cells (arr.toList.take (off + l.length * sz) ++ Va0 es0 ++ arr.toList.drop (off + l.length * sz + (Va0 es0).length)).toArray e' (0, 0)) ->
     (storeCells ⟨b, off + l.length * sz, none⟩ vx.cells.toList).run P W = .ok () (W.setRow b (arr.toList.take (off + l.length * sz) ++ Va0 [vx] ++ arr.toList.drop (off + l.length * sz + (Va0 [vx]).length)).toArray) := by
    intro W hW
    have hst2 := run_storeCells_at (P := P) b (off + l.length * sz) e' (Va0 [vx]) 0 (arr.toList.take (off + l.length * sz) ++ Va0 es0 ++ arr.toList.drop (off + l.length * sz + (Va0 es0).length)).toArray
     W hW (by simp only [List.size_toArray, Z0, List.length_take, List.length_drop, Array.length_toList]; omega) hcx
    simp only [Nat.add_zero] at hst2; rw [hvv] at hst2 hl0x ⊢; rw [hst2]; congr 3
    have := Vnc arr.toList (Va0 es0) vx.cells.toList (off + l.length * sz) (by rw [show arr.toList.length = arr.size from Array.length_toList]; omega) hl0x; simpa using this
   obtain ⟨G', s1, s2, s3, s4⟩ := own_room hr hk0 hgg g2 g3 g5 o1 o2 o3 o4 o5 hrx hux (by simpa using hle); refine ⟨b, off, cap, _, _, _, e', G', run_append_place (ty := ty) ht h2 hi (h0.len w rfl) (h0.cells w rfl) (by simpa using hle) hst, setRow_heap w b arr _ e' _ o2, hst2, ?_, ?_, ?_, s4, fun κ c hne hκ => ?_⟩
   ·rw [Ve9]; exact s1
   ·rw [Ve9]; exact s2
   ·rw [Ve9]; exact s3
   ·have hcb : c ≠ b := fun he => hne (hr.wf.inj κ k b (he ▸ hκ) o1)
    exact ⟨hcb, setRow_other w b c _ hcb⟩
  ·exact grow (by omega) (by simp)
end Go.Eng
