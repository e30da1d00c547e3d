/- Texts joined by a program (merge.py). -/
import Derived.Test.YtnpedjbgchdkbaaGreatDoorMpf
import Derived.Test.YtnpedjbgchdkbaaGreatDoorMpa
import Derived.Lib.FrozenHead
import Derived.Test.YtnpedjbgchdkbaaGreatDoorMpb
import Derived.RangeFuncLeaves
import Derived.RangeFuncCalls
import Derived.Scope
import Derived.OrdersIn
import Derived.Test.YtnpedjbgchdkbaaGreatDoorMpd
set_option linter.unusedSimpArgs false
set_option linter.unusedVariables false
open Nat renaming le_refl -> Za
open Array renaming length_toList -> Zb
open Int renaming ofNat_eq_natCast -> Zc
open List renaming getElem?_eq_none -> Zd
open Option renaming map_eq_some_iff -> Ze
open Nat renaming lt_or_ge -> Zf
open List renaming length_take -> Zg
open List renaming getElem?_append_left -> Zh
open List renaming getElem?_eq_getElem -> Zi
open List renaming map_cons -> Zj
open List renaming length_append -> Zk
open Nat renaming le_of_ble_eq_true -> Zl
open List renaming getElem?_append_right -> Zm
open Array renaming toList_inj -> Zn
open Nat renaming beq_eq -> Zo
open List renaming getElem?_cons_succ -> Zp
open Nat renaming lt_of_lt_of_le -> Zq
open Bool renaming eq_iff_iff -> Zr
open Array renaming getD_eq_getD_getElem? -> Zs
open Nat renaming zero_add -> Zt
open List renaming getElem_mem -> Zu
open List.cons renaming injEq -> Zv
open List renaming getElem?_take -> Zw
open Bool renaming false_eq_true -> Zx
open List renaming length_eq_zero_iff -> Zy
open Array renaming range -> Zz
open Option.some renaming injEq -> Z0
open List renaming getElem?_map -> Z1
open Int renaming negSucc_eq -> Z2
open List renaming length_drop -> Z3
open Nat renaming add_assoc -> Z4
namespace Go.CE
theorem on_b_ok {α : Type} {x : CVal} {f : Bool -> α} {z : α} : (∃ b, x = .b b /\ on_b x f z = f b) \/ on_b x f z = z := by cases x <;> first | exact .inl ⟨_, rfl, rfl⟩ | exact .inr rfl
theorem on_i_ok {α : Type} {x : CVal} {f : IntKind -> Int -> α} {z : α} : (∃ k n, x = .i k n /\ on_i x f z = f k n) \/ on_i x f z = z := by cases x <;> first | exact .inl ⟨_, _, rfl, rfl⟩ | exact .inr rfl
theorem on_p_ok {α : Type} {x : CVal} {f : ID -> Nat -> α} {z : α} : (∃ b o, x = .p b o /\ on_p x f z = f b o) \/ on_p x f z = z := by cases x <;> first | exact .inl ⟨_, _, rfl, rfl⟩ | exact .inr rfl
theorem on_sl_ok {α : Type} {x : CVal} {f : ID -> Nat -> Nat -> Nat -> α} {z : α} : (∃ b o n sz, x = .sl b o n sz /\ on_sl x f z = f b o n sz) \/ on_sl x f z = z := by cases x <;> first | exact .inl ⟨_, _, _, _, rfl, rfl⟩ | exact .inr rfl
theorem on_tu_ok {α : Type} {x : CVal} {f : List CVal -> α} {z : α} : (∃ l, x = .tu l /\ on_tu x f z = f l) \/ on_tu x f z = z := by cases x <;> first | exact .inl ⟨_, rfl, rfl⟩ | exact .inr rfl
theorem Vgd {x : CVal} {f : IntKind -> Int -> Rs} {v : CVal} {hp : HT} {nx : ID} (h : on_i x f .no = .ok v hp nx) : ∃ k n, x = .i k n /\ f k n = .ok v hp nx := by cases x <;> first | exact ⟨_, _, rfl, h⟩ | cases h
theorem Vhu {x : CVal} {f : List Nat -> Rs} {v : CVal} {hp : HT} {nx : ID} (h : on_s x f .no = .ok v hp nx) : ∃ l, x = .s l /\ f l = .ok v hp nx := by cases x <;> first | exact ⟨_, rfl, h⟩ | cases h
theorem Vns {x : CVal} {f : ID -> Nat -> Rs} {v : CVal} {hp : HT} {nx : ID} (h : on_p x f .no = .ok v hp nx) : ∃ b o, x = .p b o /\ f b o = .ok v hp nx := by cases x <;> first | exact ⟨_, _, rfl, h⟩ | cases h
theorem on_sl_no {x : CVal} {f : ID -> Nat -> Nat -> Nat -> Rs} {v : CVal} {hp : HT} {nx : ID} (h : on_sl x f .no = .ok v hp nx) : ∃ b o n sz, x = .sl b o n sz /\ f b o n sz = .ok v hp nx := by cases x <;> first | exact ⟨_, _, _, _, rfl, h⟩ | cases h
theorem on_mp_no {x : CVal} {f : ID -> Rs} {v : CVal} {hp : HT} {nx : ID} (h : on_mp x f .no = .ok v hp nx) : ∃ b, x = .mp b /\ f b = .ok v hp nx := by cases x <;> first | exact ⟨_, rfl, h⟩ | cases h
theorem Vj0 {x : CVal} {f : List CVal -> Rs} {v : CVal} {hp : HT} {nx : ID} (h : on_ag x f .no = .ok v hp nx) : ∃ l, x = .ag l /\ f l = .ok v hp nx := by cases x <;> first | exact ⟨_, rfl, h⟩ | cases h
theorem Vad {v : CVal} {hp : HT} {nx : ID} {p : Prop} (h : Rs.no = .ok v hp nx) : p := by cases h
theorem Ve6 {c : Option CVal} {S : St} {v : CVal} {hp : HT} {nx : ID} (h : tell c S = .ok v hp nx) : c = some v /\ hp = S.hp /\ nx = S.nx := by
 unfold tell at h; split at h
 ·cases h; exact ⟨rfl, rfl, rfl⟩
 ·cases h
theorem Vk0 {c : Option CVal} {S : St} {v : CVal} {hp : HT} {nx : ID} (h : S.opt c = .ok v hp nx) : c = some v /\ hp = S.hp /\ nx = S.nx := by
 unfold St.opt at h; split at h
 ·cases h; exact ⟨rfl, rfl, rfl⟩
 ·cases h
theorem Vaa {v v' : CVal} {hp hp' : HT} {nx nx' : ID} (h : Rs.ok v hp nx = .ok v' hp' nx') : v = v' /\ hp = hp' /\ nx = nx' := by cases h; exact ⟨rfl, rfl, rfl⟩
section
variable {P : Program}
theorem Vcr {t : TypeId} {n : Nat} (h : Vd3 P t = some n) (w : World) : (sizeOf t).run P w = .ok n w := by
 simp only [Vd3, Ze] at h; obtain ⟨i, h1, h2⟩ := h; simp [sizeOf, Eng.run_typeInfo' h1, h2]
theorem Vd9 {t : TypeId} {z : Value} (h : Vip P t = some z) (w : World) : (zeroValue t).run P w = .ok z w := by
 simp only [Vip, Option.bind_eq_some_iff] at h; obtain ⟨i, h1, h2⟩ := h; simp [zeroValue, Eng.run_typeInfo' h1, h2]
theorem run_agg {t : TypeId} {b : Bool} (h : tAgg P t = some b) (w : World) : (isAgg t).run P w = .ok b w := by
 simp only [tAgg, Ze] at h; obtain ⟨d, h1, h2⟩ := h; simp only [isAgg, Sem.run_bind, Eng.run_underlying' h1, Result.andThen_ok]; cases d <;> simp_all
theorem Vn7 {t : TypeId} {n : Nat} (h : Vd3 P t = some n) : ∃ bt z, Eng.tInfo P t = some (n, bt, z) := by
 simp only [Vd3, Ze] at h; obtain ⟨i, h1, h2⟩ := h; exact ⟨i.bytes, i.zero, by simp [Eng.tInfo, h1, h2]⟩
end
theorem str_map (s : ByteArray) : str (s.data.toList.map UInt8.toNat) = s := by
 unfold str
 have : (s.data.toList.map UInt8.toNat).map UInt8.ofNat = s.data.toList := by
  rw [List.map_map]
  conv => rhs; rw [<- List.map_id s.data.toList]
  apply List.map_congr_left; intro x _; simp
 rw [this]
theorem Vom (ρ : Loc) (v : Value) (h : v.oneCell' = true) : VR ρ (Vfl v) v := by
 unfold Vfl
 split
 ·simp only [VR]
 ·simp only [VR]
 ·rename_i s; simp only [VR]; refine ⟨by rw [str_map], fun x hx => ?_⟩; simp only [List.mem_map] at hx; obtain ⟨y, _, rfl⟩ := hx; exact y.toNat_lt
 ·rw [h]; simp only [VR]; exact ⟨trivial, h⟩
theorem Vfp (ρ : Loc) : ∀ (l : List Value), (∀ c ∈ l, c.oneCell' = true) -> VRs ρ (l.map Vfl) l
 | [], _ => by simp [VRs]
 | c :: l, h => by
  simp only [Zj, VRs]; exact ⟨c, l, rfl, Vom ρ c (h c (by simp)), Vfp ρ l (fun x hx => h x (by simp [hx]))⟩
theorem VR_constC (ρ : Loc) (v : Value) : VR ρ (Vfl v) v := by
 cases h : v.oneCell' with
 | true => exact Vom ρ v h
 | false =>
  unfold Vfl
  split
  ·simp only [VR]
  ·simp only [VR]
  ·simp [Value.oneCell'] at h
  ·rw [h]; simp only [VR]
theorem Vr0 (ρ : Loc) (v : Value) : VR ρ (ofV v) v := by
 unfold ofV
 split
 ·rename_i cs
  split
  ·rename_i hc; simp only [VR]
   have h1 : ∀ c ∈ cs.toList, c.oneCell' = true := fun c hc' => List.all_eq_true.1 hc c hc'
   exact ⟨cs, rfl, Vfp ρ _ h1, h1⟩
  ·simp only [VR]
 ·exact VR_constC ρ v
theorem CR.ev {ρ : Loc} {nt : Nat} {S : St} {w : World} {a : Act} (h : CR ρ nt S w a) (x : Operand) : VR ρ ((trX x).get S) (a.eval x) := by
 cases x with
 | tmp t =>
  have key : ∀ (r : XF), (match Nat.blt t 576 with
   | true => (match slot t with
    | .lo a b => ⟨fun S => sel b (sel a S.lo)⟩
    | .hi a b c => ⟨fun S => sel c (sel b (sel a S.hi))⟩ : XF)
   | false => ⟨fun _ => .junk⟩) = r -> VR ρ (r.get S) (a.eval (.tmp t)) := by
   intro r hr; subst hr; cases hb : Nat.blt t 576 with
   | false => simp only [VR]
   | true =>
    have ht : @LT.lt Nat _ t 576 := by rw [<- Nat.blt_eq]; exact hb
    have h1 := h.fr t ht; simp only; cases hs : slot t with
    | lo a' b => rw [hs] at h1; exact h1
    | hi a' b c => rw [hs] at h1; exact h1
  exact key _ rfl
 | const v => exact Vr0 ρ v
 | global g => simp only [trX, VR]
 | func f => simp only [trX, VR]; exact ⟨#[], #[], rfl, by simp [VRs], by simp [VRs]⟩
end Go.CE
namespace Go.CE
variable {P : Program}
def PureS (P : Program) (o : Oper) (ev : Operand -> CVal) (v : CVal) : Prop :=
 ∀ (ρ : Loc) (a : Act), (∀ x ∈ o.op.operands, VR ρ (ev x) (a.eval x)) -> ∀ w, ∃ u, (execOp a.eval o).run P w = .ok (.value u) w /\ VR ρ v u
noncomputable abbrev evS (S : St) : Operand -> CVal := fun x => (trX x).get S
def Pure (P : Program) (o : Oper) (call : Vag) : Prop :=
 ∀ (S : St) (v : CVal) (hp : HT) (nx : ID), (trO P o).run call S = .ok v hp nx -> hp = S.hp /\ nx = S.nx /\ PureS P o (evS S) v
theorem Vj9 (k : IntKind) (n : Nat) (h : n <= lim k) : k.wrap (Int.ofNat n) = Int.ofNat n := by
 cases k <;> simp only [lim] at h
 ·exact IntWalk.i8_in _ (by simp only [Zc]; omega)
 ·exact IntWalk.i16_in _ (by simp only [Zc]; omega)
 ·exact IntWalk.i32_in _ (by simp only [Zc]; omega)
 ·exact IntWalk.i64_in _ (by simp only [Zc]; omega)
 ·exact IntWalk.u8_in _ (by simp only [Zc]; omega)
 ·exact IntWalk.u16_in _ (by simp only [Zc]; omega)
 ·exact IntWalk.u32_in _ (by simp only [Zc]; omega)
 ·exact IntWalk.u64_in _ (by simp only [Zc]; omega)
theorem Vj3 (k : IntKind) (n : Nat) (m : Int) (h : m = Int.ofNat n) : keepN k n (.i k (k.wrap m)) = .i k (k.wrap m) := by
 unfold keepN; cases hb : Nat.ble n (lim k) with
 | false => rfl
 | true => rw [bc_t, h, Vj9 k n (Zl hb)]
theorem addQ_eq (k : IntKind) (a b : Int) : addQ k a b = .i k (k.wrap (a + b)) := by
 cases a with
 | ofNat m =>
  cases b with
  | ofNat n => exact Vj3 k (m + n) _ rfl
  | negSucc n => rfl
 | negSucc m => rfl
theorem mulQ_eq (k : IntKind) (a b : Int) : mulQ k a b = .i k (k.wrap (a * b)) := by
 cases a with
 | ofNat m =>
  cases b with
  | ofNat n => exact Vj3 k (m * n) _ rfl
  | negSucc n => rfl
 | negSucc m => rfl
theorem subQ_eq (k : IntKind) (a b : Int) : subQ k a b = .i k (k.wrap (a - b)) := by
 cases a with
 | ofNat m =>
  cases b with
  | ofNat n =>
   show bc (Nat.ble n m) _ _ = _; cases hb : Nat.ble n m with
   | false => rfl
   | true =>
    have := Zl hb; exact Vj3 k (m - n) _ (by simp only [Zc]; omega)
  | negSucc n => rfl
 | negSucc m => rfl
theorem ilt_eq (a b : Int) : ilt a b = decide (a < b) := by
 cases a with
 | ofNat m =>
  cases b with
  | ofNat n =>
   show Nat.blt m n = _; rw [Zr, Nat.blt_eq]; simp
  | negSucc n => show false = _; symm; rw [decide_eq_false_iff_not]; simp only [Zc, Z2]; omega
 | negSucc m =>
  cases b with
  | ofNat n => show true = _; symm; rw [decide_eq_true_iff]; simp only [Zc, Z2]; omega
  | negSucc n =>
   show Nat.blt n m = _; rw [Zr, Nat.blt_eq, decide_eq_true_iff]; simp only [Z2]; omega
theorem ieq_eq (a b : Int) : ieq a b = (a == b) := by
 cases a with
 | ofNat m =>
  cases b with
  | ofNat n => show Nat.beq m n = _; rw [Zr, Zo, beq_iff_eq]; simp only [Zc]; omega
  | negSucc n => show false = _; symm; rw [beq_eq_false_iff_ne]; simp only [Zc, Z2]; omega
 | negSucc m =>
  cases b with
  | ofNat n => show false = _; symm; rw [beq_eq_false_iff_ne]; simp only [Zc, Z2]; omega
  | negSucc n =>
   show Nat.beq m n = _; rw [Zr, Zo, beq_iff_eq]; simp only [Z2]; omega
theorem Vfx {j k : IntKind} (h : Vnx j k = true) : j = k := by cases j <;> cases k <;> first | rfl | (simp [Vnx] at h)
theorem Voc {c : Bool} {r : Rs} {v : CVal} {hp : HT} {nx : ID} (h : bc c r .no = .ok v hp nx) : c = true /\ r = .ok v hp nx := by
 cases c with
 | true => exact ⟨rfl, h⟩
 | false => cases h
theorem Vdr {o : Oper} {call : Vag} {x : Operand} (ho : o.op = .move x \/ o.op = .assign x) : Pure P o call := by
 intro S v hp nx h
 have h' : Rs.ok ((trX x).get S) S.hp S.nx = .ok v hp nx := by rcases ho with ho | ho <;> (unfold trO at h; rw [ho] at h; exact h)
 obtain ⟨rfl, rfl, rfl⟩ := Vaa h'; exact ⟨rfl, rfl, fun ρ a hx w => ⟨a.eval x, by rcases ho with ho | ho <;> simp [execOp, ho], hx x (by rcases ho with ho | ho <;> simp [ho, Op.operands])⟩⟩
theorem Vjx {o : Oper} {call : Vag} {c x y : Operand} (ho : o.op = .pick c x y) : Pure P o call := by
 intro S v hp nx h; unfold trO at h; rw [ho] at h; rcases on_b_ok (x := (trX c).get S) (f := fun q => Rs.ok (bc q ((trX x).get S) ((trX y).get S)) S.hp S.nx) (z := .no) with ⟨b, h1, h2⟩ | h2
 ·have h := h2.symm.trans h; obtain ⟨rfl, rfl, rfl⟩ := Vaa h; refine ⟨rfl, rfl, fun ρ a hx w => ⟨if b then a.eval x else a.eval y, ?_, ?_⟩⟩
  ·have h3 := hx c (by simp [ho, Op.operands]); simp only [evS, h1, VR] at h3; simp [execOp, ho, h3, asBool]
  ·cases b
   ·exact hx y (by simp [ho, Op.operands])
   ·exact hx x (by simp [ho, Op.operands])
 ·exact Vad (h2.symm.trans h)
theorem Vf4 {o : Oper} {call : Vag} {x : Operand} {i : Nat} (ho : o.op = .extract x i) : Pure P o call := by
 intro S v hp nx h; unfold trO at h; rw [ho] at h; rcases on_tu_ok (x := (trX x).get S) (f := fun l => match l[i]? with | some v => Rs.ok v S.hp S.nx | none => .no) (z := .no) with ⟨l, h1, h2⟩ | h2
 ·have h := h2.symm.trans h; cases hl : l[i]? with
  | none => simp only [hl] at h; cases h
  | some y =>
   simp only [hl] at h; obtain ⟨rfl, rfl, rfl⟩ := Vaa h; refine ⟨rfl, rfl, fun ρ a hx w => ?_⟩
   have h3 := hx x (by simp [ho, Op.operands]); simp only [evS, h1, VR] at h3; obtain ⟨us, h4, h5⟩ := h3; obtain ⟨u, h6, h7⟩ := h5.get i _ hl
   have h8 : us[i]? = some u := by simpa using h6
   exact ⟨u, by simp [execOp, ho, h4, Instr.extract, h8], h7⟩
 ·exact Vad (h2.symm.trans h)
theorem Vea {o : Oper} {call : Vag} {x : Operand} (ho : o.op = .nilCheck x) : Pure P o call := by
 intro S v hp nx h; unfold trO at h; rw [ho] at h; simp only at h; cases hx : (trX x).get S with
 | p b off =>
  rw [hx] at h; obtain ⟨rfl, rfl, rfl⟩ := Vaa h; refine ⟨rfl, rfl, fun ρ a ha w => ?_⟩
  have h3 := ha x (by simp [ho, Op.operands]); simp only [evS, hx] at h3
  have h4 := h3; simp only [VR] at h3; obtain ⟨_, _, _, _, h5⟩ := h3; exact ⟨_, by simp only [execOp, ho, h5]; rfl, by rw [<- h5]; exact h4⟩
 | fn f fs cs =>
  rw [hx] at h; cases f with
  | func g =>
   obtain ⟨rfl, rfl, rfl⟩ := Vaa h; refine ⟨rfl, rfl, fun ρ a ha w => ?_⟩
   have h3 := ha x (by simp [ho, Op.operands]); simp only [evS, hx] at h3
   have h4 := h3; simp only [VR] at h3; obtain ⟨_, _, h5, _⟩ := h3; exact ⟨_, by simp only [execOp, ho, h5]; rfl, by rw [<- h5]; exact h4⟩
  | _ => cases h
 | yl b =>
  rw [hx] at h; obtain ⟨rfl, rfl, rfl⟩ := Vaa h; refine ⟨rfl, rfl, fun ρ a ha w => ?_⟩
  have h3 := ha x (by simp [ho, Op.operands]); simp only [evS, hx] at h3
  have h4 := h3; simp only [VR] at h3; obtain ⟨_, _, _, _, h5⟩ := h3; exact ⟨_, by simp only [execOp, ho, h5]; rfl, by rw [<- h5]; exact h4⟩
 | _ => rw [hx] at h; cases h
theorem Vdi {o : Oper} {call : Vag} {s : TypeId} {x : Operand} {f : Nat} (ho : o.op = .fieldAddr s x f) : Pure P o call := by
 intro S v hp nx h; unfold trO at h; rw [ho] at h; simp only at h
 split at h
 ·rename_i fs hu
  split at h
  ·rename_i fd hf
   split at h
   ·rename_i n hn; rcases on_p_ok (x := (trX x).get S) (f := fun b o => Rs.ok (.p b (o + fd.offset)) S.hp S.nx) (z := .no) with ⟨b, k, h1, h2⟩ | h2
    ·have h := h2.symm.trans h; obtain ⟨rfl, rfl, rfl⟩ := Vaa h; refine ⟨rfl, rfl, fun ρ a ha w => ?_⟩
     have h3 := ha x (by simp [ho, Op.operands]); simp only [evS, h1, VR] at h3; obtain ⟨blk, off, room, h4, h5⟩ := h3; obtain ⟨bt, z, hti⟩ := Vn7 hn
     have hfd : Eng.tField P s f = some (fd.offset, fd.type) := by simp [Eng.tField, hu, hf]
     refine ⟨_, by simp only [execOp, ho, h5, Sem.run_bind, Eng.run_fieldAt hfd hti (by omega)]; rfl, ?_⟩; simp only [VR]; exact ⟨blk, off, room, h4, by rw [Z4]⟩
    ·exact Vad (h2.symm.trans h)
   ·exact Vad h
  ·exact Vad h
 ·exact Vad h
theorem Veb {o : Oper} {call : Vag} {f : Fn} {first captured : Array Operand} (ho : o.op = .makeFunc f first captured) : Pure P o call := by
 intro S v hp nx h; unfold trO at h; rw [ho] at h; obtain ⟨rfl, rfl, rfl⟩ := Vaa h; refine ⟨rfl, rfl, fun ρ a ha w => ⟨_, by simp [execOp, ho, Instr.makeFunc]; rfl, ?_⟩⟩
 have key : ∀ l : List Operand, (∀ x ∈ l, VR ρ ((trX x).get S) (a.eval x)) -> VRs ρ ((trL l).get S) (l.map a.eval) := by
  intro l
  induction l with
  | nil => intro _; simp [trL, VRs]
  | cons x l ih => intro hl; simp only [trL, Zj, VRs]; exact ⟨_, _, rfl, hl x (by simp), ih (fun y hy => hl y (by simp [hy]))⟩
 simp only [VR]; refine ⟨_, _, rfl, ?_, ?_⟩
 ·simpa using key first.toList (fun x hx => ha x (by simp [ho, Op.operands]; left; simpa using hx))
 ·simpa using key captured.toList (fun x hx => ha x (by simp [ho, Op.operands]; right; simpa using hx))
end Go.CE
namespace Go.CE
variable {P : Program}
theorem VR.i_eq {ρ : Loc} {k : IntKind} {n : Int} {u : Value} (h : VR ρ (.i k n) u) : u = .int k n := by simpa only [VR] using h
theorem VR.b_eq {ρ : Loc} {b : Bool} {u : Value} (h : VR ρ (.b b) u) : u = .bool b := by simpa only [VR] using h
theorem VR.s_eq {ρ : Loc} {l : List Nat} {u : Value} (h : VR ρ (.s l) u) : u = .string (str l) /\ ∀ x ∈ l, x < 256 := by simpa only [VR] using h
theorem VR_i (ρ : Loc) (k : IntKind) (n : Int) : VR ρ (.i k n) (.int k n) := by simp only [VR]
theorem VR_b (ρ : Loc) (b : Bool) : VR ρ (.b b) (.bool b) := by simp only [VR]
theorem Vbr {o : Oper} {call : Vag} {t : TypeId} {x : Operand} (ho : o.op = .makeInterface t x) : Pure P o call := by
 intro S v hp nx h; unfold trO at h; rw [ho] at h; simp only at h
 split at h
 ·exact Vad h
 ·rename_i d hne hd; obtain ⟨rfl, rfl, rfl⟩ := Vaa h; refine ⟨rfl, rfl, fun ρ a ha w => ⟨.iface t (a.eval x), ?_, ?_⟩⟩
  ·simp only [execOp, ho, Instr.makeInterface, Sem.run_bind, Eng.run_underlying' hd, Result.andThen_ok]; cases d <;> first | rfl | exact (hne _ rfl).elim
  ·simp only [VR]; exact ⟨_, rfl, ha x (by simp [ho, Op.operands])⟩
 ·exact Vad h
theorem Vci (l : List Nat) : (str l).size = l.length := by show (l.map UInt8.ofNat).toArray.size = _; simp
theorem str_get (l : List Nat) (i : Nat) (h : i < l.length) : (str l)[i]? = some (UInt8.ofNat l[i]) := by
 have hs : i < (str l).size := by rw [Vci]; exact h
 rw [getElem?_pos (str l) i hs]
 have key : ∀ (q : Array UInt8) (hq : i < q.size), q = (l.map UInt8.ofNat).toArray -> q[i]'hq = UInt8.ofNat l[i] := by rintro q hq rfl; simp
 exact congrArg some (key (str l).data hs rfl)
theorem Ve7 (l : List Nat) : (str l).data.toList = l.map UInt8.ofNat := by simp [str]
theorem str_ext {a b : ByteArray} (h : a.data.toList = b.data.toList) : a = b := by
 cases a; cases b; congr 1; exact Zn.1 h
theorem str_append (a b : List Nat) : str a ++ str b = str (a ++ b) := by
 apply str_ext; simp [Ve7, ByteArray.data_append]
theorem str_inj {a b : List Nat} (ha : ∀ x ∈ a, x < 256) (hb : ∀ x ∈ b, x < 256) (h : str a = str b) : a = b := by
 have h1 : a.map UInt8.ofNat = b.map UInt8.ofNat := by rw [<- Ve7, <- Ve7, h]
 have key : ∀ l : List Nat, (∀ x ∈ l, x < 256) -> (l.map UInt8.ofNat).map UInt8.toNat = l := by
  intro l hl; rw [List.map_map]
  conv => rhs; rw [<- List.map_id l]
  exact List.map_congr_left (fun x hx => by simp [hl x hx])
 rw [<- key a ha, <- key b hb, h1]
theorem Vpr : ∀ (a b : List Nat), leq a b = decide (a = b)
 | [], [] => by simp [leq]
 | [], _ :: _ => by simp [leq]
 | _ :: _, [] => by simp [leq]
 | x :: a, y :: b => by
  unfold leq; cases h : Nat.beq x y with
  | true => rw [Zo] at h; subst h; simp only [Vpr a b]; simp
  | false =>
   have : x ≠ y := fun e => by subst e; rw [Nat.beq_refl] at h; cases h
   simp [this]
theorem bytes_beq {a b : ByteArray} : (a == b) = decide (a = b) := by
 rw [Zr, decide_eq_true_iff]; exact Eng.bytes_eq
theorem leq_str {a b : List Nat} (ha : ∀ x ∈ a, x < 256) (hb : ∀ x ∈ b, x < 256) : (str a == str b) = leq a b := by
 rw [bytes_beq, Vpr, Zr, decide_eq_true_iff, decide_eq_true_iff]; exact ⟨str_inj ha hb, fun h => by rw [h]⟩
theorem eqs_leq {a b : List Nat} (ha : ∀ x ∈ a, x < 256) (hb : ∀ x ∈ b, x < 256) : ((str a).toList == (str b).toList) = leq a b := by
 rw [Vpr, Zr, decide_eq_true_iff, beq_iff_eq]; constructor
 ·intro h; apply str_inj ha hb; apply str_ext; rw [<- Lib.toList_data, <- Lib.toList_data, h]
 ·intro h; rw [h]
theorem Vi3 {op : BinOp} {k : IntKind} {i j : Int} {p : Prop} {r : Value} {c : CVal} (hb : Eng.aBin op (.int k i) (.int k j) = some (p, r)) (hp : p) (hc : ∀ ρ, VR ρ c r) {o : Oper} {ev : Operand -> CVal} {t t' : TypeId} {x y : Operand} (ho : o.op = .binOp op t x y t') (hx : ev x = .i k i) (hy : ev y = .i k j) : PureS P o ev c := by
 intro ρ a ha w
 have h1 := ha x (by simp [ho, Op.operands])
 have h2 := ha y (by simp [ho, Op.operands]); rw [hx] at h1; rw [hy] at h2; obtain ⟨h3, h4⟩ := Eng.aBin_sound (P := P) hb hp t w x y; refine ⟨r, ?_, hc ρ⟩; simp only [execOp, ho, h1.i_eq, h2.i_eq]; simp only [Sem.run_bind] at h3 ⊢; rw [h3]; rfl
theorem Vei {x y : XF} {f : IntKind -> Int -> Int -> CVal} {z : St -> Rs} {call : Vag} {S : St} {v : CVal} {hp : HT} {nx : ID} (h : (ints x y f z).run call S = .ok v hp nx) : (∃ k a b, x.get S = .i k a /\ y.get S = .i k b /\ v = f k a b /\ hp = S.hp /\ nx = S.nx) \/ z S = .ok v hp nx := by
 unfold ints at h; simp only at h; rcases on_i_ok (x := x.get S) (f := fun k a => on_i (y.get S) (fun k' b => bc (Vnx k k') (.ok (f k a b) S.hp S.nx) .no) (z S)) (z := z S) with ⟨k, i, h1, h2⟩ | h2
 ·have h := h2.symm.trans h; rcases on_i_ok (x := y.get S) (f := fun k' b => bc (Vnx k k') (.ok (f k i b) S.hp S.nx) .no) (z := z S) with ⟨k', j, h3, h4⟩ | h4
  ·have h := h4.symm.trans h; obtain ⟨h5, h6⟩ := Voc h; obtain rfl := Vfx h5; obtain ⟨rfl, rfl, rfl⟩ := Vaa h6; exact .inl ⟨k, i, j, h1, h3, rfl, rfl, rfl⟩
  ·exact .inr (h4.symm.trans h)
 ·exact .inr (h2.symm.trans h)
theorem bin_str {op : BinOp} {o : Oper} {ev : Operand -> CVal} {t t' : TypeId} {x y : Operand} {l l' : List Nat} {c : CVal} (ho : o.op = .binOp op t x y t') (hx : ev x = .s l) (hy : ev y = .s l') (hc : cStr op l l' = some c) : PureS P o ev c := by
 intro ρ a ha w
 have h1 := ha x (by simp [ho, Op.operands])
 have h2 := ha y (by simp [ho, Op.operands]); rw [hx] at h1; rw [hy] at h2; obtain ⟨g1, g2⟩ := h1.s_eq; obtain ⟨q1, q2⟩ := h2.s_eq
 have run : ∀ {p : Prop} {r : Value}, Eng.aBin op (.string (str l)) (.string (str l')) = some (p, r) -> p -> VR ρ c r -> ∃ u, (execOp a.eval o).run P w = .ok (.value u) w /\ VR ρ c u := by
  intro p r hb hp hv; obtain ⟨h3, h4⟩ := Eng.aBin_sound (P := P) hb hp t w x y; refine ⟨r, ?_, hv⟩; simp only [execOp, ho, g1, q1]; simp only [Sem.run_bind] at h3 ⊢; rw [h3]; rfl
 unfold cStr at hc
 split at hc
 ·split at hc
  ·rename_i hle; cases hc
   have hle' := Zl hle; refine run (p := (((str l).size + (str l').size : Nat) : Int) <= IntKind.i64.max) (r := .string (str l ++ str l')) (by simp [Eng.aBin]) (by rw [Vci, Vci]; simp [IntKind.max, IntKind.signed, IntKind.bits]; omega) ?_; simp only [VR]; refine ⟨by rw [str_append], fun z hz => ?_⟩; rcases List.mem_append.1 hz with hz | hz
   ·exact g2 z hz
   ·exact q2 z hz
  ·cases hc
 ·cases hc; refine run (p := True) (r := .bool (Eng.eqs (str l) (str l'))) (by simp [Eng.aBin]) trivial ?_; rw [<- Eng.eqs_toList, eqs_leq g2 q2]; exact VR_b ρ _
 ·cases hc; refine run (p := True) (r := .bool (!Eng.eqs (str l) (str l'))) (by simp [Eng.aBin]) trivial ?_; rw [<- Eng.eqs_toList, eqs_leq g2 q2]; exact VR_b ρ _
 ·cases hc
theorem bin_cInt {op : BinOp} {o : Oper} {ev : Operand -> CVal} {t t' : TypeId} {x y : Operand} {k : IntKind} {i j : Int} {c : CVal} (ho : o.op = .binOp op t x y t') (hx : ev x = .i k i) (hy : ev y = .i k j) (hop : op ≠ .shl /\ op ≠ .shr) (hc : cInt op k i j = some c) : PureS P o ev c := by
  unfold cInt at hc
  split at hc
  · cases hc; exact Vi3 (by simp [Eng.aBin]) trivial (fun ρ => VR_i ρ _ _) ho hx hy
  · cases hc; exact Vi3 (by simp [Eng.aBin]) trivial (fun ρ => VR_i ρ _ _) ho hx hy
  · cases hc; exact Vi3 (by simp [Eng.aBin]) trivial (fun ρ => VR_i ρ _ _) ho hx hy
  · split at hc
    · cases hc
    · rename_i h0; cases hc; exact Vi3 (by simp [Eng.aBin]) h0 (fun ρ => VR_i ρ _ _) ho hx hy
  · split at hc
    · cases hc
    · rename_i h0; cases hc; exact Vi3 (by simp [Eng.aBin]) h0 (fun ρ => VR_i ρ _ _) ho hx hy
  all_goals first
    | (cases hc; exact Vi3 (by simp [Eng.aBin]) trivial (fun ρ => VR_b ρ _) ho hx hy)
    | (cases hc
       intro ρ a ha w
       have h1 := ha x (by simp [ho, Op.operands]); rw [hx] at h1
       have h2 := ha y (by simp [ho, Op.operands]); rw [hy] at h2; refine ⟨_, ?_, VR_i ρ _ _⟩
       simp [execOp, ho, h1.i_eq, h2.i_eq, eqGuard, binOp, Op.intBits])
    | cases hc
end Go.CE
namespace Go.CE
variable {P : Program}
def NilR (d : TypeDesc) (b : Bool) (u : Value) : Prop := match d with
 | .pointer _ => ∃ p, u = .pointer p /\ p.isNone = b
 | .slice _ => ∃ a n k, u = .slice a n k /\ a.isNone = b
 | .map _ _ => ∃ m, u = .map m /\ m.isNone = b
 | .func _ _ _ => (b = true /\ u = .nilFunc) \/ (b = false /\ ∃ f g h, u = .func f g h)
 | .interface _ => (b = true /\ u = .nilIface) \/ (b = false /\ ∃ t v, u = .iface t v)
 | _ => False
theorem Vdt {ρ : Loc} {d : TypeDesc} {c : CVal} {b : Bool} {u : Value} (h : isNil d c = some b) (hr : VR ρ c u) : NilR d b u := by
 unfold isNil at h
 split at h <;> (try (split at h)) <;> (try cases h) <;> simp only [VR] at hr <;> simp only [NilR]
 ·exact ⟨_, hr.1, by simp⟩
 ·obtain ⟨_, _, _, _, rfl⟩ := hr; exact ⟨_, rfl, by simp⟩
 ·exact ⟨_, _, _, hr.1, by simp⟩
 ·obtain ⟨_, _, _, _, _, _, rfl, _⟩ := hr; exact ⟨_, _, _, rfl, by simp⟩
 ·exact ⟨_, hr.1, by simp⟩
 ·obtain ⟨_, _, _, _, rfl⟩ := hr; exact ⟨_, rfl, by simp⟩
 ·exact .inl ⟨by simp, hr.1⟩
 ·obtain ⟨_, _, rfl, _⟩ := hr; exact .inr ⟨by simp, _, _, _, rfl⟩
 ·exact .inl ⟨by simp, hr.1⟩
 ·obtain ⟨_, rfl, _⟩ := hr; exact .inr ⟨by simp, _, _, rfl⟩
def negq (op : BinOp) (q : Bool) : Bool := match op with
 | .neq => !q
 | _ => q
theorem Vdw (t : TypeId) (x y : Value) : Op.equal t x y = Op.equalIn (9999 + 1) t x y := rfl
theorem equal_nil {t : TypeId} {d : TypeDesc} (hd : P.underlying t = some d) {b b' : Bool} {u u' : Value} (h : NilR d b u) (h' : NilR d b' u') (hb : b = true \/ b' = true) (w : World) : (Op.equal t u u').run P w = .ok (b && b') w := by
 unfold NilR at h h'; cases d <;> simp only at h h' <;> try (exact h.elim)
 ·obtain ⟨p, rfl, rfl⟩ := h; obtain ⟨p', rfl, rfl⟩ := h'; cases p <;> cases p' <;> first | (simp at hb; done) | (rw [Vdw]; unfold Op.equalIn; simp [Eng.run_underlying' hd])
 ·obtain ⟨p, n, k, rfl, rfl⟩ := h; obtain ⟨p', n', k', rfl, rfl⟩ := h'; cases p <;> cases p' <;> first | (simp at hb; done) | (rw [Vdw]; unfold Op.equalIn; simp [Eng.run_underlying' hd])
 ·obtain ⟨p, rfl, rfl⟩ := h; obtain ⟨p', rfl, rfl⟩ := h'; cases p <;> cases p' <;> first | (simp at hb; done) | (rw [Vdw]; unfold Op.equalIn; simp [Eng.run_underlying' hd])
 ·rcases h with ⟨rfl, rfl⟩ | ⟨rfl, _, _, _, rfl⟩ <;> rcases h' with ⟨rfl, rfl⟩ | ⟨rfl, _, _, _, rfl⟩ <;> first | (simp at hb; done) | (rw [Vdw]; unfold Op.equalIn; simp [Eng.run_underlying' hd])
 ·rcases h with ⟨rfl, rfl⟩ | ⟨rfl, _, _, rfl⟩ <;> rcases h' with ⟨rfl, rfl⟩ | ⟨rfl, _, _, rfl⟩ <;> first | (simp at hb; done) | (rw [Vdw]; unfold Op.equalIn; simp [Eng.run_underlying' hd])
theorem equal_bool {t : TypeId} (hd : P.underlying t = some .bool) (a b : Bool) (w : World) : (Op.equal t (.bool a) (.bool b)).run P w = .ok (a == b) w := by
 rw [Vdw]; unfold Op.equalIn; simp [Eng.run_underlying' hd]
theorem guard_nil {op : BinOp} {t : TypeId} {d : TypeDesc} {x y : Operand} {b b' : Bool} {u u' : Value} (h : NilR d b u) (h' : NilR d b' u') (hb : (b && b') = true -> isLit x y = true) (w : World) : (eqGuard op t x y u u').run P w = .ok () w := by
 unfold NilR at h h'; unfold eqGuard; cases d <;> simp only at h h' <;> try (exact h.elim)
 ·obtain ⟨p, rfl, rfl⟩ := h
  split <;> rfl
 ·obtain ⟨p, n, k, rfl, rfl⟩ := h
  split <;> rfl
 ·obtain ⟨p, rfl, rfl⟩ := h
  split <;> rfl
 ·rcases h with ⟨rfl, rfl⟩ | ⟨rfl, _, _, _, rfl⟩ <;> split <;> rfl
 ·rcases h with ⟨rfl, rfl⟩ | ⟨rfl, _, _, rfl⟩ <;> rcases h' with ⟨rfl, rfl⟩ | ⟨rfl, _, _, rfl⟩
  ·have hl := hb rfl
   split <;> first | rfl | (simp only [Bool.not_true, Zx, if_false]; cases x <;> cases y <;> first | rfl | exact absurd hl (by simp [isLit]))
  all_goals (split <;> rfl)
theorem rep_cell {ρ : Loc} {U : Nat -> Nat} {w : World} {c : CVal} {x : Eng.AV} {u : Value} (h : VR ρ c u) (hc : cAV c = some x) : Eng.Rep U w x u := by
 unfold cAV at hc
 split at hc <;> cases hc
 ·simp only [VR] at h; subst h; exact ⟨rfl, rfl⟩
 ·simp only [VR] at h; subst h; exact ⟨rfl, rfl⟩
 ·simp only [VR] at h; obtain ⟨rfl, _⟩ := h; exact ⟨rfl, rfl⟩
theorem Vp8 {ρ : Loc} {U : Nat -> Nat} {w : World} : ∀ {l : List CVal} {a : List Eng.AV} {us : List Value}, VRs ρ l us -> cAVs l = some a -> Eng.RepL U w a us
 | [], a, us, h, hc => by
  simp only [VRs] at h; simp only [cAVs] at hc; cases hc; subst h; simp only [Eng.RepL]
 | c :: l, a, us, h, hc => by
  simp only [VRs] at h; obtain ⟨u, us', rfl, h1, h2⟩ := h; simp only [cAVs] at hc
  split at hc
  ·rename_i x r e1 e2; cases hc; simp only [Eng.RepL]; exact ⟨u, us', rfl, rep_cell h1 e1, Vp8 h2 e2⟩
  ·cases hc
theorem rep_ag {ρ : Loc} {U : Nat -> Nat} {w : World} {l : List CVal} {a : List Eng.AV} {u : Value} (h : VR ρ (.ag l) u) (hc : cAVs l = some a) : Eng.Rep U w (.agg a) u := by
 simp only [VR] at h; obtain ⟨us, rfl, h1, h2⟩ := h; simp only [Eng.Rep]; exact ⟨us, rfl, Vp8 h1 hc, h2⟩
theorem Vmm {lit : Bool} {op : BinOp} {o : Oper} {ev : Operand -> CVal} {t t' : TypeId} {x y : Operand} {q : Bool} (ho : o.op = .binOp op t x y t') (hop : op = .eql \/ op = .neq) (hl : lit = isLit x y) (h : cEql P lit t (ev x) (ev y) = some q) : PureS P o ev (.b (negq op q)) := by
 intro ρ a ha w
 have h1 := ha x (by simp [ho, Op.operands])
 have h2 := ha y (by simp [ho, Op.operands])
 have nils : ∀ {d : TypeDesc} {b b' : Bool}, P.underlying t = some d -> NilR d b (a.eval x) -> NilR d b' (a.eval y) -> (b = true \/ b' = true) -> ((b && b') = true -> isLit x y = true) -> q = (b && b') -> ∃ u, (execOp a.eval o).run P w = .ok (.value u) w /\ VR ρ (.b (negq op q)) u := by
  intro d b b' hd g1 g2 hb hbl hq; subst hq
  have e1 := equal_nil hd g1 g2 hb w
  have e2 : (eqGuard op t x y (a.eval x) (a.eval y)).run P w = .ok () w := guard_nil g1 g2 hbl w; refine ⟨.bool (negq op (b && b')), ?_, VR_b ρ _⟩
  have e4 : (binOp op t (a.eval x) (a.eval y)).run P w = .ok (.bool (negq op (b && b'))) w := by
   unfold NilR at g1 g2; cases d <;> simp only at g1 g2 <;> try (exact g1.elim)
   ·obtain ⟨p, g3, _⟩ := g1; obtain ⟨p', g4, _⟩ := g2; rw [g3, g4] at e1 ⊢; rcases hop with rfl | rfl <;> simp [binOp, e1, negq]
   ·obtain ⟨p, _, _, g3, _⟩ := g1; obtain ⟨p', _, _, g4, _⟩ := g2; rw [g3, g4] at e1 ⊢; rcases hop with rfl | rfl <;> simp [binOp, e1, negq]
   ·obtain ⟨p, g3, _⟩ := g1; obtain ⟨p', g4, _⟩ := g2; rw [g3, g4] at e1 ⊢; rcases hop with rfl | rfl <;> simp [binOp, e1, negq]
   ·rcases g1 with ⟨_, g3⟩ | ⟨_, _, _, _, g3⟩ <;> rcases g2 with ⟨_, g4⟩ | ⟨_, _, _, _, g4⟩ <;> rw [g3, g4] at e1 ⊢ <;> rcases hop with rfl | rfl <;> simp [binOp, e1, negq]
   ·rcases g1 with ⟨_, g3⟩ | ⟨_, _, _, g3⟩ <;> rcases g2 with ⟨_, g4⟩ | ⟨_, _, _, g4⟩ <;> rw [g3, g4] at e1 ⊢ <;> rcases hop with rfl | rfl <;> simp [binOp, e1, negq]
  simp only [execOp, ho, Sem.run_bind, e2, e4, Result.andThen_ok]; rfl
 unfold cEql at h
 split at h
 ·rename_i b b' hx hy; rw [hx] at h1; rw [hy] at h2
  split at h
  ·rename_i hd; cases h; refine ⟨.bool (negq op (b == b')), ?_, VR_b ρ _⟩; rcases hop with rfl | rfl <;> simp [execOp, ho, h1.b_eq, h2.b_eq, eqGuard, binOp, equal_bool hd, negq]
  ·cases h
 ·rename_i l l' hx hy; rw [hx] at h1; rw [hy] at h2; unfold cEqlA at h
  split at h
  ·rename_i fs a1 a2 hd c1 c2
   split at h
   ·rename_i g1 g2 g3; cases h; obtain ⟨e1, xs, ys, e2, e3⟩ := Eng.agg_equal (U := fun _ => 0) (w := w) hd g1 g2 (rep_ag h1 c1) (rep_ag h2 c2); refine ⟨.bool (negq op (Eng.eqCells a1 a2)), ?_, VR_b ρ _⟩; rw [e2, e3] at e1; rcases hop with rfl | rfl <;> simp [execOp, ho, e2, e3, eqGuard, binOp, e1, g3, negq]
   ·cases h
  ·cases h
 ·split at h
  ·rename_i d hd
   split at h
   ·rename_i g1 g2
    split at h
    ·rename_i hlit; cases h; exact nils hd (Vdt g1 h1) (Vdt g2 h2) (.inl rfl) (fun _ => by rw [<- hl]; ) rfl
    ·cases h
   ·rename_i g1 g2; cases h; exact nils hd (Vdt g1 h1) (Vdt g2 h2) (.inl rfl) (fun h => by cases h) rfl
   ·rename_i g1 g2; cases h; exact nils hd (Vdt g1 h1) (Vdt g2 h2) (.inr rfl) (fun h => by cases h) rfl
   ·cases h
  ·cases h
theorem Vih {op : BinOp} {o : Oper} {ev : Operand -> CVal} {t t' : TypeId} {x y : Operand} {k k' : IntKind} {i j : Int} {c : CVal} (ho : o.op = .binOp op t x y t') (hx : ev x = .i k i) (hy : ev y = .i k' j) (hop : op = .shl \/ op = .shr) (hc : cShift op k i j = some c) : PureS P o ev c := by
 intro ρ a ha w
 have h1 := ha x (by simp [ho, Op.operands]); rw [hx] at h1
 have h2 := ha y (by simp [ho, Op.operands]); rw [hy] at h2; unfold cShift at hc
 split at hc
 ·cases hc
 ·rename_i hj; rcases hop with rfl | rfl
  ·cases hc; exact ⟨_, by simp [execOp, ho, h1.i_eq, h2.i_eq, eqGuard, binOp, Op.shift, hj], VR_i ρ _ _⟩
  ·cases hc; exact ⟨_, by simp [execOp, ho, h1.i_eq, h2.i_eq, eqGuard, binOp, Op.shift, hj], VR_i ρ _ _⟩
theorem cBin_sound {lit : Bool} {op : BinOp} {o : Oper} {ev : Operand -> CVal} {t t' : TypeId} {x y : Operand} {c : CVal} (ho : o.op = .binOp op t x y t') (hl : lit = isLit x y) (h : cBin P lit op t (ev x) (ev y) = some c) : PureS P o ev c := by
 unfold cBin at h
 split at h
 ·rename_i k i k' j hx hy
  split at h
  ·exact Vih ho hx hy (.inl rfl) h
  ·exact Vih ho hx hy (.inr rfl) h
  ·rename_i h1 h2
   split at h
   ·rename_i hk; obtain rfl := Vfx hk; exact bin_cInt ho hx hy ⟨h1, h2⟩ h
   ·cases h
 ·rename_i l l' hx hy; exact bin_str ho hx hy h
 ·split at h
  ·simp only [Ze] at h; obtain ⟨q, h1, rfl⟩ := h; exact Vmm ho (.inl rfl) hl h1
  ·simp only [Ze] at h; obtain ⟨q, h1, rfl⟩ := h; exact Vmm ho (.inr rfl) hl h1
  ·cases h
theorem Vnm {o : Oper} {call : Vag} {op : BinOp} {t t' : TypeId} {x y : Operand} (ho : o.op = .binOp op t x y t') : Pure P o call := by
  intro S v hp nx h; unfold trO at h; rw [ho] at h; simp only at h
  revert h
  generalize hl : isLit x y = lit; intro h
  have hl := hl.symm
  have byTell : ∀ {op' : BinOp}, op' = op -> (tell (cBin P lit op' t ((trX x).get S) ((trX y).get S)) S = .ok v hp nx) -> hp = S.hp /\ nx = S.nx /\ PureS P o (evS S) v := by
    rintro op' rfl h; obtain ⟨h1, h2, h3⟩ := Ve6 h; exact ⟨h2, h3, cBin_sound (ev := evS S) ho hl h1⟩
  have byInt : ∀ {f : IntKind -> Int -> Int -> CVal}, (∀ k i j, cInt op k i j = some (f k i j)) -> op ≠ .shl /\ op ≠ .shr -> (∃ k a b, (trX x).get S = .i k a /\ (trX y).get S = .i k b /\ v = f k a b /\ hp = S.hp /\ nx = S.nx) -> hp = S.hp /\ nx = S.nx /\ PureS P o (evS S) v := by
    rintro f hf hop ⟨k, i, j, h1, h2, rfl, h3, h4⟩; exact ⟨h3, h4, bin_cInt (ev := evS S) ho h1 h2 hop (hf k i j)⟩
  unfold trBin at h; cases op <;> simp only at h
  case add => rcases Vei h with h | h
              · exact byInt (fun k i j => by simp [cInt, addQ_eq]) (by simp) h
              · exact byTell rfl h
  case sub => rcases Vei h with h | h
              · exact byInt (fun k i j => by simp [cInt, subQ_eq]) (by simp) h
              · exact Vad h
  case mul => rcases Vei h with h | h
              · exact byInt (fun k i j => by simp [cInt, mulQ_eq]) (by simp) h
              · exact Vad h
  case lss => rcases Vei h with h | h
              · exact byInt (fun k i j => by simp [cInt, ilt_eq]) (by simp) h
              · exact Vad h
  case leq => rcases Vei h with h | h
              · exact byInt (fun k i j => by simp only [cInt, ilt_eq]; congr 2; by_cases hq : j < i <;> simp [hq, bc] <;> omega) (by simp) h
              · exact Vad h
  case gtr => rcases Vei h with h | h
              · exact byInt (fun k i j => by simp [cInt, ilt_eq]) (by simp) h
              · exact Vad h
  case geq => rcases Vei h with h | h
              · exact byInt (fun k i j => by simp only [cInt, ilt_eq]; congr 2; by_cases hq : i < j <;> simp [hq, bc] <;> omega) (by simp) h
              · exact Vad h
  case eql => rcases Vei h with h | h
              · exact byInt (fun k i j => by simp [cInt, ieq_eq]) (by simp) h
              · exact byTell rfl h
  case neq => rcases Vei h with h | h
              · exact byInt (fun k i j => by simp only [cInt, ieq_eq]; congr 2; cases hq : (i == j) <;> simp [hq, bc, bne]) (by simp) h
              · exact byTell rfl h
  all_goals exact byTell rfl h
theorem pure_un {o : Oper} {call : Vag} {op : UnOp} {t : TypeId} {x : Operand} (ho : o.op = .unOp op t x) : Pure P o call := by
 intro S v hp nx h; unfold trO at h; rw [ho] at h; obtain ⟨h1, h2, h3⟩ := Ve6 h; refine ⟨h2, h3, fun ρ a ha w => ?_⟩
 have h4 := ha x (by simp [ho, Op.operands]); simp only [evS] at h4; unfold cUn at h1
 split at h1
 ·rename_i b hx; cases h1; rw [hx] at h4; exact ⟨_, by simp [execOp, ho, h4.b_eq, Op.unary], VR_b ρ _⟩
 ·rename_i k n hx; cases h1; rw [hx] at h4; exact ⟨_, by simp [execOp, ho, h4.i_eq, Op.unary, Op.intArith], VR_i ρ _ _⟩
 ·rename_i k n hx; cases h1; rw [hx] at h4; exact ⟨_, by simp [execOp, ho, h4.i_eq, Op.unary, Op.intBits], VR_i ρ _ _⟩
 ·cases h1
end Go.CE
namespace Go.CE
variable {P : Program}
theorem VR.sl_eq {ρ : Loc} {b : ID} {o n sz : Nat} {u : Value} (h : VR ρ (.sl b o n sz) u) : ∃ blk off room cap ad, ρ b = some (blk, off, room) /\ u = .slice (some ad) n cap /\ n <= cap /\ (0 < cap -> ad = ⟨blk, off + o, none⟩ /\ o + cap * sz <= room) := by simpa only [VR] using h
theorem VR.p_eq {ρ : Loc} {b : ID} {o : Nat} {u : Value} (h : VR ρ (.p b o) u) : ∃ blk off room, ρ b = some (blk, off, room) /\ u = .pointer (some ⟨blk, off + o, none⟩) := by simpa only [VR] using h
theorem VR.v_eq {ρ : Loc} {x u : Value} (h : VR ρ (.v x) u) : u = x := by simp only [VR] at h; exact h.1
theorem VR.ag_eq {ρ : Loc} {l : List CVal} {u : Value} (h : VR ρ (.ag l) u) : ∃ us, u = .agg us /\ VRs ρ l us.toList /\ ∀ x ∈ us.toList, x.oneCell' = true := by simpa only [VR] using h
theorem Vq0 {ρ : Loc} {l : List CVal} {u : Value} {ft : TypeId} {off : Nat} {c : CVal} (h : VR ρ (.ag l) u) (ht : tAgg P ft = some false) (hc : l[off]? = some c) (w : World) : ∃ cs x, u = .agg cs /\ (part ft cs off).run P w = .ok x w /\ VR ρ c x := by
 obtain ⟨us, rfl, h2, h3⟩ := h.ag_eq; obtain ⟨x, h4, h5⟩ := h2.get off c hc
 have h6 : us[off]? = some x := by simpa using h4
 exact ⟨us, x, rfl, by simp [part, run_agg ht, h6], h5⟩
theorem Vq1 {ρ : Loc} {l : List CVal} {u : Value} {ft : TypeId} {off n : Nat} (h : VR ρ (.ag l) u) (ht : tAgg P ft = some true) (hs : Vd3 P ft = some n) (hle : off + n <= l.length) (w : World) : ∃ cs x, u = .agg cs /\ (part ft cs off).run P w = .ok x w /\ VR ρ (.ag ((l.drop off).take n)) x := by
 obtain ⟨us, rfl, h2, h3⟩ := h.ag_eq; refine ⟨us, _, rfl, by simp [part, run_agg ht, Vcr hs]; rfl, ?_⟩; simp only [VR]
 have he : (us.extract off (off + n)).toList = (us.toList.drop off).take n := by
  rw [Array.toList_extract, List.extract_eq_take_drop]; congr 1; omega
 refine ⟨_, rfl, by rw [he]; exact (h2.drop off).take n, fun x hx => ?_⟩; rw [he] at hx; exact h3 x (List.mem_of_mem_drop (List.mem_of_mem_take hx))
theorem Vho {o : Oper} {call : Vag} {s : TypeId} {x : Operand} {f : Nat} (ho : o.op = .field s x f) : Pure P o call := by
 intro S v hp nx h; unfold trO at h; rw [ho] at h; simp only at h
 split at h
 ·rename_i fs hu
  split at h
  ·rename_i fd hf
   split at h
   ·rename_i ht; obtain ⟨l, h1, h⟩ := Vj0 h; obtain ⟨h3, h4, h5⟩ := Ve6 h; refine ⟨h4, h5, fun ρ a ha w => ?_⟩
    have h6 := ha x (by simp [ho, Op.operands]); simp only [evS, h1] at h6; obtain ⟨cs, y, g1, g2, g3⟩ := Vq0 (P := P) h6 ht h3 w; exact ⟨y, by simp [execOp, ho, Instr.field, Eng.run_underlying' hu, hf, g1, asAgg, g2], g3⟩
   ·rename_i n ht hs; obtain ⟨l, h1, h⟩ := Vj0 h
    split at h
    ·rename_i hle; obtain ⟨rfl, rfl, rfl⟩ := Vaa h; refine ⟨rfl, rfl, fun ρ a ha w => ?_⟩
     have h6 := ha x (by simp [ho, Op.operands]); simp only [evS, h1] at h6; obtain ⟨cs, y, g1, g2, g3⟩ := Vq1 (P := P) h6 ht hs hle w; exact ⟨y, by simp [execOp, ho, Instr.field, Eng.run_underlying' hu, hf, g1, asAgg, g2], g3⟩
    ·cases h
   ·exact Vad h
  ·exact Vad h
 ·exact Vad h
theorem Vdh {o : Oper} {call : Vag} {t : TypeId} {x ix : Operand} (ho : o.op = .indexAddr t x ix) : Pure P o call := by
 intro S v hp nx h; unfold trO at h; rw [ho] at h; simp only [Vji] at h
 split at h
 ·rename_i e hu
  split at h
  ·rename_i sz hs; obtain ⟨b, off, n, sz', h1, h⟩ := on_sl_no h; obtain ⟨k, i, h3, h⟩ := Vgd h; cases i with
   | negSucc m => cases h
   | ofNat m =>
    obtain ⟨h5, h⟩ := Voc (show bc (Nat.blt m n) (bc (Nat.beq sz' sz) (.ok (.p b (off + m * sz)) S.hp S.nx) .no) .no = Rs.ok v hp nx from h); obtain ⟨h6, h⟩ := Voc h; rw [Nat.blt_eq] at h5; rw [Zo] at h6; subst h6; obtain ⟨rfl, rfl, rfl⟩ := Vaa h; refine ⟨rfl, rfl, fun ρ a ha w => ?_⟩
    have g1 := ha x (by simp [ho, Op.operands])
    have g2 := ha ix (by simp [ho, Op.operands]); simp only [evS, h1] at g1; simp only [evS, h3] at g2; obtain ⟨blk, o', room, cap, ad, q1, q2, q3, q4⟩ := g1.sl_eq; obtain ⟨rfl, q5⟩ := q4 (by omega)
    have hi : (0 : Int) <= Int.ofNat m /\ Int.ofNat m < (n : Int) := by simp only [Zc]; omega
    refine ⟨.pointer (some ⟨blk, o' + off + m * sz', none⟩), ?_, ?_⟩
    ·simp [execOp, ho, q2, g2.i_eq, Instr.indexAt, asIntOf, Eng.run_underlying' hu, Vcr hs, Eng.addr_add, h5]
    ·simp only [VR]; exact ⟨blk, o', room, q1, by rw [Z4]⟩
  ·exact Vad h
 ·rename_i n e hu
  split at h
  ·rename_i sz hs; obtain ⟨b, off, h1, h⟩ := Vns h; obtain ⟨k, i, h3, h⟩ := Vgd h; cases i with
   | negSucc m => cases h
   | ofNat m =>
    obtain ⟨h5, h⟩ := Voc (show bc (Nat.blt m n) (.ok (.p b (off + m * sz)) S.hp S.nx) .no = Rs.ok v hp nx from h); rw [Nat.blt_eq] at h5; obtain ⟨rfl, rfl, rfl⟩ := Vaa h; refine ⟨rfl, rfl, fun ρ a ha w => ?_⟩
    have g1 := ha x (by simp [ho, Op.operands])
    have g2 := ha ix (by simp [ho, Op.operands]); simp only [evS, h1] at g1; simp only [evS, h3] at g2; obtain ⟨blk, o', room, q1, q2⟩ := g1.p_eq; refine ⟨.pointer (some ⟨blk, o' + off + m * sz, none⟩), ?_, ?_⟩
    ·simp [execOp, ho, q2, g2.i_eq, Instr.indexAt, Instr.sureAddr, asIntOf, Eng.run_underlying' hu, Vcr hs, Eng.addr_add, h5]
    ·simp only [VR]; exact ⟨blk, o', room, q1, by rw [Z4]⟩
  ·exact Vad h
 ·exact Vad h
theorem Vhn {o : Oper} {call : Vag} {t : TypeId} {x ix : Operand} (ho : o.op = .index t x ix) : Pure P o call := by
 intro S v hp nx h; unfold trO at h; rw [ho] at h; simp only at h
 split at h
 ·rename_i hu; obtain ⟨l, h1, h⟩ := Vhu h; obtain ⟨k, i, h3, h⟩ := Vgd h; cases i with
  | negSucc m => cases h
  | ofNat m =>
   have h : (match l[m]? with | some c => Rs.ok (.i .u8 (.ofNat c)) S.hp S.nx | none => .no) = .ok v hp nx := h; cases hl : l[m]? with
   | none => rw [hl] at h; cases h
   | some c =>
    rw [hl] at h; obtain ⟨rfl, rfl, rfl⟩ := Vaa h; refine ⟨rfl, rfl, fun ρ a ha w => ?_⟩
    have g1 := ha x (by simp [ho, Op.operands])
    have g2 := ha ix (by simp [ho, Op.operands]); simp only [evS, h1] at g1; simp only [evS, h3] at g2; obtain ⟨q1, q2⟩ := g1.s_eq
    have hm : m < l.length := by
     rcases Zf m l.length with q | q
     ·exact q
     ·rw [Zd q] at hl; cases hl
    have hlm : l[m] = c := by rw [Zi hm] at hl; exact Option.some.inj hl
    have hc : c < 256 := q2 c (hlm ▸ Zu hm)
    have hg := str_get l m hm; rw [hlm] at hg; refine ⟨.int .u8 (UInt8.ofNat c).toNat, ?_, ?_⟩
    ·simp [execOp, ho, q1, g2.i_eq, Instr.index, asIntOf, Eng.run_underlying' hu, hg]
    ·simp only [VR]
     have : (UInt8.ofNat c).toNat = c := by simp [hc]
     rw [this]; rfl
 ·rename_i n e hu
  split at h
  ·rename_i sz hs ht; obtain ⟨l, h1, h⟩ := Vj0 h; obtain ⟨k, i, h3, h⟩ := Vgd h
   split at h
   ·rename_i hi; obtain ⟨h5, h6, h7⟩ := Ve6 h; refine ⟨h6, h7, fun ρ a ha w => ?_⟩
    have g1 := ha x (by simp [ho, Op.operands])
    have g2 := ha ix (by simp [ho, Op.operands]); simp only [evS, h1] at g1; simp only [evS, h3] at g2; obtain ⟨cs, y, q1, q2, q3⟩ := Vq0 (P := P) g1 ht h5 w; exact ⟨y, by simp [execOp, ho, q1, g2.i_eq, Instr.index, asIntOf, Eng.run_underlying' hu, Vcr hs, hi, q2], q3⟩
   ·cases h
  ·rename_i sz hs ht; obtain ⟨l, h1, h⟩ := Vj0 h; obtain ⟨k, i, h3, h⟩ := Vgd h
   split at h
   ·rename_i hi; obtain ⟨rfl, rfl, rfl⟩ := Vaa h; refine ⟨rfl, rfl, fun ρ a ha w => ?_⟩
    have g1 := ha x (by simp [ho, Op.operands])
    have g2 := ha ix (by simp [ho, Op.operands]); simp only [evS, h1] at g1; simp only [evS, h3] at g2; obtain ⟨cs, y, q1, q2, q3⟩ := Vq1 (P := P) g1 ht hs hi.2.2 w; exact ⟨y, by simp [execOp, ho, q1, g2.i_eq, Instr.index, asIntOf, Eng.run_underlying' hu, Vcr hs, hi.1, hi.2.1, q2], q3⟩
   ·cases h
  ·exact Vad h
 ·exact Vad h
end Go.CE
namespace Go.CE
variable {P : Program}
def OVR (ρ : Loc) (c : Option CVal) (u : Option Value) : Prop := (c = none /\ u = none) \/ ∃ x y, c = some x /\ u = some y /\ VR ρ x y
theorem Vky {ρ : Loc} {d m j : Nat} {c : Option CVal} {u : Option Value} (h : Vkz d m c = some j) (hu : OVR ρ c u) : (u = none /\ j = d) \/ ∃ k n, u = some (.int k n) /\ 0 <= n /\ n <= (m : Int) /\ j = n.toNat := by
 rcases hu with ⟨rfl, rfl⟩ | ⟨x, y, rfl, rfl, hy⟩
 ·simp [Vkz] at h; exact .inl ⟨rfl, h.symm⟩
 ·unfold Vkz at h
  split at h
  ·rename_i hq; cases hq
  ·rename_i k n hq; cases hq
   split at h
   ·rename_i hb; cases h; exact .inr ⟨k, n, by rw [hy.i_eq], hb.1, hb.2, rfl⟩
   ·cases h
  ·cases h
theorem Vhk {ρ : Loc} {n cap h j : Nat} {lo hi : Option CVal} {ulo uhi : Option Value} {sl : Bool} (hh : Vkz n n hi = some h) (hl : Vkz 0 h lo = some j) (hm : n <= cap) (hu : OVR ρ hi uhi) (hu' : OVR ρ lo ulo) (w : World) :
  (Instr.sliceBounds sl n cap ulo uhi none).run P w = .ok (j, h, cap) w /\ j <= h /\ h <= n := by
 rcases Vky hh hu with ⟨rfl, rfl⟩ | ⟨k, i, rfl, h1, h2, rfl⟩ <;> rcases Vky hl hu' with ⟨rfl, rfl⟩ | ⟨k', i', rfl, g1, g2, rfl⟩
 ·exact ⟨by simp [Instr.sliceBounds], by omega, by omega⟩
 ·exact ⟨by simp [Instr.sliceBounds, Instr.sliceBound, asIntOf, g1, g2], by omega, by omega⟩
 ·have h3 : i <= (cap : Int) := by omega
  exact ⟨by simp [Instr.sliceBounds, Instr.sliceBound, asIntOf, h1, h3], by omega, by omega⟩
 ·have h3 : i <= (cap : Int) := by omega
  exact ⟨by simp [Instr.sliceBounds, Instr.sliceBound, asIntOf, h1, h3, g1]; intro h; omega, by omega, by omega⟩
theorem str_extract (l : List Nat) (i j : Nat) : (str l).extract i j = str ((l.drop i).take (j - i)) := by
 apply str_ext; rw [Ve7, ByteArray.data_extract, Array.toList_extract, List.extract_eq_take_drop, Ve7, List.map_take, List.map_drop]
theorem Vhm {o : Oper} {call : Vag} {t : TypeId} {x : Operand} {lo hi : Option Operand} (ho : o.op = .slice t x lo hi none) : Pure P o call := by
 intro S v hp nx h; unfold trO at h; rw [ho] at h; obtain ⟨h1, h2, h3⟩ := Ve6 h; refine ⟨h2, h3, fun ρ a ha w => ?_⟩
 have gx := ha x (by simp [ho, Op.operands])
 have opt : ∀ q : Option Operand, (∀ y, q = some y -> y ∈ o.op.operands) -> OVR ρ (q.map S.ev) (q.map a.eval) := by
  intro q hq; cases q with
  | none => exact .inl ⟨rfl, rfl⟩
  | some y => exact .inr ⟨_, _, rfl, rfl, ha y (hq y rfl)⟩
 have l1 := opt lo (fun y hy => by simp [ho, Op.operands, hy])
 have k1 := opt hi (fun y hy => by simp [ho, Op.operands, hy]); simp only [evS] at gx
 revert h1 gx
 generalize (trX x).get S = cx; intro h1 gx; unfold cSlice at h1
 split at h1
 ·rename_i l hu
  split at h1
  ·rename_i hh hb
   split at h1
   ·rename_i j hj; cases h1; obtain ⟨q1, q2⟩ := gx.s_eq; obtain ⟨r1, r2, r3⟩ := Vhk (P := P) (ρ := ρ) (sl := false) (cap := l.length) hb hj (Za _) k1 l1 w; refine ⟨.string (str ((l.drop j).take (hh - j))), ?_, ?_⟩
    ·simp [execOp, ho, q1, Instr.sliceAt, Instr.slice, Eng.run_underlying' hu, Vci, r1, str_extract]
    ·simp only [VR]; exact ⟨trivial, fun y hy => q2 y (List.mem_of_mem_drop (List.mem_of_mem_take hy))⟩
   ·cases h1
  ·cases h1
 ·rename_i e hu
  split at h1
  ·rename_i sz j1 j2 hs hb hj; cases h1
   have q1 := gx.v_eq
   have z1 : j1 = 0 := by rcases Vky hb k1 with ⟨_, h⟩ | ⟨_, _, _, _, _, h⟩ <;> omega
   subst z1; obtain ⟨r1, r2, r3⟩ := Vhk (P := P) (ρ := ρ) (sl := true) (cap := 0) hb hj (Za _) k1 l1 w
   have z2 : j2 = 0 := by omega
   subst z2; exact ⟨_, by simp [execOp, ho, q1, Instr.sliceAt, Instr.slice, Eng.run_underlying' hu, r1, Vcr hs], gx⟩
  ·cases h1
 ·rename_i e b off n sz hu
  split at h1
  ·rename_i sz' hs
   split at h1
   ·rename_i hsz; subst hsz
    split at h1
    ·rename_i hh hb
     split at h1
     ·rename_i j hj; cases h1; obtain ⟨blk, o', room, cap, ad, q1, q2, q3, q4⟩ := gx.sl_eq; obtain ⟨r1, r2, r3⟩ := Vhk (P := P) (ρ := ρ) (sl := true) (cap := cap) hb hj q3 k1 l1 w; refine ⟨.slice (some (if cap = j then ad else ad.add (j * sz'))) (hh - j) (cap - j), ?_, ?_⟩
      ·by_cases hc : cap = j
       ·subst hc; simp [execOp, ho, q2, Instr.sliceAt, Instr.slice, Eng.run_underlying' hu, r1, Vcr hs]
       ·simp [execOp, ho, q2, Instr.sliceAt, Instr.slice, Eng.run_underlying' hu, r1, Vcr hs, hc]
      ·simp only [VR]; refine ⟨blk, o', room, cap - j, _, q1, rfl, by omega, fun hc => ?_⟩; obtain ⟨e1, e2⟩ := q4 (by omega); rw [if_neg (by omega), e1, Eng.addr_add]; refine ⟨by rw [Z4], ?_⟩
       have : cap * sz' = j * sz' + (cap - j) * sz' := by rw [<- Nat.add_mul]; congr 1; omega
       omega
     ·cases h1
    ·cases h1
   ·cases h1
  ·cases h1
 ·cases h1
theorem Vct {o : Oper} {call : Vag} {x : Operand} {t u : TypeId} {ok : Bool} (ho : o.op = .typeAssert x t u ok) : Pure P o call := by
 intro S v hp nx h; unfold trO at h; rw [ho] at h; simp only at h
 have gx : ∀ (ρ : Loc) (a : Act), (∀ x ∈ o.op.operands, VR ρ (evS S x) (a.eval x)) -> VR ρ ((trX x).get S) (a.eval x) := fun ρ a ha => ha x (by simp [ho, Op.operands])
 split at h
 ·exact Vad h
 ·rename_i d hne hd; simp only at h
  split at h
  ·rename_i t' y hcx
   split at h
   ·rename_i ht; obtain ⟨rfl, rfl, rfl⟩ := Vaa h; refine ⟨rfl, rfl, fun ρ a ha w => ?_⟩
    have g := gx ρ a ha; rw [hcx] at g; simp only [VR] at g; obtain ⟨z, g1, g2⟩ := g; refine ⟨.tuple #[z, .bool true], ?_, ?_⟩
    ·simp only [execOp, ho, g1, Instr.typeAssert, Sem.run_bind, Eng.run_underlying' hd, Result.andThen_ok]; cases d <;> first | (simp [ht]; done) | exact (hne _ rfl).elim
    ·simp only [VR]; exact ⟨_, rfl, by simp only [VRs]; exact ⟨z, [.bool true], rfl, g2, .bool true, [], rfl, VR_b ρ _, rfl⟩⟩
   ·rename_i ht
    split at h
    ·rename_i z hz
     have hv := Vr0
     split at h
     ·exact Vad h
     ·rename_i c hc; obtain ⟨rfl, rfl, rfl⟩ := Vaa h; refine ⟨rfl, rfl, fun ρ a ha w => ?_⟩
      have g := gx ρ a ha; rw [hcx] at g; simp only [VR] at g; obtain ⟨z', g1, g2⟩ := g; refine ⟨.tuple #[z, .bool false], ?_, ?_⟩
      ·simp only [execOp, ho, g1, Instr.typeAssert, Sem.run_bind, Eng.run_underlying' hd, Result.andThen_ok]; cases d <;> first | (simp [ht, Vd9 hz]; done) | exact (hne _ rfl).elim
      ·simp only [VR]; exact ⟨_, rfl, by simp only [VRs]; exact ⟨z, [.bool false], rfl, hv ρ z, .bool false, [], rfl, VR_b ρ _, rfl⟩⟩
    ·exact Vad h
  ·rename_i t' y hcx
   split at h
   ·rename_i ht; obtain ⟨rfl, rfl, rfl⟩ := Vaa h; refine ⟨rfl, rfl, fun ρ a ha w => ?_⟩
    have g := gx ρ a ha; rw [hcx] at g; simp only [VR] at g; obtain ⟨z, g1, g2⟩ := g; refine ⟨z, ?_, g2⟩; simp only [execOp, ho, g1, Instr.typeAssert, Sem.run_bind, Eng.run_underlying' hd, Result.andThen_ok]; cases d <;> first | (simp [ht]; done) | exact (hne _ rfl).elim
   ·exact Vad h
  ·exact Vad h
 ·exact Vad h
theorem keepI_eq (k : IntKind) (n : Int) : (Int.rec (fun m => keepN k m (.i k (k.wrap (.ofNat m)))) (fun m => .i k (k.wrap (.negSucc m))) n : CVal) = .i k (k.wrap n) := by
 cases n with
 | ofNat m => exact Vj3 k m _ rfl
 | negSucc m => rfl
theorem Vf6 {o : Oper} {call : Vag} {src dst : TypeId} {x : Operand} (ho : o.op = .convert src dst x) {k k' : IntKind} (hs : P.underlying src = some (.int k)) (hd : P.underlying dst = some (.int k')) : Pure P o call := by
 intro S v hp nx h; unfold trO at h; rw [ho] at h; simp only [hs, hd] at h; obtain ⟨j, n, h1, h⟩ := Vgd h; obtain ⟨h2, rfl, rfl⟩ := Vaa h; rw [keepI_eq] at h2; subst h2; refine ⟨rfl, rfl, fun ρ a ha w => ?_⟩
 have g := ha x (by simp [ho, Op.operands]); simp only [evS, h1] at g; refine ⟨_, ?_, VR_i ρ _ _⟩; simp [execOp, ho, g.i_eq, convert, Eng.run_underlying' hs, Eng.run_underlying' hd, Conv.intToInt]
theorem Vf5 {o : Oper} {call : Vag} {src dst : TypeId} {x : Operand} (ho : o.op = .convert src dst x) (hs : P.underlying src = some .string) (hd : P.underlying dst = some .string) : Pure P o call := by
 intro S v hp nx h; unfold trO at h; rw [ho] at h; simp only [hs, hd] at h; obtain ⟨l, h1, h⟩ := Vhu h; obtain ⟨rfl, rfl, rfl⟩ := Vaa h; refine ⟨rfl, rfl, fun ρ a ha w => ?_⟩
 have g := ha x (by simp [ho, Op.operands]); simp only [evS, h1] at g; refine ⟨_, ?_, g⟩; rw [g.s_eq.1]; simp [execOp, ho, g.s_eq.1, convert, Eng.run_underlying' hs, Eng.run_underlying' hd]
end Go.CE
namespace Go.CE
variable {P : Program}
theorem Vfv {b : Builtin} {args : Array Operand} {tys : Array TypeId} {y : Operand} (h : y ∈ args.toList) : y ∈ (Op.call { callee := .builtin b, args := args, argTypes := tys }).operands := by
 simp only [Op.operands, Call.operands]; simp at h ⊢; exact h
theorem arr1 {α : Type} {a : Array α} {x : α} (h : a.toList = [x]) : a = #[x] := Zn.1 h
theorem Vk9 {o : Oper} {S : St} {args : Array Operand} {tys : Array TypeId} {x : Operand} {t : TypeId} (ho : o.op = .call { callee := .builtin .len, args := args, argTypes := tys }) (hx : args.toList = [x]) (ht : tys.toList = [t]) {c : CVal}
  (hm : ∀ k e, P.underlying t ≠ some (.map k e)) (h : cLen P S t (evS S x) = some c) : PureS P o (evS S) c := by
 intro ρ a ha w
 have h1 := ha x (by rw [ho]; exact Vfv (by simp [hx])); obtain ⟨cc, hc⟩ := Eng.exec_builtin (P := P) (a := a) ho w; rw [arr1 hx, arr1 ht] at hc; rw [hc]
 revert h h1
 generalize evS S x = cx; intro h h1; unfold cLen at h
 split at h
 ·rename_i l hu; cases h; refine ⟨_, ?_, VR_i ρ _ _⟩; simp [builtin, Builtin.len_, Eng.run_underlying' hu, h1.s_eq.1, goInt, Vci]
 ·rename_i e hu; cases h; refine ⟨_, ?_, VR_i ρ _ _⟩; simp [builtin, Builtin.len_, Eng.run_underlying' hu, h1.v_eq, goInt]
 ·rename_i e b off n sz hu; cases h; obtain ⟨_, _, _, _, _, _, q, _⟩ := h1.sl_eq; refine ⟨_, ?_, VR_i ρ _ _⟩; simp [builtin, Builtin.len_, Eng.run_underlying' hu, q, goInt]
 ·rename_i n e hu; cases h; refine ⟨_, ?_, VR_i ρ _ _⟩; simp [builtin, Builtin.len_, Eng.run_underlying' hu, goInt]
 ·rename_i k e hu; exact (hm k e hu).elim
 ·rename_i k e b hu; exact (hm k e hu).elim
 ·cases h
theorem pure_len {o : Oper} {call : Vag} {args : Array Operand} {tys : Array TypeId} {x : Operand} {t : TypeId} (ho : o.op = .call { callee := .builtin .len, args := args, argTypes := tys }) (hx : args.toList = [x]) (ht : tys.toList = [t]) (hm : ∀ k e, P.underlying t ≠ some (.map k e)) : Pure P o call := by
 intro S v hp nx h; unfold trO at h; rw [ho] at h; simp only [hx, ht] at h
 have byTell : tell (cLen P S t ((trX x).get S)) S = .ok v hp nx -> hp = S.hp /\ nx = S.nx /\ PureS P o (evS S) v := by
  intro h; obtain ⟨h1, h2, h3⟩ := Ve6 h; exact ⟨h2, h3, Vk9 ho hx ht hm h1⟩
 split at h
 ·rename_i hu; obtain ⟨l, h1, h⟩ := Vhu h; obtain ⟨rfl, rfl, rfl⟩ := Vaa h; exact ⟨rfl, rfl, Vk9 (S := S) ho hx ht hm (by simp [cLen, hu, h1])⟩
 ·rename_i e hu; rcases on_sl_ok (x := (trX x).get S) (f := fun (_ : ID) (_ n _ : Nat) => Rs.ok (.i .i64 (.ofNat n)) S.hp S.nx) (z := tell (cLen P S t ((trX x).get S)) S) with ⟨b, off, n, sz, h1, h2⟩ | h2
  ·obtain ⟨rfl, rfl, rfl⟩ := Vaa (h2.symm.trans h); exact ⟨rfl, rfl, Vk9 (S := S) ho hx ht hm (by simp [cLen, hu, h1])⟩
  ·exact byTell (h2.symm.trans h)
 ·exact byTell h
theorem Vg9 {S : St} : ∀ l : List Operand, (trL l).get S = l.map (evS S)
 | [] => rfl
 | x :: l => by simp only [trL, Zj, Vg9 l]
theorem pure_cap {o : Oper} {call : Vag} {args : Array Operand} {tys : Array TypeId} (ho : o.op = .call { callee := .builtin .cap, args := args, argTypes := tys }) : Pure P o call := by
 intro S v hp nx h; unfold trO at h; rw [ho] at h; simp only [Vg9] at h; unfold Vbg at h
 split at h <;> first | (exact Vad h) | skip
 all_goals first | contradiction | skip
 rename_i t x _ ht hx; obtain ⟨h1, h2, h3⟩ := Vk0 h; refine ⟨h2, h3, fun ρ a ha w => ?_⟩
 have hxs : ∃ y, args.toList = [y] /\ x = evS S y := by
  cases hl : args.toList with
  | nil => rw [hl] at hx; cases hx
  | cons y l => rw [hl] at hx; cases l with
   | nil => simp only [Zj, List.map_nil, Zv] at hx; exact ⟨y, rfl, hx.1.symm⟩
   | cons z l => simp at hx
 obtain ⟨y, hy, rfl⟩ := hxs
 have g1 := ha y (by rw [ho]; exact Vfv (by simp [hy])); obtain ⟨cc, hc⟩ := Eng.exec_builtin (P := P) (a := a) ho w; rw [arr1 hy, arr1 ht] at hc; rw [hc]
 revert h1 g1
 generalize evS S y = cx; intro h1 g1; unfold cCap at h1
 split at h1
 ·rename_i e hu; cases h1; refine ⟨_, ?_, VR_i ρ _ _⟩; simp [builtin, Builtin.cap_, Eng.run_underlying' hu, g1.v_eq, goInt]
 ·rename_i n e hu; cases h1; refine ⟨_, ?_, VR_i ρ _ _⟩; simp [builtin, Builtin.cap_, Eng.run_underlying' hu, goInt]
 ·cases h1
theorem run_cMax {ρ : Loc} (w : World) : ∀ (l : List CVal) (us : List Value) (x c : CVal) (u : Value), VRs ρ l us -> VR ρ x u -> cMax x l = some c -> ∃ y, (us.foldlM Builtin.max2 u).run P w = .ok y w /\ VR ρ c y
 | [], us, x, c, u, h, hx, hc => by simp only [VRs] at h; subst h; cases hc; exact ⟨u, by simp, hx⟩
 | z :: l, us, x, c, u, h, hx, hc => by
  simp only [VRs] at h; obtain ⟨v, us', rfl, h2, h3⟩ := h; unfold cMax at hc
  split at hc
  ·rename_i k i k' j
   split at hc
   ·rename_i hk; obtain rfl := Vfx hk; obtain ⟨y, h4, h5⟩ := run_cMax w l us' _ c (.int k (if j > i then j else i)) h3 (VR_i ρ _ _) hc; refine ⟨y, ?_, h5⟩; rw [hx.i_eq, h2.i_eq]; simp [Builtin.max2, h4]
   ·cases hc
  ·cases hc
theorem run_cMin {ρ : Loc} (w : World) : ∀ (l : List CVal) (us : List Value) (x c : CVal) (u : Value), VRs ρ l us -> VR ρ x u -> cMin x l = some c -> ∃ y, (us.foldlM Builtin.min2 u).run P w = .ok y w /\ VR ρ c y
 | [], us, x, c, u, h, hx, hc => by simp only [VRs] at h; subst h; cases hc; exact ⟨u, by simp, hx⟩
 | z :: l, us, x, c, u, h, hx, hc => by
  simp only [VRs] at h; obtain ⟨v, us', rfl, h2, h3⟩ := h; unfold cMin at hc
  split at hc
  ·rename_i k i k' j
   split at hc
   ·rename_i hk; obtain rfl := Vfx hk; obtain ⟨y, h4, h5⟩ := run_cMin w l us' _ c (.int k (if j < i then j else i)) h3 (VR_i ρ _ _) hc; refine ⟨y, ?_, h5⟩; rw [hx.i_eq, h2.i_eq]; simp [Builtin.min2, h4]
   ·cases hc
  ·cases hc
theorem Vol {ρ : Loc} {f : Operand -> CVal} {g : Operand -> Value} : ∀ l : List Operand, (∀ x ∈ l, VR ρ (f x) (g x)) -> VRs ρ (l.map f) (l.map g)
 | [], _ => by simp [VRs]
 | x :: l, h => by simp only [Zj, VRs]; exact ⟨_, _, rfl, h x (by simp), Vol l (fun y hy => h y (by simp [hy]))⟩
theorem Vjy {o : Oper} {call : Vag} {b : Builtin} {args : Array Operand} {tys : Array TypeId} (ho : o.op = .call { callee := .builtin b, args := args, argTypes := tys }) (hb : b = .max \/ b = .min) : Pure P o call := by
 intro S v hp nx h; unfold trO at h; rw [ho] at h
 have h' : Vbg P S b tys.toList (args.toList.map (evS S)) = .ok v hp nx := by
  rw [<- Vg9]; rcases hb with rfl | rfl <;> exact h
 have key : ∃ y l, args.toList = y :: l /\ hp = S.hp /\ nx = S.nx /\ ((b = .max /\ cMax (evS S y) (l.map (evS S)) = some v) \/ (b = .min /\ cMin (evS S y) (l.map (evS S)) = some v)) := by
  cases hl : args.toList with
  | nil => rw [hl] at h'; rcases hb with rfl | rfl <;> (unfold Vbg at h'; simp at h')
  | cons y l =>
   rw [hl] at h'; rcases hb with rfl | rfl
   ·have h2 : S.opt (cMax (evS S y) (l.map (evS S))) = .ok v hp nx := by simpa [Vbg] using h'
    obtain ⟨h3, h4, h5⟩ := Vk0 h2; exact ⟨y, l, rfl, h4, h5, .inl ⟨rfl, h3⟩⟩
   ·have h2 : S.opt (cMin (evS S y) (l.map (evS S))) = .ok v hp nx := by simpa [Vbg] using h'
    obtain ⟨h3, h4, h5⟩ := Vk0 h2; exact ⟨y, l, rfl, h4, h5, .inr ⟨rfl, h3⟩⟩
 obtain ⟨y, l, hl, h1, h2, h3⟩ := key; refine ⟨h1, h2, fun ρ a ha w => ?_⟩
 have gy := ha y (by rw [ho]; exact Vfv (by simp [hl]))
 have gl := Vol (ρ := ρ) (f := evS S) (g := a.eval) l (fun z hz => ha z (by rw [ho]; exact Vfv (by simp [hl, hz]))); obtain ⟨cc, hc⟩ := Eng.exec_builtin (P := P) (a := a) ho w; rw [hc]
 have hm : (args.map a.eval).toList = a.eval y :: l.map a.eval := by rw [Array.toList_map, hl]; rfl
 rcases h3 with ⟨rfl, h3⟩ | ⟨rfl, h3⟩
 ·obtain ⟨u, h4, h5⟩ := run_cMax (P := P) w _ _ _ _ _ gl gy h3; refine ⟨u, ?_, h5⟩; simp only [builtin, Builtin.max_, hm, Sem.run_bind, h4, Result.andThen_ok]; rfl
 ·obtain ⟨u, h4, h5⟩ := run_cMin (P := P) w _ _ _ _ _ gl gy h3; refine ⟨u, ?_, h5⟩; simp only [builtin, Builtin.min_, hm, Sem.run_bind, h4, Result.andThen_ok]; rfl
end Go.CE
namespace Go.CE
variable {P : Program}
theorem Vck {t : CT} {len : Nat} : ∀ (n o : Nat) (l : List CVal), Vc6 t len o n = some l -> l.length = n /\ ∀ j, j < n -> o + j < len /\ l[j]? = some (cget t (o + j))
 | 0, o, l, h => by simp [Vc6] at h; subst h; exact ⟨rfl, fun j hj => by omega⟩
 | n + 1, o, l, h => by
  unfold Vc6 at h
  split at h
  ·rename_i hlt
   split at h
   ·rename_i l' hl'; cases h; obtain ⟨h1, h2⟩ := Vck n (o + 1) l' hl'; rw [Nat.blt_eq] at hlt; refine ⟨by simp [h1], fun j hj => ?_⟩; cases j with
    | zero => exact ⟨hlt, rfl⟩
    | succ j =>
     obtain ⟨h3, h4⟩ := h2 j (by omega); exact ⟨by omega, by simp only [Zp]; rw [h4]; congr 2; omega⟩
   ·cases h
  ·cases h
theorem Vbv : ∀ (l : List CVal) (t : CT) (o j : Nat), o + l.length <= 512 -> j < 512 -> cget (Vcj l t o) j = (if o <= j then (match l[j - o]? with | some x => x | none => cget t j) else cget t j)
 | [], t, o, j, _, _ => by simp [Vcj]
 | c :: l, t, o, j, ho, hj => by
  simp only [List.length_cons] at ho; simp only [Vcj]; rw [Vbv l (cput t o c) (o + 1) j (by omega) hj]
  by_cases h1 : o + 1 <= j
  ·rw [if_pos h1, if_pos (by omega)]
   have : j - o = (j - (o + 1)) + 1 := by omega
   rw [this, Zp]
   split
   ·rfl
   ·rw [Vks _ _ _ _ (by omega) hj, if_neg (by omega)]
  ·rw [if_neg h1, Vks _ _ _ _ (by omega) hj]
   by_cases h2 : j = o
   ·subst h2; simp
   ·rw [if_neg h2, if_neg (by omega)]
theorem Vkr (l : List CVal) (j : Nat) (hl : l.length <= 512) (x : CVal) (hx : l[j]? = some x) : cget (Vef l) j = x := by
 have hj : j < l.length := by
  rcases Zf j l.length with h | h
  ·exact h
  ·rw [Zd h] at hx; cases hx
 unfold Vef; rw [Vbv l c0 0 j (by omega) (by omega), if_pos (by omega), Nat.sub_zero, hx]
theorem VRs.get' {ρ : Loc} {l : List CVal} {us : List Value} (h : VRs ρ l us) (j : Nat) (u : Value) (hu : us[j]? = some u) : ∃ x, l[j]? = some x /\ VR ρ x u := by
 have hj : j < us.length := by
  rcases Zf j us.length with q | q
  ·exact q
  ·rw [Zd q] at hu; cases hu
 have hl := h.length
 have hx : l[j]? = some l[j] := Zi (by omega); obtain ⟨v, h1, h2⟩ := h.get j _ hx; rw [hu] at h1; cases h1; exact ⟨_, hx, h2⟩
noncomputable def Mem.set (M : Mem) (b : ID) (o : CObj) : Mem := fun i => if i = b then o else M i
theorem Va6 (H : HT) (b : ID) (o : CObj) : hget (hput H b o) = Mem.set (hget H) b o := by funext i; exact Vfc H b i o
def Loc.set (ρ : Loc) (n : ID) (x : Nat × Nat × Nat) : Loc := fun i => if i = n then some x else ρ i
theorem Vhw {ρ : Loc} {M : Mem} {n n' : ID} {w : World} {o : Obj} {c : CObj} {room : Nat} (h : HR ρ M w) (hf : Free ρ n n') (hn : n'.n = n.n + 1) (hc : ObjR (Loc.set ρ n (w.heap.size, 0, room)) (w.alloc o) w.heap.size 0 room c) :
  Ev ρ M n w (Loc.set ρ n (w.heap.size, 0, room)) (Mem.set M n c) n' (w.alloc o) /\ HR (Loc.set ρ n (w.heap.size, 0, room)) (Mem.set M n c) (w.alloc o) := by
 have hnn : ρ n = none := hf n (Za _) (by omega)
 have hMn : M n = .no := by
  cases hm : M n with
  | no => rfl
  | _ => obtain ⟨_, _, _, h1, _⟩ := h.obj n (by rw [hm]; simp); rw [hnn] at h1; cases h1
 have hsub : Sub ρ (Loc.set ρ n (w.heap.size, 0, room)) := by
  intro i x hx; unfold Loc.set; rw [if_neg (by rintro rfl; rw [hnn] at hx; cases hx)]; exact hx
 refine ⟨⟨by omega, by simp, rfl, rfl, rfl, fun i hi => ?_, fun b hb _ => Eng.heap_alloc_lt w o hb, fun i x hi hx => ?_, fun i hi => ?_⟩, fun i hi => ?_, fun i j x y hi hj hne hx hy => ?_⟩
 ·unfold Loc.set; rw [if_neg (by rintro rfl; omega)]
 ·by_cases e : i = n
  ·subst e; simp only [Loc.set, if_true] at hx; cases hx; right; exact Za _
  ·simp only [Mem.set, if_neg e] at hi; simp only [Loc.set, if_neg e] at hx; exact .inl ⟨i, x, hi, hx, rfl⟩
 ·by_cases e : i = n
  ·subst e; right; omega
  ·simp only [Mem.set, if_neg e] at hi; exact .inl hi
 ·by_cases e : i = n
  ·subst e; simp only [Mem.set, if_true]; exact ⟨_, _, _, by simp [Loc.set], hc⟩
  ·simp only [Mem.set, if_neg e] at hi ⊢; obtain ⟨blk, off, r, h1, h2⟩ := h.obj i hi; exact ⟨blk, off, r, hsub _ _ h1, ObjR.mono hsub (Eng.heap_alloc_lt w o h2.lt) h2⟩
 ·have old : ∀ k z, k ≠ n -> Mem.set M n c k ≠ .no -> Loc.set ρ n (w.heap.size, 0, room) k = some z -> z.1 < w.heap.size := by
   intro k z hk hm hz; simp only [Mem.set, if_neg hk] at hm; simp only [Loc.set, if_neg hk] at hz; obtain ⟨blk, off, r, h1, h2⟩ := h.obj k hm; rw [h1] at hz; cases hz; exact h2.lt
  by_cases e : i = n
  ·subst e
   have h2 := old j y (fun e => hne e.symm) hj hy; simp only [Loc.set, if_true] at hx; cases hx; simp only; omega
  ·by_cases e' : j = n
   ·subst e'
    have h2 := old i x e hi hx; simp only [Loc.set, if_true] at hy; cases hy; simp only; omega
   ·simp only [Mem.set, if_neg e] at hi; simp only [Mem.set, if_neg e'] at hj; simp only [Loc.set, if_neg e] at hx; simp only [Loc.set, if_neg e'] at hy; exact h.inj i j x y hi hj hne hx hy
theorem Ve5 {ρ : Loc} {M : Mem} {n : ID} {w w' : World} {b : ID} {blk off room : Nat} {c : CObj} (h : HR ρ M w) (hb : M b ≠ .no) (hρ : ρ b = some (blk, off, room)) (hs : w'.heap.size = w.heap.size) (h1 : w'.os = w.os) (h2 : w'.tape = w.tape) (h3 : w'.output = w.output)
  (ho : ∀ k, k ≠ blk -> w'.heap[k]? = w.heap[k]?) (hc : c = .no \/ ObjR ρ w' blk off room c) : Ev ρ M n w ρ (Mem.set M b c) n w' /\ HR ρ (Mem.set M b c) w' := by
 have ne : ∀ i, Mem.set M b c i ≠ .no -> M i ≠ .no := by
  intro i hi
  by_cases e : i = b
  ·subst e; exact hb
  ·simpa only [Mem.set, if_neg e] using hi
 refine ⟨⟨Za _, by omega, h1, h2, h3, fun _ _ => rfl, fun k hk hn => ho k (fun e => hn b _ hb hρ e.symm), fun i x hi hx => .inl ⟨i, x, ne i hi, hx, rfl⟩, fun i hi => .inl (ne i hi)⟩, fun i hi => ?_, fun i j x y hi hj hne hx hy => h.inj i j x y (ne i hi) (ne j hj) hne hx hy⟩
 by_cases e : i = b
 ·subst e; simp only [Mem.set, if_true] at hi ⊢; rcases hc with hc | hc
  ·exact (hi hc).elim
  ·exact ⟨blk, off, room, hρ, hc⟩
 ·simp only [Mem.set, if_neg e] at hi ⊢; obtain ⟨k, o', r, g1, g2⟩ := h.obj i hi; exact ⟨k, o', r, g1, ObjR.mono (Sub.refl ρ) (ho k (h.inj i b _ _ hi hb e g1 hρ)) g2⟩
end Go.CE
namespace Go.CE
variable {P : Program}
def ExS (P : Program) (o : Oper) (X : Operand -> CVal) (M : Mem) (n : ID) (v : CVal) (M' : Mem) (n' : ID) : Prop :=
 ∀ (ρ : Loc) (w : World) (a : Act), (∀ x ∈ o.op.operands, VR ρ (X x) (a.eval x)) -> HR ρ M w -> Free ρ n n' ->
  ∃ (nx : Next) (u : Value) (w' : World) (ρ' : Loc), (execOp a.eval o).run P w = .ok nx w' /\ (nx = .value u \/ (nx = .skip /\ u = undef)) /\ Ev ρ M n w ρ' M' n' w' /\ HR ρ' M' w' /\ VR ρ' v u
theorem PureS.ex {o : Oper} {X : Operand -> CVal} {v : CVal} (h : PureS P o X v) (M : Mem) (n : ID) : ExS P o X M n v M n := by
 intro ρ w a ha hr hf; obtain ⟨u, h1, h2⟩ := h ρ a ha w; exact ⟨.value u, u, w, ρ, h1, .inl rfl, Ev.refl ρ M n w, hr, h2⟩
theorem ObjR.cells_of {ρ : Loc} {M : Mem} {w : World} (h : HR ρ M w) {b : ID} {e len fz : Nat} {t : CT} (hb : M b = .cells e len fz t) {blk off room : Nat} (hρ : ρ b = some (blk, off, room)) : ObjR ρ w blk off room (.cells e len fz t) := by
 obtain ⟨_, _, _, h1, h2⟩ := h.obj b (by rw [hb]; simp); rw [hρ] at h1; cases h1; rw [hb] at h2; exact h2
theorem Vhv {o : CObj} {f : TypeId -> Nat -> Nat -> CT -> Rs} {v : CVal} {hp : HT} {nx : ID} (h : Vnt o f .no = .ok v hp nx) : ∃ e len fz t, o = .cells e len fz t /\ f e len fz t = .ok v hp nx := by
 cases o with
 | cells e len fz t => exact ⟨e, len, fz, t, rfl, h⟩
 | no => cases h
 | map _ _ => cases h
 | iter _ _ => cases h
 | loop _ _ _ _ _ _ _ _ _ => cases h
 | dfr => cases h
theorem Vi2 {ρ : Loc} {w : World} {blk off room e len fz : Nat} {t : CT} (h : ObjR ρ w blk off room (.cells e len fz t)) {j : Nat} (hj : j < len) : ∃ u, w.cell? ⟨blk, off + j, none⟩ = some u /\ VR ρ (cget t j) u /\ u.oneCell' = true := by
 obtain ⟨arr, lo, hi, h1, _, _, _, _, h2⟩ := h; obtain ⟨u, h3, h4, h5⟩ := h2 j hj; exact ⟨u, by simp [World.cell?, h1, h3], h4, h5⟩
theorem Vj7 {ρ : Loc} {w : World} {blk off room e len fz : Nat} {t : CT} (h : ObjR ρ w blk off room (.cells e len fz t)) {o n : Nat} {l : List CVal} (hl : Vc6 t len o n = some l) : ∃ us : List Value, us.length = n /\ VRs ρ l us /\ (∀ x ∈ us, x.oneCell' = true) /\ ∀ j v, us[j]? = some v -> w.cell? ⟨blk, off + o + j, none⟩ = some v := by
 obtain ⟨g1, g2⟩ := Vck n o l hl; clear hl
 induction n generalizing o l with
 | zero =>
  have : l = [] := Zy.1 g1; subst this; exact ⟨[], rfl, by simp [VRs], fun x hx => by simp at hx, fun j v hj => by simp at hj⟩
 | succ n ih =>
  cases l with
  | nil => simp at g1
  | cons c l =>
   obtain ⟨q1, q2⟩ := g2 0 (by omega); simp only [List.getElem?_cons_zero, Z0, Nat.add_zero] at q1 q2; obtain ⟨u, k1, k2, k3⟩ := Vi2 h q1
   obtain ⟨us, r1, r2, r3, r4⟩ := ih (o := o + 1) (l := l) (by simpa using g1) (fun j hj => by
    obtain ⟨a1, a2⟩ := g2 (j + 1) (by omega)
    exact ⟨by omega, by rw [Zp] at a2; rw [a2]; congr 2; omega⟩)
   refine ⟨u :: us, by simp [r1], by simp only [VRs]; exact ⟨u, us, rfl, q2 ▸ k2, r2⟩, fun x hx => ?_, fun j v hj => ?_⟩
   ·rcases List.mem_cons.1 hx with rfl | hx
    ·exact k3
    ·exact r3 x hx
   ·cases j with
    | zero => simp at hj; subst hj; simpa [Z4] using k1
    | succ j => rw [Zp] at hj; have := r4 j v hj; rw [<- this]; congr 2; omega
theorem Vk8 {o : Oper} {call : Vag} {t : TypeId} {x : Operand} (ho : o.op = .load t x) {S : St} {v : CVal} {hp : HT} {nx : ID} (h : (trO P o).run call S = .ok v hp nx) :
  ∃ b off, (trX x).get S = .p b off /\ hget S.hp b ≠ .no /\ hp = S.hp /\ nx = S.nx /\ ∀ (M : Mem) (n : ID), M b = hget S.hp b -> ExS P o (evS S) M n v M n := by
 unfold trO at h; rw [ho] at h; simp only [trLoad] at h
 split at h
 ·rename_i ht; obtain ⟨b, off, h1, h⟩ := Vns h; obtain ⟨e, len, fz, ct, h2, h⟩ := Vhv h; obtain ⟨h3, h⟩ := Voc h; obtain ⟨rfl, rfl, rfl⟩ := Vaa h; rw [Nat.blt_eq] at h3; refine ⟨b, off, h1, by rw [h2]; simp, rfl, rfl, fun M n hM ρ w a ha hr hf => ?_⟩
  have g := ha x (by simp [ho, Op.operands]); simp only [evS, h1] at g; obtain ⟨blk, o', room, g1, g2⟩ := g.p_eq; rw [h2] at hM; obtain ⟨u, k1, k2, k3⟩ := Vi2 (ObjR.cells_of hr hM g1) h3
  exact ⟨.value u, u, w, ρ, by simp [execOp, ho, g2, Instr.loadAt, Instr.sureAddr, Eng.run_loadVar_one (show Eng.tAgg P t = some false by
   unfold tAgg at ht; unfold Eng.tAgg; rw [Ze] at ht ⊢; obtain ⟨d, q1, q2⟩ := ht; exact ⟨d, q1, by cases d <;> simp_all⟩) k1], .inl rfl, Ev.refl ρ M n w, hr, k2⟩
 ·rename_i sz ht hs; obtain ⟨b, off, h1, h⟩ := Vns h; obtain ⟨e, len, fz, ct, h2, h⟩ := Vhv h
  split at h
  ·rename_i l hl; obtain ⟨rfl, rfl, rfl⟩ := Vaa h; refine ⟨b, off, h1, by rw [h2]; simp, rfl, rfl, fun M n hM ρ w a ha hr hf => ?_⟩
   have g := ha x (by simp [ho, Op.operands]); simp only [evS, h1] at g; obtain ⟨blk, o', room, g1, g2⟩ := g.p_eq; rw [h2] at hM; obtain ⟨us, k1, k2, k3, k4⟩ := Vj7 (ObjR.cells_of hr hM g1) hl; obtain ⟨bt, z, hti⟩ := Vn7 hs
   refine ⟨.value (.agg us.toArray), .agg us.toArray, w, ρ, by simp [execOp, ho, g2, Instr.loadAt, Instr.sureAddr, Eng.run_loadVar_agg (show Eng.tAgg P t = some true by
    unfold tAgg at ht; unfold Eng.tAgg; rw [Ze] at ht ⊢; obtain ⟨d, q1, q2⟩ := ht; exact ⟨d, q1, by cases d <;> simp_all⟩) hti k1 k4], .inl rfl, Ev.refl ρ M n w, hr, ?_⟩
   simp only [VR]; exact ⟨_, rfl, by simpa using k2, by simpa using k3⟩
  ·cases h
 ·exact Vad h
theorem write_cells {ρ : Loc} {M : Mem} {n : ID} {w : World} (hr : HR ρ M w) {b : ID} {e len fz : Nat} {t : CT} (hb : M b = .cells e len fz t) {blk off room : Nat} (hρ : ρ b = some (blk, off, room)) {o : Nat} {xs : List CVal} {vs : List Value} (hx : VRs ρ xs vs) (h1 : ∀ x ∈ vs, x.oneCell' = true) (hfz : fz <= o) (hle : o + xs.length <= len) :
  ∃ w', (∀ P : Program, (storeCells ⟨blk, off + o, none⟩ vs).run P w = .ok () w') /\ Ev ρ M n w ρ (Mem.set M b (.cells e len fz (Vcj xs t o))) n w' /\ HR ρ (Mem.set M b (.cells e len fz (Vcj xs t o))) w' := by
 obtain ⟨arr, lo, hi, g1, g2, g3, g4, g5, g6⟩ := ObjR.cells_of hr hb hρ
 have g2' := g2.1
 have hvl := hx.length; refine ⟨w.setRow blk (arr.toList.take (off + o) ++ vs ++ arr.toList.drop (off + o + vs.length)).toArray, fun P => ?_, ?_⟩
 ·have := run_storeCells_atF P blk (off + o) e (lo, hi) vs 0 arr w g1 (by show hi <= _; omega) (by omega) h1; simpa using this
 ·refine Ve5 hr (by rw [hb]; simp) hρ (by simp) rfl rfl rfl (fun k hk => setRow_other w blk k _ hk) (.inr ⟨_, lo, hi, setRow_heap w blk arr _ e _ g1, g2, ?_, g4, g5, fun j hj => ?_⟩)
  ·simp only [List.size_toArray, Zk, Zg, Z3, Zb]; omega
  ·rw [Vbv xs t o j (by omega) (by omega)]
   have hget : ∀ q, (arr.toList.take (off + o) ++ vs ++ arr.toList.drop (off + o + vs.length)).toArray[off + q]? = if q < o then arr[off + q]? else if q < o + vs.length then vs[q - o]? else arr[off + q]? := by
    intro q; rw [List.getElem?_toArray]
    by_cases q1 : q < o
    ·rw [if_pos q1, List.append_assoc, Zh (by simp only [Zg, Zb]; omega), Zw, if_pos (by omega)]; simp
    ·rw [if_neg q1]
     by_cases q2 : q < o + vs.length
     ·rw [if_pos q2, Zh (by simp only [Zk, Zg, Zb]; omega), Zm (by simp only [Zg, Zb]; omega)]; congr 1; simp only [Zg, Zb]; omega
     ·rw [if_neg q2, Zm (by simp only [Zk, Zg, Zb]; omega), List.getElem?_drop]; simp only [Zk, Zg, Zb, Array.getElem?_toList]; congr 1; omega
   rw [hget j]
   by_cases q1 : o <= j
   ·rw [if_pos q1, if_neg (by omega)]
    by_cases q2 : j < o + vs.length
    ·rw [if_pos q2]
     have hv : vs[j - o]? = some vs[j - o] := Zi (by omega); obtain ⟨x, k1, k2⟩ := hx.get' (j - o) _ hv; rw [k1]; exact ⟨_, hv, k2, h1 _ (Zu _)⟩
    ·rw [if_neg q2, Zd (by omega : xs.length <= j - o)]; exact g6 j hj
   ·rw [if_neg q1, if_pos (by omega)]; exact g6 j hj
theorem Vdf (ρ : Loc) : VR ρ (.tu []) undef := by simp only [VR]; exact ⟨#[], rfl, by simp [VRs]⟩
theorem Vn8 {o : Oper} {call : Vag} {t : TypeId} {x y : Operand} (ho : o.op = .store t x y) {S : St} {v : CVal} {hp : HT} {nx : ID} (h : (trO P o).run call S = .ok v hp nx) :
  ∃ b off c, (trX x).get S = .p b off /\ hget S.hp b ≠ .no /\ hp = hput S.hp b c /\ nx = S.nx /\ ∀ (M : Mem) (n : ID), M b = hget S.hp b -> ExS P o (evS S) M n v (Mem.set M b c) n := by
 unfold trO at h; rw [ho] at h; simp only [trStore] at h
 split at h
 ·rename_i sz hs; obtain ⟨b, off, h1, h⟩ := Vns h
  split at h
  ·rename_i xs hxs
   split at h
   ·rename_i hsz; obtain ⟨e, len, fz, ct, h2, h⟩ := Vhv h; obtain ⟨h3, h⟩ := Voc h; obtain ⟨h4, h⟩ := Voc h; obtain ⟨rfl, rfl, rfl⟩ := Vaa h
    have h3 := Zl h3
    have h4 := Zl h4; rw [Zo] at hsz; refine ⟨b, off, _, h1, by rw [h2]; simp, rfl, rfl, fun M n hM ρ w a ha hr hf => ?_⟩
    have g := ha x (by simp [ho, Op.operands])
    have gy := ha y (by simp [ho, Op.operands]); simp only [evS, h1] at g; obtain ⟨blk, o', room, g1, g2⟩ := g.p_eq; obtain ⟨k1, k2⟩ := gy.cells hxs; rw [h2] at hM; obtain ⟨w', r1, r2, r3⟩ := write_cells (n := n) hr hM g1 (o := off) k1 k2 h3 (by omega)
    have hcs : (a.eval y).cells.size = sz := by have := k1.length; simpa [hsz] using this
    exact ⟨.skip, undef, w', ρ, by simp [execOp, ho, g2, Instr.storeAt, Instr.sureAddr, storeVar, Vcr hs, hcs, r1 P], .inr ⟨rfl, rfl⟩, r2, r3, Vdf ρ⟩
   ·cases h
  ·cases h
 ·exact Vad h
end Go.CE
namespace Go.CE
variable {P : Program}
theorem Vf7 {l : List Value} (h : oneVs l = true) : ∀ x ∈ l, x.oneCell' = true := fun x hx => List.all_eq_true.1 h x hx
theorem Vh3 {S : St} {c : CObj} {f : ID -> CVal} {v : CVal} {hp : HT} {nx : ID} (h : Vij S c f = .ok v hp nx) : inc S.nx = some nx /\ v = f S.nx /\ hp = hput S.hp S.nx c := by
 unfold Vij at h
 split at h
 ·rename_i n hn; obtain ⟨rfl, rfl, rfl⟩ := Vaa h; exact ⟨hn, rfl, rfl⟩
 ·cases h
theorem Vc4 {S : St} {e len : Nat} {l : List CVal} {f : ID -> CVal} {v : CVal} {hp : HT} {nx : ID} (h : Vdd S e len l f = .ok v hp nx) : len <= 512 /\ l.length = len /\ inc S.nx = some nx /\ v = f S.nx /\ hp = hput S.hp S.nx (.cells e len 0 (Vef l)) := by
 unfold Vdd at h
 split at h
 ·rename_i h1 h2; rw [Zo] at h2; exact ⟨Zl h1, h2, Vh3 h⟩
 ·cases h
theorem new_row {ρ : Loc} {M : Mem} {n n' : ID} {w : World} {e room : Nat} {l : List CVal} {us : List Value} (h : HR ρ M w) (hf : Free ρ n n') (hn : inc n = some n') (hl : VRs ρ l us) (h1 : ∀ x ∈ us, x.oneCell' = true) (hlen : l.length <= 512) (hroom : l.length <= room) (hsz : room = us.length) :
  Ev ρ M n w (Loc.set ρ n (w.heap.size, 0, room)) (Mem.set M n (.cells e l.length 0 (Vef l))) n' (w.alloc (.cells us.toArray e)) /\ HR (Loc.set ρ n (w.heap.size, 0, room)) (Mem.set M n (.cells e l.length 0 (Vef l))) (w.alloc (.cells us.toArray e)) := by
 have hn' := Vdv hn
 have hnn : ρ n = none := hf n (Za _) (by omega)
 have hsub : Sub ρ (Loc.set ρ n (w.heap.size, 0, room)) := by
  intro i x hx; unfold Loc.set; rw [if_neg (by rintro rfl; rw [hnn] at hx; cases hx)]; exact hx
 refine Vhw h hf hn' ⟨us.toArray, 0, 0, Eng.heap_alloc_new w _, ⟨by omega, fun _ => rfl⟩, by simp [hsz], hroom, hlen, fun j hj => ?_⟩
 have hlu := hl.length
 have hv : us[j]? = some us[j] := Zi (by omega); obtain ⟨x, k1, k2⟩ := hl.get' j _ hv; refine ⟨us[j], by simp, ?_, h1 _ (Zu _)⟩; rw [Vkr l j hlen x k1]; exact VR.mono hsub _ _ k2
theorem Vod {o : Oper} {call : Vag} {t : TypeId} (ho : o.op = .alloc t) {S : St} {v : CVal} {hp : HT} {nx : ID} (h : (trO P o).run call S = .ok v hp nx) :
  ∃ c, inc S.nx = some nx /\ hp = hput S.hp S.nx c /\ ∀ (M : Mem), ExS P o (evS S) M S.nx v (Mem.set M S.nx c) nx := by
 unfold trO at h; rw [ho] at h; simp only at h
 split at h
 ·rename_i z hz
  split at h
  ·rename_i h1; obtain ⟨h2, h3, h4, rfl, rfl⟩ := Vc4 h; refine ⟨_, h4, rfl, fun M ρ w a ha hr hf => ?_⟩
   have hone := Vf7 h1
   have hl : (Vo7 z.cells.toList).length = z.cells.size := h3; obtain ⟨e1, e2⟩ := new_row (e := t) (room := z.cells.size) hr hf h4 (Vfp ρ z.cells.toList hone) hone (by rw [<- hl] at h2; exact h2) (by simp) (by simp)
   have hl' : (z.cells.toList.map Vfl).length = z.cells.size := by simp
   rw [hl'] at e1 e2; refine ⟨.value (.pointer (some ⟨w.heap.size, 0, none⟩)), _, _, _, ?_, .inl rfl, e1, e2, ?_⟩
   ·simp [execOp, ho, Instr.alloc, Vd9 hz, newVar, newRow]
   ·simp only [VR]; exact ⟨w.heap.size, 0, z.cells.size, by simp [Loc.set], by simp⟩
  ·cases h
 ·exact Vad h
theorem box_ex {o : Oper} {call : Vag} {t : TypeId} {x : Operand} (ho : o.op = .box t x) {S : St} {v : CVal} {hp : HT} {nx : ID} (h : (trO P o).run call S = .ok v hp nx) :
  ∃ c, inc S.nx = some nx /\ hp = hput S.hp S.nx c /\ ∀ (M : Mem), ExS P o (evS S) M S.nx v (Mem.set M S.nx c) nx := by
 unfold trO at h; rw [ho] at h; simp only at h
 split at h
 ·rename_i xs hxs; obtain ⟨h2, h3, h4, rfl, rfl⟩ := Vc4 h; refine ⟨_, h4, rfl, fun M ρ w a ha hr hf => ?_⟩
  have g := ha x (by simp [ho, Op.operands]); obtain ⟨k1, k2⟩ := g.cells hxs; obtain ⟨e1, e2⟩ := new_row (e := t) (room := xs.length) hr hf h4 k1 k2 h2 (Za _) k1.length.symm; refine ⟨.value (.pointer (some ⟨w.heap.size, 0, none⟩)), _, _, _, ?_, .inl rfl, e1, e2, ?_⟩
  ·simp [execOp, ho, Instr.box, newVar, newRow]
  ·simp only [VR]; exact ⟨w.heap.size, 0, xs.length, by simp [Loc.set], by simp⟩
 ·cases h
theorem fillC {ρ : Loc} (pl : Nat -> Option (Nat × Nat)) : ∀ (parts : List (Nat × CVal)) (vs : List (Nat × Value)) (cs r : List CVal) (us : Array Value),
  parts.map (·.1) = vs.map (·.1) -> VRs ρ (parts.map (·.2)) (vs.map (·.2)) -> VRs ρ cs us.toList -> (∀ x ∈ us.toList, x.oneCell' = true) -> cFill pl cs parts = some r ->
  ∃ us', Instr.fill pl us vs = some us' /\ VRs ρ r us'.toList /\ ∀ x ∈ us'.toList, x.oneCell' = true
 | [], [], cs, r, us, _, _, h, h1, hr => by simp [cFill] at hr; subst hr; exact ⟨us, rfl, h, h1⟩
 | [], _ :: _, _, _, _, hm, _, _, _, _ => by simp at hm
 | _ :: _, [], _, _, _, hm, _, _, _, _ => by simp at hm
 | (i, x) :: parts, (i', v) :: vs, cs, r, us, hm, hx, h, h1, hr => by
  simp only [Zj, Zv] at hm; obtain ⟨rfl, hm⟩ := hm; simp only [Zj, VRs, Zv] at hx; obtain ⟨u, us', ⟨rfl, rfl⟩, h2, h3⟩ := hx; unfold cFill at hr
  split at hr
  ·rename_i off size xs hp hxs
   split at hr
   ·rename_i hc; obtain ⟨hc1, hc2⟩ := hc; obtain ⟨g1, g2⟩ := h2.cells hxs
    have hl := g1.length
    have hcl := h.length
    have hvs : v.cells.size = size := by simpa [hc1] using hl
    have e1 := Eng.fill_array off v.cells.toList 0 us
    have hfold : (v.cells.zipIdx.foldl (fun cs (x : Value × Nat) => cs.setIfInBounds (off + x.2) x.1) us) = ((v.cells.toList.zipIdx 0).foldl (fun c (p : Value × Nat) => c.setIfInBounds (off + p.2) p.1) us) := by
     rw [<- Array.foldl_toList]; simp
    have hmid : ((v.cells.toList.zipIdx 0).foldl (fun c (p : Value × Nat) => c.set (off + p.2) p.1) us.toList) = us.toList.take off ++ v.cells.toList ++ us.toList.drop (off + size) := by
     have hpre : (us.toList.take off).length = off := by rw [Zg]; omega
     have := Eng.foldset_mid v.cells.toList 0 (us.toList.take off) (us.toList.drop off) (by rw [Z3]; simp only [Zb] at hvs hcl ⊢; omega) rfl; rw [hpre, List.take_append_drop, List.drop_drop] at this; rw [this]; congr 2; simp [hvs]
    obtain ⟨us2, f1, f2, f3⟩ := fillC pl parts vs _ r (v.cells.zipIdx.foldl (fun cs (x : Value × Nat) => cs.setIfInBounds (off + x.2) x.1) us) hm h3
     (by rw [hfold, e1, hmid]; exact ((h.take off).append g1).append (h.drop _))
     (by
      rw [hfold, e1, hmid]; intro z hz; simp only [List.mem_append] at hz; rcases hz with (hz | hz) | hz
      ·exact h1 z (List.mem_of_mem_take hz)
      ·exact g2 z hz
      ·exact h1 z (List.mem_of_mem_drop hz)) hr
    refine ⟨us2, ?_, f2, f3⟩; simp only [Instr.fill, hp]; rw [if_neg (by simp at hcl; simp; omega)]; exact f1
   ·cases hr
  ·cases hr
theorem Viz {S : St} {ρ : Loc} {a : Act} : ∀ (l : List (Nat × Operand)), (∀ p ∈ l, VR ρ (evS S p.2) (a.eval p.2)) -> (Vh2 S l).map (·.1) = (l.map (fun p => (p.1, a.eval p.2))).map (·.1) /\ VRs ρ ((Vh2 S l).map (·.2)) ((l.map (fun p => (p.1, a.eval p.2))).map (·.2))
 | [], _ => by simp [Vh2, VRs]
 | (i, x) :: l, h => by
  obtain ⟨h1, h2⟩ := Viz l (fun p hp => h p (by simp [hp])); refine ⟨by simp only [Vh2, Zj]; rw [h1], ?_⟩; simp only [Vh2, Zj, VRs]; exact ⟨_, _, rfl, h (i, x) (by simp), h2⟩
theorem Vjt (w : World) : ∀ (fs : List Field) (r : List (Nat × Nat)), Vi8 P fs = some r ->
  (fs.mapM (fun f => do pure (f.offset, <- sizeOf f.type)) : Sem (List (Nat × Nat))).run P w = .ok r w
 | [], r, h => by simp [Vi8] at h; subst h; simp
 | f :: fs, r, h => by
  simp only [Vi8] at h
  split at h
  ·rename_i n r' h1 h2; simp at h; subst h
   have ih := Vjt w fs r' h2
   have hs := Vcr h1 w; simp only [bind_pure_comp] at ih; simp [List.mapM_cons, hs, ih]
  ·simp at h
theorem Vhp {o : Oper} {call : Vag} {t : TypeId} {parts : Array (Nat × Operand)} (ho : o.op = .build t parts) : Pure P o call := by
 intro S v hp nx h; unfold trO at h; rw [ho] at h; simp only at h
 have hparts : ∀ (ρ : Loc) (a : Act), (∀ x ∈ o.op.operands, VR ρ (evS S x) (a.eval x)) -> ∀ p ∈ parts.toList, VR ρ (evS S p.2) (a.eval p.2) := fun ρ a ha p hp => ha p.2 (by
  rw [ho]; simp only [Op.operands]
  simp only [List.mem_toArray, List.mem_map]; exact ⟨p, hp, rfl⟩)
 split at h
 ·rename_i z fs hz hu
  split at h
  ·rename_i pl h1 hpl; simp only at h
   split at h
   ·rename_i l hl; obtain ⟨rfl, rfl, rfl⟩ := Vaa h; refine ⟨rfl, rfl, fun ρ a ha w => ?_⟩; obtain ⟨g1, g2⟩ := Viz (S := S) (ρ := ρ) (a := a) parts.toList (hparts ρ a ha)
    have hone := Vf7 h1; obtain ⟨us', f1, f2, f3⟩ := fillC (ρ := ρ) (fun i => pl[i]?) _ _ _ l z.cells g1 g2 (Vfp ρ z.cells.toList hone) hone hl; refine ⟨.agg us', ?_, by simp only [VR]; exact ⟨us', rfl, f2, f3⟩⟩
    have hm := Vjt (P := P) w fs.toList pl hpl
    have hm2 : (fs.mapM (fun f => do pure (f.offset, <- sizeOf f.type)) : Sem (Array (Nat × Nat))).run P w = .ok pl.toArray w := by
     rw [Array.mapM_eq_mapM_toList]; simp only [Sem.run_map, hm, Result.andThen_ok]
    simp only [bind_pure_comp] at hm2; simp [execOp, ho, Instr.build, Vd9 hz, Eng.run_underlying' hu, hm2, f1]
   ·cases h
  ·exact Vad h
 ·rename_i z len e hz hu
  split at h
  ·rename_i n h1 hs; simp only at h
   split at h
   ·rename_i l hl; obtain ⟨rfl, rfl, rfl⟩ := Vaa h; refine ⟨rfl, rfl, fun ρ a ha w => ?_⟩; obtain ⟨g1, g2⟩ := Viz (S := S) (ρ := ρ) (a := a) parts.toList (hparts ρ a ha)
    have hone := Vf7 h1; obtain ⟨us', f1, f2, f3⟩ := fillC (ρ := ρ) (fun i => some (i * n, n)) _ _ _ l z.cells g1 g2 (Vfp ρ z.cells.toList hone) hone hl; refine ⟨.agg us', ?_, by simp only [VR]; exact ⟨us', rfl, f2, f3⟩⟩; simp [execOp, ho, Instr.build, Vd9 hz, Eng.run_underlying' hu, Vcr hs, f1]
   ·cases h
  ·exact Vad h
 ·exact Vad h
theorem Vlw {ρ : Loc} {z : Value} {n sz : Nat} (hz : z.cells.size = sz) (h1 : ∀ x ∈ z.cells.toList, x.oneCell' = true) (h0 : n = 0 \/ 0 < sz) :
  VRs ρ (Voo z n sz) ((Zz n).map (fun i => (z.cells)[i % z.cells.size]!)).toList /\ ∀ x ∈ ((Zz n).map (fun i => (z.cells)[i % z.cells.size]!)).toList, x.oneCell' = true := by
 have hget : ∀ i, i < n -> ∃ c, z.cells.toList[i % sz]? = some c /\ (z.cells)[i % z.cells.size]! = c /\ c.oneCell' = true := by
  intro i hi
  have hlt : i % sz < z.cells.size := by rw [hz]; exact Nat.mod_lt _ (by omega)
  refine ⟨z.cells[i % sz], by simp [hlt], ?_, h1 _ (by simp)⟩; rw [hz, getElem!_pos z.cells (i % sz) hlt]
 rw [Array.toList_map, Array.toList_range]; unfold Voo
 have key : ∀ l : List Nat, (∀ i ∈ l, i < n) -> VRs ρ (l.map (fun i => match z.cells.toList[i % sz]? with | some c => Vfl c | none => .junk)) (l.map (fun i => (z.cells)[i % z.cells.size]!)) /\ ∀ x ∈ l.map (fun i => (z.cells)[i % z.cells.size]!), x.oneCell' = true := by
  intro l
  induction l with
  | nil => intro _; exact ⟨by simp [VRs], fun x hx => by simp at hx⟩
  | cons i l ih =>
   intro hl; obtain ⟨c, g1, g2, g3⟩ := hget i (hl i (by simp)); obtain ⟨k1, k2⟩ := ih (fun j hj => hl j (by simp [hj])); refine ⟨?_, fun x hx => ?_⟩
   ·simp only [Zj, VRs]; rw [g1, g2]; exact ⟨c, _, rfl, Vom ρ c g3, k1⟩
   ·simp only [Zj, List.mem_cons] at hx; rcases hx with rfl | hx
    ·rw [g2]; exact g3
    ·exact k2 x hx
 exact key _ (fun i hi => by simpa using hi)
end Go.CE
namespace Go.CE
variable {P : Program}
theorem VR_newSl {ρ : Loc} {n : ID} {blk room k sz : Nat} (h : k * sz <= room) (cap : Nat) (hc : cap = k) : VR (Loc.set ρ n (blk, 0, room)) (.sl n 0 k sz) (.slice (some ⟨blk, 0, none⟩) k cap) := by
 simp only [VR]; exact ⟨blk, 0, room, cap, _, by simp [Loc.set], rfl, by omega, fun _ => ⟨by simp, by rw [hc]; omega⟩⟩
theorem Vej {o : Oper} {call : Vag} {t : TypeId} {n : Nat} {parts : Array (Nat × Operand)} (ho : o.op = .buildSlice t n parts) {S : St} {v : CVal} {hp : HT} {nx : ID} (h : (trO P o).run call S = .ok v hp nx) :
  ∃ c, inc S.nx = some nx /\ hp = hput S.hp S.nx c /\ ∀ (M : Mem), ExS P o (evS S) M S.nx v (Mem.set M S.nx c) nx := by
 unfold trO at h; rw [ho] at h; simp only at h
 split at h
 ·rename_i e hu
  split at h
  ·rename_i sz z hs hz
   split at h
   ·rename_i hc; obtain ⟨hzs, h1, hle⟩ := hc; simp only at h
    split at h
    ·rename_i l hl; obtain ⟨h2, h3, h4, rfl, rfl⟩ := Vc4 h; refine ⟨_, h4, rfl, fun M ρ w a ha hr hf => ?_⟩
     have hone := Vf7 h1
     obtain ⟨z1, z2⟩ := Vlw (ρ := ρ) (n := n * sz) hzs hone (by
      rcases Nat.eq_zero_or_pos sz with h | h
      ·left; rw [h]; simp
      ·exact .inr h)
     obtain ⟨g1, g2⟩ := Viz (S := S) (ρ := ρ) (a := a) parts.toList (fun p hp => ha p.2 (by
      rw [ho]; simp only [Op.operands]
      simp only [List.mem_toArray, List.mem_map]; exact ⟨p, hp, rfl⟩))
     obtain ⟨us', f1, f2, f3⟩ := fillC (ρ := ρ) (fun i => some (i * sz, sz)) _ _ _ l _ g1 g2 z1 z2 hl
     have hul := f2.length; obtain ⟨e1, e2⟩ := new_row (e := e) (room := n * sz) hr hf h4 f2 f3 (by omega) (by omega) (by omega); rw [h3] at e1 e2; refine ⟨.value (.slice (some ⟨w.heap.size, 0, none⟩) n n), _, _, _, ?_, .inl rfl, e1, e2, VR_newSl (Za _) n rfl⟩
     have hbig : ¬ (n * sz > 2 ^ 24) := by omega
     have hpl : (parts.map fun (x : Nat × Operand) => (x.1, a.eval x.2)).toList = parts.toList.map (fun p => (p.1, a.eval p.2)) := by simp
     by_cases h0 : n * sz = 0
     ·have hrow : ∀ f g : Nat -> Value, (Zz (n * sz)).map f = (Zz (n * sz)).map g := fun f g => by rw [h0]; simp
      have f1' : Instr.fill (fun i => some (i * sz, sz)) ((Zz (n * sz)).map (fun i => (#[] : Array Value)[i % (#[] : Array Value).size]!)) (parts.toList.map (fun p => (p.1, a.eval p.2))) = some us' := by rw [hrow _ (fun i => z.cells[i % z.cells.size]!)]; exact f1
      simp only [execOp, ho, Instr.buildSlice, Sem.run_bind, Eng.run_underlying' hu, Result.andThen_ok, Vcr hs, if_neg hbig, if_pos h0, Sem.run_pure, hpl, f1']; simp [newRow]
     ·simp only [execOp, ho, Instr.buildSlice, Sem.run_bind, Eng.run_underlying' hu, Result.andThen_ok, Vcr hs, if_neg hbig, if_neg h0, Sem.run_pure, Vd9 hz, hpl, f1]; simp [newRow]
    ·cases h
   ·exact Vad h
  ·exact Vad h
 ·exact Vad h
theorem Vma {o : Oper} {call : Vag} {t : TypeId} {r : Option Operand} (ho : o.op = .makeMap t r) {S : St} {v : CVal} {hp : HT} {nx : ID} (h : (trO P o).run call S = .ok v hp nx) :
  ∃ c, inc S.nx = some nx /\ hp = hput S.hp S.nx c /\ ∀ (M : Mem), ExS P o (evS S) M S.nx v (Mem.set M S.nx c) nx := by
 unfold trO at h; rw [ho] at h
 have fin : Vij S (.map [] []) .mp = .ok v hp nx -> (∀ (a : Act) (w : World), (∀ ρ : Loc, (∀ x ∈ o.op.operands, VR ρ (evS S x) (a.eval x)) -> (execOp a.eval o).run P w = .ok (.value (.map (some w.heap.size))) (w.alloc (.map #[] 0)))) -> ∃ c, inc S.nx = some nx /\ hp = hput S.hp S.nx c /\ ∀ (M : Mem), ExS P o (evS S) M S.nx v (Mem.set M S.nx c) nx := by
  intro h hrun; obtain ⟨h1, rfl, rfl⟩ := Vh3 h; refine ⟨_, h1, rfl, fun M ρ w a ha hr hf => ?_⟩; obtain ⟨e1, e2⟩ := Vhw (o := .map #[] 0) (c := .map [] []) (room := 0) hr hf (Vdv h1) ⟨#[], 0, Eng.heap_alloc_new w _, by simp [VRs], by simp [VRs], fun e he => by simp at he⟩; refine ⟨_, .map (some w.heap.size), _, _, hrun a w ρ ha, .inl rfl, e1, e2, ?_⟩; simp only [VR]; exact ⟨w.heap.size, 0, 0, by simp [Loc.set], rfl⟩
 simp only at h; cases r with
 | none => exact fin h (fun a w ρ ha => by simp [execOp, ho, Instr.makeMap])
 | some x =>
  simp only at h
  split at h
  ·rename_i k e hu; obtain ⟨kd, m, h1, h⟩ := Vgd h; refine fin h (fun a w ρ ha => ?_)
   have g := ha x (by simp [ho, Op.operands]); simp only [evS, h1] at g; simp [execOp, ho, Instr.makeMap, Eng.run_underlying' hu, g.i_eq, asInt, asIntOf]
  ·exact Vad h
end Go.CE
namespace Go.CE
variable {P : Program}
theorem VR.nil_eq {ρ : Loc} {u : Value} (h : VR ρ (.v (.slice none 0 0)) u) : u = .slice none 0 0 := h.v_eq
theorem Vjs {t e : TypeId} (h : P.underlying t = some (.slice e)) : Eng.tElem P t = some e := by simp [Eng.tElem, h]
theorem tInfo3 {e : TypeId} {sz bt : Nat} {z : Value} (hs : Vd3 P e = some sz) (hb : Vot P e = some bt) (hz : Vip P e = some z) : Eng.tInfo P e = some (sz, bt, some z) := by
 simp only [Vd3, Ze] at hs; obtain ⟨i, h1, h2⟩ := hs; simp only [Vot, h1, Option.map_some, Z0] at hb; simp only [Vip, h1, Option.bind_some] at hz; simp [Eng.tInfo, h1, h2, hb, hz]
structure SrcC (P : Program) (ρ : Loc) (w : World) (sz m : Nat) (y : Value) (l : List CVal) (news : List Value) : Prop where
 rep : VRs ρ l news
 one : ∀ x ∈ news, x.oneCell' = true
 len : ∀ w', w'.heap = w.heap -> (Builtin.lenOf y).run P w' = .ok m w'
 cells : ∀ w', w'.heap = w.heap -> (Builtin.firstCells sz m y).run P w' = .ok news.toArray w'
theorem Vqj {ρ : Loc} : ∀ (l : List Nat), (∀ x ∈ l, x < 256) -> VRs ρ (byteL l) ((str l).data.toList.map (fun b => Value.int .u8 b.toNat))
 | [], _ => by simp [byteL, VRs, Ve7]
 | b :: l, h => by
  have ih := Vqj (ρ := ρ) l (fun x hx => h x (by simp [hx])); rw [Ve7] at ih ⊢; simp only [byteL, Zj, VRs]; refine ⟨_, _, rfl, ?_, ih⟩; simp only [VR]
  have : (UInt8.ofNat b).toNat = b := by simp [h b (by simp)]
  rw [this]; rfl
theorem Vqk : ∀ l : List Nat, (byteL l).length = l.length
 | [] => rfl
 | _ :: l => by simp [byteL, Vqk l]
theorem src_of {ρ : Loc} {H : HT} {w : World} (hr : HR ρ (hget H) w) {sz m : Nat} {cy : CVal} {l : List CVal} {y : Value} (h : Vnb H sz cy = some (m, l)) (hy : VR ρ cy y) : (∃ news, SrcC P ρ w sz m y l news) /\ l.length = m * sz := by
 unfold Vnb at h
 split at h
 ·rename_i s
  split at h
  ·rename_i hsz; subst hsz; cases h; obtain ⟨q1, q2⟩ := hy.s_eq; subst q1; refine ⟨⟨(str s).data.toList.map (fun b => Value.int .u8 b.toNat), Vqj s q2, fun x hx => by simp at hx; obtain ⟨b, _, rfl⟩ := hx; rfl, fun w' _ => by simp [Builtin.lenOf, Vci], fun w' _ => ?_⟩, by simp [Vqk]⟩; rw [<- Vci]; simp only [Builtin.firstCells, ByteArray.extract_zero_size]; simp; apply Array.ext'; simp
  ·cases h
 ·cases h; rw [hy.nil_eq]; exact ⟨⟨[], by simp [VRs], fun x hx => by simp at hx, fun w' _ => by simp [Builtin.lenOf], fun w' _ => by simp [Builtin.firstCells]⟩, by simp⟩
 ·rename_i b o n sz'
  split at h
  ·rename_i hsz; subst hsz
   split at h
   ·rename_i e len fz c hb; simp only [Ze] at h; obtain ⟨l', h1, h2⟩ := h; cases h2; obtain ⟨blk, off, room, cap, ad, q1, q2, q3, q4⟩ := hy.sl_eq; subst q2; obtain ⟨us, k1, k2, k3, k4⟩ := Vj7 (ObjR.cells_of hr hb q1) h1; refine ⟨⟨us, k2, k3, fun w' _ => by simp [Builtin.lenOf], fun w' hw => ?_⟩, by rw [<- k1, k2.length]⟩; refine run_firstCells_some w' sz' m ad m cap us k1 (fun j v hj => ?_)
    have hj' : j < us.length := by
     rcases Zf j us.length with q | q
     ·exact q
     ·rw [Zd q] at hj; cases hj
    have hn : 0 < m := by
     rcases Nat.eq_zero_or_pos m with h0 | h0
     ·rw [k1, h0] at hj'; omega
     ·exact h0
    obtain ⟨rfl, _⟩ := q4 (by omega); rw [Eng.addr_add, Eng.cell_heap hw]; exact k4 j v hj
   ·cases h
  ·cases h
 ·cases h
theorem move_obj {ρ : Loc} {M : Mem} {n n' : ID} {w w' : World} {b : ID} {blk off room off' room' : Nat} {c : CObj} (h : HR ρ M w) (hf : Free ρ n n') (hn : inc n = some n') (hb : M b ≠ .no) (hρ : ρ b = some (blk, off, room)) (hs : w'.heap.size = w.heap.size) (h1 : w'.os = w.os) (h2 : w'.tape = w.tape) (h3 : w'.output = w.output)
  (ho : ∀ k, k ≠ blk -> w'.heap[k]? = w.heap[k]?) (hc : ObjR (Loc.set ρ n (blk, off', room')) w' blk off' room' c) :
  Ev ρ M n w (Loc.set ρ n (blk, off', room')) (Mem.set (Mem.set M b .no) n c) n' w' /\ HR (Loc.set ρ n (blk, off', room')) (Mem.set (Mem.set M b .no) n c) w' := by
 have hn' := Vdv hn
 have hnn : ρ n = none := hf n (Za _) (by omega)
 have hbn : b ≠ n := by rintro rfl; rw [hnn] at hρ; cases hρ
 have hsub : Sub ρ (Loc.set ρ n (blk, off', room')) := by
  intro i x hx; unfold Loc.set; rw [if_neg (by rintro rfl; rw [hnn] at hx; cases hx)]; exact hx
 have old : ∀ i, i ≠ n -> Mem.set (Mem.set M b .no) n c i ≠ .no -> i ≠ b /\ M i ≠ .no /\ Mem.set (Mem.set M b .no) n c i = M i := by
  intro i hi hm; simp only [Mem.set, if_neg hi] at hm ⊢
  by_cases e : i = b
  ·rw [if_pos e] at hm; exact (hm rfl).elim
  ·rw [if_neg e] at hm ⊢; exact ⟨e, hm, rfl⟩
 refine ⟨⟨by omega, by omega, h1, h2, h3, fun i hi => ?_, fun k hk hm => ho k (fun e => hm b _ hb hρ e.symm), fun i x hi hx => ?_, fun i hi => ?_⟩, fun i hi => ?_, fun i j x y hi hj hne hx hy => ?_⟩
 ·unfold Loc.set; rw [if_neg (by rintro rfl; omega)]
 ·by_cases e : i = n
  ·subst e; simp only [Loc.set, if_true] at hx; cases hx; exact .inl ⟨b, _, hb, hρ, rfl⟩
  ·obtain ⟨_, q2, _⟩ := old i e hi; simp only [Loc.set, if_neg e] at hx; exact .inl ⟨i, x, q2, hx, rfl⟩
 ·by_cases e : i = n
  ·subst e; right; omega
  ·exact .inl (old i e hi).2.1
 ·by_cases e : i = n
  ·subst e; simp only [Mem.set, if_true]; exact ⟨_, _, _, by simp [Loc.set], hc⟩
  ·obtain ⟨q1, q2, q3⟩ := old i e hi; rw [q3]; obtain ⟨k, o', r, g1, g2⟩ := h.obj i q2; exact ⟨k, o', r, hsub _ _ g1, ObjR.mono hsub (ho k (h.inj i b _ _ q2 hb q1 g1 hρ)) g2⟩
 ·have other : ∀ k z, k ≠ n -> Mem.set (Mem.set M b .no) n c k ≠ .no -> Loc.set ρ n (blk, off', room') k = some z -> z.1 ≠ blk := by
   intro k z hk hm hz; obtain ⟨q1, q2, q3⟩ := old k hk hm; simp only [Loc.set, if_neg hk] at hz; exact h.inj k b z _ q2 hb q1 hz hρ
  by_cases e : i = n
  ·subst e
   have q := other j y (fun e => hne e.symm) hj hy; simp only [Loc.set, if_true] at hx; cases hx; exact fun e => q e.symm
  ·by_cases e' : j = n
   ·subst e'
    have q := other i x e hi hx; simp only [Loc.set, if_true] at hy; cases hy; exact q
   ·obtain ⟨_, q2, _⟩ := old i e hi; obtain ⟨_, r2, _⟩ := old j e' hj; simp only [Loc.set, if_neg e] at hx; simp only [Loc.set, if_neg e'] at hy; exact h.inj i j x y q2 r2 hne hx hy
theorem HR.drop {ρ : Loc} {M : Mem} {w : World} (h : HR ρ M w) (b : ID) : HR ρ (Mem.set M b .no) w := h.less (fun i hi => by
 simp only [Mem.set] at hi ⊢
 by_cases e : i = b
 ·rw [if_pos e] at hi; exact (hi rfl).elim
 ·rw [if_neg e])
theorem Ev.drop {ρ ρ' : Loc} {M M' : Mem} {n n' : ID} {w w' : World} {b : ID} (h : Ev ρ (Mem.set M b .no) n w ρ' M' n' w') : Ev ρ M n w ρ' M' n' w' := by
 have sub : ∀ i, Mem.set M b .no i ≠ .no -> M i ≠ .no := by
  intro i hi; simp only [Mem.set] at hi
  by_cases e : i = b
  ·rw [if_pos e] at hi; exact (hi rfl).elim
  ·rw [if_neg e] at hi; exact hi
 refine ⟨h.le, h.size, h.os, h.tape, h.output, h.same, fun k hk hm => h.out k hk (fun i x hi hx => hm i x (sub i hi) hx), fun i x hi hx => ?_, fun i hi => ?_⟩
 ·rcases h.img i x hi hx with ⟨j, x', g1, g2, g3⟩ | g
  ·exact .inl ⟨j, x', sub j g1, g2, g3⟩
  ·exact .inr g
 ·rcases h.nam i hi with g | g
  ·exact .inl (sub i g)
  ·exact .inr g
theorem Vnu {ρ : Loc} {M : Mem} {n n' : ID} {w : World} {e fz room : Nat} {t : CT} {len : Nat} {us : List Value} (h : HR ρ M w) (hf : Free ρ n n') (hn : inc n = some n') (hlen : len <= 512) (hroom : len <= room) (hsz : room = us.length)
  (hc : ∀ j, j < len -> ∃ u, us[j]? = some u /\ VR ρ (cget t j) u /\ u.oneCell' = true) :
  Ev ρ M n w (Loc.set ρ n (w.heap.size, 0, room)) (Mem.set M n (.cells e len fz t)) n' (w.alloc (.cells us.toArray e)) /\ HR (Loc.set ρ n (w.heap.size, 0, room)) (Mem.set M n (.cells e len fz t)) (w.alloc (.cells us.toArray e)) := by
 have hn' := Vdv hn
 have hnn : ρ n = none := hf n (Za _) (by omega)
 have hsub : Sub ρ (Loc.set ρ n (w.heap.size, 0, room)) := by
  intro i x hx; unfold Loc.set; rw [if_neg (by rintro rfl; rw [hnn] at hx; cases hx)]; exact hx
 refine Vhw h hf hn' ⟨us.toArray, 0, 0, Eng.heap_alloc_new w _, ⟨by omega, fun _ => rfl⟩, by simp [hsz], hroom, hlen, fun j hj => ?_⟩; obtain ⟨u, h1, h2, h3⟩ := hc j hj; exact ⟨u, by simpa using h1, VR.mono hsub _ _ h2, h3⟩
theorem Vl0 {t t2 ty e : TypeId} {sz bt : Nat} {z : Value} (hu : P.underlying t = some (.slice e)) (h2 : Eng.notInt P t2 = true) (hi : Eng.tInfo P e = some (sz, bt, some z)) {w : World} {ad : Option Addr} {n cap : Nat} {x : Value} (hl : (Builtin.lenOf x).run P w = .ok 0 w) (hf : (Builtin.firstCells sz 0 x).run P w = .ok (([] : List Value).toArray) w) (hc : n <= cap) :
  (Builtin.append_ #[t, t2] ty #[.slice ad n cap, x]).run P w = .ok (.slice ad n cap) w := by
 cases ad with
 | none => rcases Eng.notInt_run h2 with ⟨_, hd1⟩ | hd1 <;> simp [Builtin.append_, Eng.run_underlying' hu, Eng.run_sizeOf' hi, Eng.run_underlying' hd1, hl, hf, hc]
 | some a => rcases Eng.notInt_run h2 with ⟨_, hd1⟩ | hd1 <;> simp [Builtin.append_, Eng.run_underlying' hu, Eng.run_sizeOf' hi, Eng.run_underlying' hd1, hl, hf, hc, storeCells]
theorem append_ex {t t2 ty : TypeId} {S : St} {cx cy v : CVal} {hp : HT} {nx : ID} (h : Vku P S t t2 cx cy = .ok v hp nx) {ρ : Loc} {w : World} {x y : Value} (hx : VR ρ cx x) (hy : VR ρ cy y) (hr : HR ρ (hget S.hp) w) (hf : Free ρ S.nx nx) :
  ∃ u w' ρ', (Builtin.append_ #[t, t2] ty #[x, y]).run P w = .ok u w' /\ Ev ρ (hget S.hp) S.nx w ρ' (hget hp) nx w' /\ HR ρ' (hget hp) w' /\ VR ρ' v u := by
 unfold Vku at h
 split at h
 ·rename_i e d hu hd
  split at h
  ·rename_i sz bt z hkind hs hb hz
   have h2 : Eng.notInt P t2 = true := by
    unfold Eng.notInt; rw [hd]; cases d <;> simp_all
   have hi := tInfo3 hs hb hz
   split at h
   ·rename_i hc; obtain ⟨hzs, hbt, hz1⟩ := hc
    split at h
    ·rename_i m new hsrc; obtain ⟨⟨news, src⟩, hnl⟩ := src_of (P := P) hr hsrc hy
     have hnews : news.length = m * sz := by rw [src.rep.length, hnl]
     split at h
     ·split at h
      ·-- nil
       have hx := hx.nil_eq; subst hx
       split at h
       ·obtain ⟨rfl, rfl, rfl⟩ := Vaa h
        have : news = [] := Zy.1 (by rw [hnews]; simp); subst this; exact ⟨_, w, ρ, Vl0 hu h2 hi (src.len w rfl) (src.cells w rfl) (Za _), Ev.refl _ _ _ _, hr, by simp only [VR]; exact ⟨trivial, rfl⟩⟩
       ·rename_i m
        split at h
        ·rename_i hbig; obtain ⟨g1, g2, g3, rfl, rfl⟩ := Vc4 h; obtain ⟨newCap, rest, k1, k2, k3⟩ := Eng.run_append_grow (ty := ty) (Vjs hu) h2 hi hzs hbt (n := 0) (cap := 0) (a := none) (olds := []) (src.len w rfl) (fun w' _ => by simp [Builtin.firstCells]) src.cells (by omega) (by rw [Zt]; exact Nat.le_trans hbig (by decide)); simp only [Zt, Nat.succ_eq_add_one] at k1 k2 k3 hnews hnl g1 g2 ⊢
         have hmul : newCap * sz = (m + 1) * sz + (newCap - (m + 1)) * sz := by rw [<- Nat.add_mul]; congr 1; omega
         obtain ⟨e1, e2⟩ := Vnu (w := w.drew) (e := e) (fz := 0) (t := Vef new) (room := newCap * sz) (us := [] ++ news ++ rest) (M := hget S.hp) (ρ := ρ) ⟨hr.obj, hr.inj⟩ hf g3 (len := (m + 1) * sz) g1 (by omega) (by simp [hnews, k2]; omega) (fun j hj => by
          have hj' : j < news.length := by omega
          have hv : news[j]? = some news[j] := Zi hj'; obtain ⟨q, q1, q2⟩ := src.rep.get' j _ hv; refine ⟨news[j], by rw [List.nil_append, Zh hj']; exact hv, ?_, src.one _ (Zu _)⟩
          rw [Vkr new j (by omega) q q1]; exact q2)
         refine ⟨_, _, Loc.set ρ S.nx (w.heap.size, 0, newCap * sz), k3, ?_, ?_, ?_⟩
         ·rw [Va6]; exact ⟨e1.le, e1.size, e1.os, e1.tape, e1.output, e1.same, e1.out, e1.img, e1.nam⟩
         ·rw [Va6]; exact e2
         ·simp only [VR]; exact ⟨w.heap.size, 0, newCap * sz, newCap, _, by simp [Loc.set], by rw [Zt], by omega, fun _ => ⟨rfl, by omega⟩⟩
        ·exact Vad h
      ·rename_i b o n sz'
       split at h
       ·rename_i hcond; obtain ⟨rfl, hbig, hcells, hnlen⟩ := hcond; obtain ⟨blk, off, room, cap, ad, q1, q2, q3, q4⟩ := hx.sl_eq
        split at h
        ·obtain ⟨rfl, rfl, rfl⟩ := Vaa h
         have : news = [] := Zy.1 (by rw [hnews]; simp); subst this; subst q2; exact ⟨_, w, ρ, Vl0 hu h2 hi (src.len w rfl) (src.cells w rfl) q3, Ev.refl _ _ _ _, hr, hx⟩
        ·rename_i m
         split at h
         ·rename_i e' len fz c nx' hob hinc
          split at h
          ·rename_i hcc; obtain ⟨rfl, hfz, hlen⟩ := hcc; simp only [Nat.succ_eq_add_one] at hnews hnl hbig hcells hnlen src ⊢
           have hnm : (n + (m + 1)) * sz' = n * sz' + (m + 1) * sz' := Nat.add_mul _ _ _
           have hobj : ∃ t, v = .sl S.nx 0 (n + (m + 1)) sz' /\ hp = hput (hput S.hp b .no) S.nx (.cells e' ((n + (m + 1)) * sz') (fz - o) t) /\ nx' = nx /\ (ZT e' = true -> o = 0) /\ (∀ j, j < n * sz' -> cget t j = cget c (o + j)) /\ ∀ (j : Nat) q, new[j]? = some q -> cget t (n * sz' + j) = q := by
            have hlt : ∀ (j : Nat) q, new[j]? = some q -> j < new.length := by
             intro j q hq; rcases Zf j new.length with h | h
             ·exact h
             ·rw [Zd h] at hq; cases hq
            split at h
            ·obtain ⟨rfl, rfl, rfl⟩ := Vaa h; refine ⟨_, rfl, rfl, rfl, fun _ => rfl, fun j hj => ?_, fun j q hq => ?_⟩
             ·rw [Vbv new c (n * sz') j (by omega) (by omega), if_neg (by omega), Zt]
             ·have := hlt j q hq; rw [Vbv new c (n * sz') _ (by omega) (by omega), if_pos (by omega), Nat.add_sub_cancel_left, hq]
            ·split at h
             ·rename_i old hold hzt; obtain ⟨rfl, rfl, rfl⟩ := Vaa h; obtain ⟨l1, l2⟩ := Vck _ _ _ hold; refine ⟨_, rfl, rfl, rfl, fun hz => (by rw [hzt] at hz; cases hz), fun j hj => ?_, fun j q hq => ?_⟩
              ·exact Vkr _ j (by rw [Zk]; omega) _ (by rw [Zh (by omega)]; exact (l2 j hj).2)
              ·exact Vkr _ _ (by rw [Zk]; omega) _ (by rw [Zm (by omega), l1, Nat.add_sub_cancel_left]; exact hq)
             ·cases h
           obtain ⟨t, rfl, rfl, rfl, hzo, hold, hnew⟩ := hobj; obtain ⟨arr, lo, hi', g1, g2, g3, g4, g5, g6⟩ := ObjR.cells_of hr hob q1; obtain ⟨g2, g2z⟩ := g2; rw [Va6, Va6]
           have hbne : hget S.hp b ≠ .no := by rw [hob]; simp
           -- the old cells
           have olds : ∀ j, j < n * sz' -> ∃ u, arr[off + o + j]? = some u /\ VR ρ (cget t j) u /\ u.oneCell' = true := by
            intro j hj; obtain ⟨u, k1, k2, k3⟩ := g6 (o + j) (by omega); exact ⟨u, by rw [Z4]; exact k1, by rw [hold j hj]; exact k2, k3⟩
           have news' : ∀ j, j < (m + 1) * sz' -> ∃ u, news[j]? = some u /\ VR ρ (cget t (n * sz' + j)) u /\ u.oneCell' = true := by
            intro j hj
            have hv : news[j]? = some news[j] := Zi (by omega); obtain ⟨q, k1, k2⟩ := src.rep.get' j _ hv; exact ⟨_, hv, by rw [hnew j q k1]; exact k2, src.one _ (Zu _)⟩
           by_cases hplace : n + (m + 1) <= cap
           ·obtain ⟨rfl, q5⟩ := q4 (by omega); subst q2
            have hcap : (n + (m + 1)) * sz' <= cap * sz' := Nat.mul_le_mul_right _ hplace
            have hst := run_storeCells_atF P blk (off + o + n * sz') e' (lo, hi') news 0 arr w g1 (by show hi' <= _; omega) (by omega) src.one; simp only [Nat.add_zero] at hst
            have hrun := Eng.run_append_place (ty := ty) (Vjs hu) h2 hi (src.len w rfl) (src.cells w rfl) hplace hst
            obtain ⟨e1, e2⟩ := move_obj (off' := off + o) (room' := room - o) (c := .cells e' ((n + (m + 1)) * sz') (fz - o) t) (w' := w.setRow blk (arr.toList.take (off + o + n * sz') ++ news ++ arr.toList.drop (off + o + n * sz' + news.length)).toArray) hr hf hinc hbne q1 (by simp) rfl rfl rfl (fun k hk => setRow_other w blk k _ hk) (by
             have hnn : ρ S.nx = none := hf S.nx (Za _) (by have := Vdv hinc; omega)
             have hsub : Sub ρ (Loc.set ρ S.nx (blk, off + o, room - o)) := by
              intro i x hx; unfold Loc.set; rw [if_neg (by rintro rfl; rw [hnn] at hx; cases hx)]; exact hx
             refine ⟨_, lo, hi', setRow_heap w blk arr _ e' _ g1, ⟨by omega, fun hz => by rw [g2z hz, hzo hz]⟩, ?_, by omega, hcells, fun j hj => ?_⟩
             ·simp only [List.size_toArray, Zk, Zg, Z3, Zb]; omega
             ·rw [List.getElem?_toArray]
              by_cases hj' : j < n * sz'
              ·obtain ⟨u, k1, k2, k3⟩ := olds j hj'; refine ⟨u, ?_, VR.mono hsub _ _ k2, k3⟩; rw [List.append_assoc, Zh (by simp only [Zg, Zb]; omega), Zw, if_pos (by omega)]; simpa using k1
              ·obtain ⟨u, k1, k2, k3⟩ := news' (j - n * sz') (by omega)
               have hjj : n * sz' + (j - n * sz') = j := by omega
               rw [hjj] at k2; refine ⟨u, ?_, VR.mono hsub _ _ k2, k3⟩; rw [Zh (by simp only [Zk, Zg, Zb]; omega), Zm (by simp only [Zg, Zb]; omega)]; rw [<- k1]; congr 1
               simp only [Zg, Zb]; omega)
            refine ⟨_, _, Loc.set ρ S.nx (blk, off + o, room - o), hrun, e1, e2, ?_⟩; simp only [VR]; exact ⟨blk, off + o, room - o, cap, _, by simp [Loc.set], rfl, hplace, fun _ => ⟨by simp, by omega⟩⟩
           ·-- a new row
            have hol : ∃ us : List Value, us.length = n * sz' /\ (∀ w', w'.heap = w.heap -> (Builtin.firstCells sz' n (.slice (some ad) n cap)).run P w' = .ok us.toArray w') /\ ∀ j, j < n * sz' -> ∃ u, us[j]? = some u /\ VR ρ (cget t j) u /\ u.oneCell' = true := by
             refine ⟨(arr.toList.drop (off + o)).take (n * sz'), ?_, fun w' hw => ?_, fun j hj => ?_⟩
             ·rw [Zg, Z3, Zb]; omega
             ·refine run_firstCells_some w' sz' n ad n cap _ (by rw [Zg, Z3, Zb]; omega) (fun j v hj => ?_)
              have hj' : j < n * sz' := by
               rcases Zf j (n * sz') with q | q
               ·exact q
               ·rw [Zw, if_neg (by omega)] at hj; cases hj
              have hn : 0 < n := by
               rcases Nat.eq_zero_or_pos n with h0 | h0
               ·rw [h0] at hj'; omega
               ·exact h0
              obtain ⟨rfl, _⟩ := q4 (by omega); rw [Zw, if_pos hj', List.getElem?_drop] at hj; rw [Eng.addr_add, Eng.cell_heap hw]; simp only [World.cell?, g1]; simpa using hj
             ·obtain ⟨u, k1, k2, k3⟩ := olds j hj; refine ⟨u, ?_, k2, k3⟩; rw [Zw, if_pos hj, List.getElem?_drop]; simpa using k1
            obtain ⟨us, u1, u2, u3⟩ := hol; subst q2; obtain ⟨newCap, rest, k1, k2, k3⟩ := Eng.run_append_grow (ty := ty) (Vjs hu) h2 hi hzs hbt (src.len w rfl) u2 src.cells (by omega) (Nat.le_trans hbig (by decide))
            have hmul : newCap * sz' = (n + (m + 1)) * sz' + (newCap - (n + (m + 1))) * sz' := by rw [<- Nat.add_mul]; congr 1; omega
            obtain ⟨e1, e2⟩ := Vnu (w := w.drew) (e := e') (fz := fz - o) (t := t) (room := newCap * sz') (us := us ++ news ++ rest) (M := Mem.set (hget S.hp) b .no) (ρ := ρ) (show HR ρ (Mem.set (hget S.hp) b .no) w.drew from ⟨(hr.drop b).obj, (hr.drop b).inj⟩) hf hinc (len := (n + (m + 1)) * sz') hcells (by omega) (by simp only [Zk]; omega) (fun j hj => by
             by_cases hj' : j < n * sz'
             ·obtain ⟨u, r1, r2, r3⟩ := u3 j hj'; exact ⟨u, by rw [List.append_assoc, Zh (by omega)]; exact r1, r2, r3⟩
             ·obtain ⟨u, r1, r2, r3⟩ := news' (j - n * sz') (by omega)
              have hjj : n * sz' + (j - n * sz') = j := by omega
              rw [hjj] at r2
              exact ⟨u, by rw [Zh (by simp only [Zk]; omega), Zm (by omega), u1]; exact r1, r2, r3⟩)
            refine ⟨_, _, Loc.set ρ S.nx (w.heap.size, 0, newCap * sz'), k3, ?_, e2, ?_⟩
            ·have e1' := e1.drop; exact ⟨e1'.le, e1'.size, e1'.os, e1'.tape, e1'.output, e1'.same, e1'.out, e1'.img, e1'.nam⟩
            ·simp only [VR]; exact ⟨w.heap.size, 0, newCap * sz', newCap, _, by simp [Loc.set], rfl, k1, fun _ => ⟨by simp, by omega⟩⟩
          ·exact Vad h
         ·exact Vad h
       ·exact Vad h
      ·exact Vad h
     ·exact Vad h
    ·exact Vad h
   ·exact Vad h
  ·exact Vad h
 ·exact Vad h
end Go.CE
namespace Go.CE
variable {P : Program}
def KeyD (d : TypeDesc) (c : CVal) : Prop := (d = .string /\ ∃ l, c = .s l) \/ ∃ j n, d = .int j /\ c = .i j n
theorem kind_beq {j j' : IntKind} (h : (j == j') = true) : j = j' := by cases j <;> cases j' <;> first | rfl | (exact absurd h (by decide))
theorem keyOk_d {t : TypeId} {c : CVal} (h : keyOk P t c = true) : ∃ d, P.underlying t = some d /\ KeyD d c := by
 unfold keyOk at h
 split at h
 ·rename_i hu; exact ⟨_, hu, .inl ⟨rfl, _, rfl⟩⟩
 ·rename_i j j' n hu
  have := kind_beq h; subst this; exact ⟨_, hu, .inr ⟨_, _, rfl, rfl⟩⟩
 ·cases h
theorem KeyD.isKey {ρ : Loc} {d : TypeDesc} {c : CVal} {k : Value} (h : KeyD d c) (hk : VR ρ c k) : MapKept.IsKey d k := by
 rcases h with ⟨rfl, l, rfl⟩ | ⟨j, n, rfl, rfl⟩
 ·rw [hk.s_eq.1]; simp [MapKept.IsKey]
 ·rw [hk.i_eq]; simp [MapKept.IsKey]
theorem same_key {ρ : Loc} {d : TypeDesc} {c c' : CVal} {k k' : Value} {b : Bool} (hd : KeyD d c) (hk : VR ρ c k) (hk' : VR ρ c' k') (h : kEq c c' = some b) : Instr.sameNow d k k' = some b /\ (b = true -> k = k') := by
 rcases hd with ⟨rfl, l, rfl⟩ | ⟨j, n, rfl, rfl⟩
 ·unfold kEq at h
  split at h
  ·rename_i a a' ha; cases ha; cases h; obtain ⟨rfl, q1⟩ := hk.s_eq; obtain ⟨rfl, q2⟩ := hk'.s_eq; refine ⟨by simp only [Instr.sameNow]; rw [leq_str q1 q2], fun h => ?_⟩; rw [Vpr, decide_eq_true_iff] at h; rw [h]
  ·rename_i ha; cases ha
  ·cases h
 ·unfold kEq at h
  split at h
  ·rename_i ha; cases ha
  ·rename_i j1 a j2 a' ha; cases ha
   split at h
   ·rename_i hj; subst hj; cases h; rw [hk.i_eq, hk'.i_eq]; exact ⟨by simp [Instr.sameNow], fun h => by rw [eq_of_beq h]⟩
   ·cases h
  ·cases h
theorem find_c {ρ : Loc} {d : TypeDesc} {c : CVal} {k : Value} (hd : KeyD d c) (hk : VR ρ c k) : ∀ (es : List MapEntry) (ks : List CVal) (i : Nat) (r : Option Nat), VRs ρ ks (es.map (·.key)) -> kPos c ks i = some r ->
  (r = none /\ Instr.findNow d k es i = some none) \/ ∃ j e, r = some (i + j) /\ es[j]? = some e /\ e.key = k /\ Instr.findNow d k es i = some (some (i + j, e.val))
 | [], ks, i, r, h, hr => by
  have : ks = [] := by
   have := h.length; exact Zy.1 (by simpa using this.symm)
  subst this; cases hr; exact .inl ⟨rfl, rfl⟩
 | e :: es, ks, i, r, h, hr => by
  cases ks with
  | nil => simp [VRs] at h
  | cons x ks =>
   simp only [Zj, VRs, Zv] at h; obtain ⟨u, us, ⟨rfl, rfl⟩, h2, h3⟩ := h; unfold kPos at hr
   split at hr
   ·rename_i he; cases hr; obtain ⟨g1, g2⟩ := same_key hd hk h2 he; exact .inr ⟨0, e, rfl, rfl, (g2 rfl).symm, by simp [Instr.findNow, g1]⟩
   ·rename_i he; obtain ⟨g1, g2⟩ := same_key hd hk h2 he; rcases find_c hd hk es ks (i + 1) r h3 hr with ⟨q1, q2⟩ | ⟨j, e', q1, q2, q3, q4⟩
    ·exact .inl ⟨q1, by simp [Instr.findNow, g1, q2]⟩
    ·refine .inr ⟨j + 1, e', by rw [q1]; congr 1; omega, by simpa using q2, q3, ?_⟩; simp only [Instr.findNow, g1, q4]; congr 3; omega
   ·cases hr
theorem Vp4 {t kt e : TypeId} {d : TypeDesc} {z : Value} (hu : P.underlying t = some (.map kt e)) (hd : P.underlying kt = some d) (hz : Vip P e = some z) {ρ : Loc} {ck : CVal} {k m : Value} (hkd : KeyD d ck) (hk : VR ρ ck k) {w : World} {ents : Array MapEntry} (hm : (m = .map none /\ ents = #[]) \/ ∃ b clock, m = .map (some b) /\ w.heap[b]? = some (.map ents clock))
  {ks : List CVal} (hks : VRs ρ ks (ents.toList.map (·.key))) {r : Option Nat} (hp : kPos ck ks 0 = some r) (ok : Bool) :
  (r = none /\ (Instr.lookup t m k ok).run P w = .ok (if ok then .tuple #[z, .bool false] else z) w) \/ ∃ j en, r = some j /\ ents.toList[j]? = some en /\ (Instr.lookup t m k ok).run P w = .ok (if ok then .tuple #[en.val, .bool true] else en.val) w := by
 have hik := hkd.isKey hk; rcases find_c hkd hk ents.toList ks 0 r hks hp with ⟨q1, q2⟩ | ⟨j, en, q1, q2, q3, q4⟩
 ·refine .inl ⟨q1, ?_⟩; rcases hm with ⟨rfl, rfl⟩ | ⟨b, clock, rfl, hb⟩
  ·cases ok <;> simp [Instr.lookup, Eng.run_underlying' hu, MapKept.run_checkKey hd hik, MapKept.run_findKey hd q2, Vd9 hz]
  ·cases ok <;> simp [Instr.lookup, Eng.run_underlying' hu, MapKept.run_getObj_map hb, MapKept.run_checkKey hd hik, MapKept.run_findKey hd q2, Vd9 hz]
 ·refine .inr ⟨j, en, by rw [q1, Zt], q2, ?_⟩; rw [Zt] at q4; rcases hm with ⟨rfl, rfl⟩ | ⟨b, clock, rfl, hb⟩
  ·simp at q2
  ·cases ok <;> simp [Instr.lookup, Eng.run_underlying' hu, MapKept.run_getObj_map hb, MapKept.run_checkKey hd hik, MapKept.run_findKey hd q4]
theorem VR_pair {ρ : Loc} {c : CVal} {u : Value} (h : VR ρ c u) (b : Bool) : VR ρ (.tu [c, .b b]) (.tuple #[u, .bool b]) := by
 simp only [VR]; exact ⟨_, rfl, by simp only [VRs]; exact ⟨u, [.bool b], rfl, h, .bool b, [], rfl, VR_b ρ _, rfl⟩⟩
theorem Vpp {o : Oper} {call : Vag} {t : TypeId} {x ix : Operand} {ok : Bool} (ho : o.op = .lookup t x ix ok) {S : St} {v : CVal} {hp : HT} {nx : ID} (h : (trO P o).run call S = .ok v hp nx) :
  hp = S.hp /\ nx = S.nx /\ ExS P o (evS S) (hget S.hp) S.nx v (hget S.hp) S.nx := by
 unfold trO at h; rw [ho] at h; simp only at h
 split at h
 ·rename_i kt e hu
  split at h
  ·rename_i z hz; simp only at h
   split at h
   ·rename_i hkey; obtain ⟨d, hd, hkd⟩ := keyOk_d hkey
    have fin : ∀ (ks vs : List CVal), (∀ (ρ : Loc) (w : World) (a : Act), (∀ x ∈ o.op.operands, VR ρ (evS S x) (a.eval x)) -> HR ρ (hget S.hp) w -> ∃ ents : Array MapEntry, ((a.eval x = .map none /\ ents = #[]) \/ ∃ b clock, a.eval x = .map (some b) /\ w.heap[b]? = some (.map ents clock)) /\ VRs ρ ks (ents.toList.map (·.key)) /\ VRs ρ vs (ents.toList.map (·.val))) ->
      (match (generalizing := false) kPos ((trX ix).get S) ks 0 with
      | some none => (match (generalizing := false) ofV z, ok with
       | .junk, _ => Rs.no
       | z, true => .ok (.tu [z, .b false]) S.hp S.nx
       | z, false => .ok z S.hp S.nx)
      | some (some i) => (match (generalizing := false) vs[i]?, ok with
       | some v, true => .ok (.tu [v, .b true]) S.hp S.nx
       | some v, false => .ok v S.hp S.nx
       | none, _ => .no)
      | none => .no) = .ok v hp nx -> hp = S.hp /\ nx = S.nx /\ ExS P o (evS S) (hget S.hp) S.nx v (hget S.hp) S.nx := by
     intro ks vs hents h; cases hkp : kPos ((trX ix).get S) ks 0 with
     | none => rw [hkp] at h; exact Vad h
     | some r =>
      rw [hkp] at h
      have key : hp = S.hp /\ nx = S.nx /\ ((r = none /\ v = (if ok then .tu [ofV z, .b false] else ofV z)) \/ ∃ i c, r = some i /\ vs[i]? = some c /\ v = (if ok then .tu [c, .b true] else c)) := by
       cases r with
       | none =>
        simp only at h
        split at h
        ·exact Vad h
        ·obtain ⟨rfl, rfl, rfl⟩ := Vaa h; exact ⟨rfl, rfl, .inl ⟨rfl, rfl⟩⟩
        ·obtain ⟨rfl, rfl, rfl⟩ := Vaa h; exact ⟨rfl, rfl, .inl ⟨rfl, rfl⟩⟩
       | some i =>
        simp only at h
        split at h
        ·rename_i c hc _; obtain ⟨rfl, rfl, rfl⟩ := Vaa h; exact ⟨rfl, rfl, .inr ⟨i, c, rfl, hc, rfl⟩⟩
        ·rename_i c hc _; obtain ⟨rfl, rfl, rfl⟩ := Vaa h; exact ⟨rfl, rfl, .inr ⟨i, c, rfl, hc, rfl⟩⟩
        ·exact Vad h
      obtain ⟨rfl, rfl, hv⟩ := key; refine ⟨rfl, rfl, fun ρ w a ha hr hf => ?_⟩; obtain ⟨ents, g1, g2, g3⟩ := hents ρ w a ha hr
      have gi := ha ix (by simp [ho, Op.operands]); rcases Vp4 (P := P) hu hd hz hkd gi g1 g2 hkp ok with ⟨q1, q2⟩ | ⟨j, en, q1, q2, q3⟩
      ·rcases hv with ⟨_, rfl⟩ | ⟨i, c, r1, _⟩
       ·refine ⟨.value (if ok then .tuple #[z, .bool false] else z), _, w, ρ, by simp only [execOp, ho, Sem.run_bind, q2, Result.andThen_ok]; rfl, .inl rfl, Ev.refl _ _ _ _, hr, ?_⟩; cases ok
        ·exact Vr0 ρ z
        ·exact VR_pair (Vr0 ρ z) false
       ·rw [q1] at r1; cases r1
      ·rcases hv with ⟨r1, _⟩ | ⟨i, c, r1, r2, rfl⟩
       ·rw [q1] at r1; cases r1
       ·rw [q1] at r1; cases r1; obtain ⟨u, k1, k2⟩ := g3.get j c r2
        have : u = en.val := by
         rw [Z1, q2] at k1; simpa using k1.symm
        subst this; refine ⟨.value (if ok then .tuple #[en.val, .bool true] else en.val), _, w, ρ, by simp only [execOp, ho, Sem.run_bind, q3, Result.andThen_ok]; rfl, .inl rfl, Ev.refl _ _ _ _, hr, ?_⟩; cases ok
        ·exact k2
        ·exact VR_pair k2 true
    split at h
    ·rename_i ks vs hobj; refine fin ks vs (fun ρ w a ha hr => ?_) h
     have gx := ha x (by simp [ho, Op.operands]); simp only [evS] at gx
     split at hobj
     ·rename_i hcx; rw [hcx] at gx; cases hobj; exact ⟨#[], .inl ⟨gx.v_eq, rfl⟩, by simp [VRs], by simp [VRs]⟩
     ·rename_i b hcx; rw [hcx] at gx; simp only [VR] at gx; obtain ⟨blk, off, room, g1, g2⟩ := gx; obtain ⟨_, _, _, g3, g4⟩ := hr.obj b (by rw [hobj]; simp); rw [g1] at g3; cases g3; rw [hobj] at g4; obtain ⟨ents, clock, k1, k2, k3, k4⟩ := g4; exact ⟨ents, .inr ⟨blk, clock, g2, k1⟩, k2, k3⟩
     ·cases hobj
    ·exact Vad h
   ·exact Vad h
  ·exact Vad h
 ·exact Vad h
theorem Vk3 {ents : Array MapEntry} {j : Nat} {en : MapEntry} (hj : ents.toList[j]? = some en) {k v : Value} (hk : en.key = k) :
  (ents.modify j (fun e => { e with key := k, val := v })).toList.map (·.key) = ents.toList.map (·.key) /\ (ents.modify j (fun e => { e with key := k, val := v })).toList.map (·.val) = (ents.toList.map (·.val)).set j v /\ ∀ c, (∀ e ∈ ents.toList, e.born < c) -> ∀ e ∈ (ents.modify j (fun e => { e with key := k, val := v })).toList, e.born < c := by
 have hjl : j < ents.toList.length := by
  rcases Zf j ents.toList.length with h | h
  ·exact h
  ·rw [Zd h] at hj; cases hj
 have hmod : (ents.modify j (fun e => { e with key := k, val := v })).toList = ents.toList.modify j (fun e => { e with key := k, val := v }) := by simp
 rw [hmod]; refine ⟨?_, ?_, fun c hc e he => ?_⟩
 ·apply List.ext_getElem?; intro i; simp only [Z1, List.getElem?_modify]
  by_cases hij : j = i
  ·subst hij; rw [hj]; simp [hk]
  ·cases he : ents.toList[i]? with
   | none => simp
   | some e => simp [hij]
 ·apply List.ext_getElem?; intro i; simp only [Z1, List.getElem?_modify, List.getElem?_set, List.length_map]
  by_cases hij : j = i
  ·subst hij; rw [hj]; simp only [Zb] at hjl; simp [hjl]
  ·rw [if_neg hij]; cases he : ents.toList[i]? with
   | none => simp
   | some e => simp [hij]
 ·obtain ⟨i, hi⟩ := List.mem_iff_getElem?.1 he; simp only [List.getElem?_modify] at hi; cases hx : ents.toList[i]? with
  | none => rw [hx] at hi; simp at hi
  | some e0 =>
   rw [hx] at hi
   have h0 := hc e0 (List.mem_of_getElem? hx); simp only [Option.map_eq_map, Option.map_some] at hi
   split at hi
   ·simp only [Z0] at hi; rw [<- hi]; exact h0
   ·simp only [id_eq, Z0] at hi; rw [<- hi]; exact h0
theorem Vnw {ρ : Loc} {M : Mem} {w : World} (hr : HR ρ M w) {b : ID} {ks vs : List CVal} (hb : M b = .map ks vs) {u : Value} (hu : VR ρ (.mp b) u) : ∃ blk off room ents clock, ρ b = some (blk, off, room) /\ u = .map (some blk) /\ w.heap[blk]? = some (.map ents clock) /\ VRs ρ ks (ents.toList.map (·.key)) /\ VRs ρ vs (ents.toList.map (·.val)) /\ ∀ e ∈ ents.toList, e.born < clock := by
 simp only [VR] at hu; obtain ⟨blk, off, room, g1, g2⟩ := hu; obtain ⟨_, _, _, g3, g4⟩ := hr.obj b (by rw [hb]; simp); rw [g1] at g3; cases g3; rw [hb] at g4; obtain ⟨ents, clock, k1, k2, k3, k4⟩ := g4; exact ⟨blk, off, room, ents, clock, g1, g2, k1, k2, k3, k4⟩
theorem Vni {ρ : Loc} {M : Mem} {n : ID} {w : World} (hr : HR ρ M w) {b : ID} (hb : M b ≠ .no) {blk off room : Nat} (hρ : ρ b = some (blk, off, room)) {ents : Array MapEntry} {clock : Nat} (hh : w.heap[blk]? = some (.map ents clock)) {ents' : Array MapEntry} {clock' : Nat} {ks vs : List CVal} (hk : VRs ρ ks (ents'.toList.map (·.key))) (hv : VRs ρ vs (ents'.toList.map (·.val))) (hc : ∀ e ∈ ents'.toList, e.born < clock') :
  Ev ρ M n w ρ (Mem.set M b (.map ks vs)) n { w with heap := w.heap.setIfInBounds blk (.map ents' clock') } /\ HR ρ (Mem.set M b (.map ks vs)) { w with heap := w.heap.setIfInBounds blk (.map ents' clock') } :=
 Ve5 hr hb hρ (by simp) rfl rfl rfl (fun k hk => (MapKept.heap_set hh).2 k hk) (.inr ⟨ents', clock', (MapKept.heap_set hh).1, hk, hv, hc⟩)
theorem Vpn {o : Oper} {call : Vag} {t : TypeId} {x ix y : Operand} (ho : o.op = .mapUpdate t x ix y) {S : St} {v : CVal} {hp : HT} {nx : ID} (h : (trO P o).run call S = .ok v hp nx) :
  ExS P o (evS S) (hget S.hp) S.nx v (hget hp) nx := by
 unfold trO at h; rw [ho] at h; simp only at h
 split at h
 ·rename_i kt e hu; obtain ⟨b, h1, h⟩ := on_mp_no h
  split at h
  ·rename_i ks vs hkey hb; obtain ⟨d, hd, hkd⟩ := keyOk_d hkey; cases hkp : kPos ((trX ix).get S) ks 0 with
   | none => rw [hkp] at h; exact Vad h
   | some r =>
    rw [hkp] at h; intro ρ w a ha hr hf
    have gx := ha x (by simp [ho, Op.operands])
    have gi := ha ix (by simp [ho, Op.operands])
    have gy := ha y (by simp [ho, Op.operands]); simp only [evS, h1] at gx; obtain ⟨blk, off, room, ents, clock, g1, g2, g3, g4, g5, g6⟩ := Vnw hr hb gx
    have hik := hkd.isKey gi
    have hbne : hget S.hp b ≠ .no := by rw [hb]; simp
    rcases find_c hkd gi ents.toList ks 0 r g4 hkp with ⟨rfl, q2⟩ | ⟨j, en, rfl, q2, q3, q4⟩
    ·obtain ⟨rfl, rfl, rfl⟩ := Vaa h; rw [Va6]; obtain ⟨e1, e2⟩ := Vni (n := S.nx) hr hbne g1 g3 (ents' := ents.push { key := a.eval ix, val := a.eval y, born := clock }) (clock' := clock + 1) (ks := ks ++ [(trX ix).get S]) (vs := vs ++ [(trX y).get S])
      (by simp only [Array.toList_push, List.map_append]; exact g4.append (by simp only [Zj, List.map_nil, VRs]; exact ⟨_, _, rfl, gi, rfl⟩))
      (by simp only [Array.toList_push, List.map_append]; exact g5.append (by simp only [Zj, List.map_nil, VRs]; exact ⟨_, _, rfl, gy, rfl⟩))
      (fun e he => by
       simp only [Array.toList_push, List.mem_append, List.mem_singleton] at he; rcases he with he | rfl
       ·have := g6 e he; omega
       ·simp)
     refine ⟨.skip, undef, _, ρ, ?_, .inr ⟨rfl, rfl⟩, e1, e2, Vdf ρ⟩; simp [execOp, ho, g2, Instr.mapUpdate, Eng.run_underlying' hu, MapKept.run_getObj_map g3, MapKept.run_checkKey hd hik, MapKept.run_findKey hd q2, MapKept.run_setObj_map _ g3]
    ·rw [Zt] at h q4; obtain ⟨rfl, rfl, rfl⟩ := Vaa h; rw [Va6]; obtain ⟨m1, m2, m3⟩ := Vk3 (v := a.eval y) q2 q3; obtain ⟨e1, e2⟩ := Vni (n := S.nx) hr hbne g1 g3 (ents' := ents.modify j (fun e => { e with key := a.eval ix, val := a.eval y })) (clock' := clock) (ks := ks) (vs := vs.set j ((trX y).get S))
      (by rw [m1]; exact g4) (by rw [m2]; exact g5.set j gy) (m3 clock g6)
     have hjl : j < ents.size := by
      rcases Zf j ents.size with h | h
      ·exact h
      ·rw [Zd (by simpa using h)] at q2; cases q2
     have hkey' : ents[j].key = a.eval ix := by
      have : ents.toList[j]? = some ents[j] := by simp [hjl]
      rw [q2] at this; rw [<- Option.some.inj this]; exact q3
     refine ⟨.skip, undef, _, ρ, ?_, .inr ⟨rfl, rfl⟩, e1, e2, Vdf ρ⟩; simp [execOp, ho, g2, Instr.mapUpdate, Eng.run_underlying' hu, MapKept.run_getObj_map g3, MapKept.run_checkKey hd hik, MapKept.run_findKey hd q4, hjl, hkey', MapKept.run_keyThatStays hik, MapKept.run_setObj_map _ g3]
  ·exact Vad h
 ·exact Vad h
end Go.CE
namespace Go.CE
variable {P : Program}
theorem lenMap_ex {t k e : TypeId} {ty : TypeId} {c : Array Bool} {S : St} {cx v : CVal} (hu : P.underlying t = some (.map k e)) (h : cLen P S t cx = some v) {ρ : Loc} {w : World} {x : Value} (hx : VR ρ cx x) (hr : HR ρ (hget S.hp) w) :
  ∃ u, (builtin .len #[t] ty c #[x]).run P w = .ok (.value u) w /\ VR ρ v u := by
 unfold cLen at h; rw [hu] at h
 split at h
 ·rename_i h1; cases h1
 ·rename_i h1; cases h1
 ·rename_i h1; cases h1
 ·rename_i h1; cases h1
 ·cases h; exact ⟨_, by simp [builtin, Builtin.len_, Eng.run_underlying' hu, hx.v_eq, goInt], VR_i ρ _ _⟩
 ·split at h
  ·rename_i ks vs hb; cases h; obtain ⟨blk, off, room, ents, clock, g1, g2, g3, g4, g5, g6⟩ := Vnw hr hb hx
   have hl := g4.length; simp only [List.length_map, Zb] at hl; refine ⟨_, ?_, VR_i ρ _ _⟩; simp [builtin, Builtin.len_, Eng.run_underlying' hu, g2, MapKept.run_getObj_map g3, goInt, hl]
  ·cases h
 ·cases h
theorem setObj_same {ρ : Loc} {M : Mem} {n : ID} {w : World} (hr : HR ρ M w) {blk : Nat} {o : Obj} (hh : w.heap[blk]? = some o) : Ev ρ M n w ρ M n { w with heap := w.heap.setIfInBounds blk o } /\ HR ρ M { w with heap := w.heap.setIfInBounds blk o } := by
 have hs : w.heap.setIfInBounds blk o = w.heap := by
  apply Array.ext_getElem?; intro i; rw [Array.getElem?_setIfInBounds]
  split
  ·rename_i h; subst h; rw [if_pos (Array.getElem?_eq_some_iff.1 hh).1, hh]
  ·rfl
 have hw : ({ w with heap := w.heap.setIfInBounds blk o } : World) = w := by rw [hs]
 rw [hw]; exact ⟨Ev.refl _ _ _ _, hr⟩
theorem Vfe {α β : Type} (f : α -> β) : ∀ (l : List α) (i : Nat), (l.eraseIdx i).map f = (l.map f).eraseIdx i
 | [], _ => by simp
 | _ :: _, 0 => by simp
 | a :: l, i + 1 => by simp [Vfe f l i]
theorem VRs.erase {ρ : Loc} : ∀ {l : List CVal} {us : List Value} (i : Nat), VRs ρ l us -> VRs ρ (l.eraseIdx i) (us.eraseIdx i)
 | [], us, i, h => by simp only [VRs] at h; subst h; simp [VRs]
 | x :: l, us, 0, h => by simp only [VRs] at h; obtain ⟨u, us', rfl, _, h3⟩ := h; simpa using h3
 | x :: l, us, i + 1, h => by
  simp only [VRs] at h; obtain ⟨u, us', rfl, h2, h3⟩ := h; simp only [List.eraseIdx_cons_succ, VRs]; exact ⟨u, _, rfl, h2, VRs.erase i h3⟩
theorem delete_ex {t kt e ty : TypeId} {c : Array Bool} {t2 : TypeId} {S : St} {b : ID} {ck v : CVal} {hp : HT} {nx : ID} (hu : P.underlying t = some (.map kt e))
  (h : (match keyOk P kt ck, hget S.hp b with
   | true, .map ks vs => match kPos ck ks 0 with
    | some none => Rs.ok (.tu []) S.hp S.nx
    | some (some i) => .ok (.tu []) (hput S.hp b (.map (ks.eraseIdx i) (vs.eraseIdx i))) S.nx
    | none => .no
   | _, _ => .no) = .ok v hp nx) {ρ : Loc} {w : World} {x k : Value} (hx : VR ρ (.mp b) x) (hk : VR ρ ck k) (hr : HR ρ (hget S.hp) w) :
  ∃ u w', (builtin .delete #[t, t2] ty c #[x, k]).run P w = .ok (.value u) w' /\ Ev ρ (hget S.hp) S.nx w ρ (hget hp) nx w' /\ HR ρ (hget hp) w' /\ VR ρ v u := by
 split at h
 ·rename_i ks vs hkey hb; obtain ⟨d, hd, hkd⟩ := keyOk_d hkey; cases hkp : kPos ck ks 0 with
  | none => rw [hkp] at h; exact Vad h
  | some r =>
   rw [hkp] at h; obtain ⟨blk, off, room, ents, clock, g1, g2, g3, g4, g5, g6⟩ := Vnw hr hb hx
   have hik := hkd.isKey hk
   have hbne : hget S.hp b ≠ .no := by rw [hb]; simp
   have hun : VR ρ (.tu []) (.tuple #[]) := by simp only [VR]; exact ⟨#[], rfl, by simp [VRs]⟩
   rcases find_c hkd hk ents.toList ks 0 r g4 hkp with ⟨rfl, q2⟩ | ⟨j, en, rfl, q2, q3, q4⟩
   ·obtain ⟨rfl, rfl, rfl⟩ := Vaa h; obtain ⟨e1, e2⟩ := setObj_same (n := S.nx) hr g3; refine ⟨.tuple #[], _, ?_, e1, e2, hun⟩; simp [builtin, Builtin.delete_, g2, Eng.run_underlying' hu, MapKept.run_getObj_map g3, MapKept.run_checkKey hd hik, MapKept.run_findKey hd q2, MapKept.run_setObj_map _ g3]
   ·rw [Zt] at h q4; obtain ⟨rfl, rfl, rfl⟩ := Vaa h; rw [Va6]
    have hjl : j < ents.size := by
     rcases Zf j ents.size with h | h
     ·exact h
     ·rw [Zd (by simpa using h)] at q2; cases q2
    have her : (ents.eraseIdxIfInBounds j).toList = ents.toList.eraseIdx j := by
     simp [Array.eraseIdxIfInBounds, hjl]
    obtain ⟨e1, e2⟩ := Vni (n := S.nx) hr hbne g1 g3 (ents' := ents.eraseIdxIfInBounds j) (clock' := clock) (ks := ks.eraseIdx j) (vs := vs.eraseIdx j)
     (by rw [her, Vfe]; exact g4.erase j) (by rw [her, Vfe]; exact g5.erase j) (fun e he => by rw [her] at he; exact g6 e (List.mem_of_mem_eraseIdx he))
    refine ⟨.tuple #[], _, ?_, e1, e2, hun⟩; simp [builtin, Builtin.delete_, g2, Eng.run_underlying' hu, MapKept.run_getObj_map g3, MapKept.run_checkKey hd hik, MapKept.run_findKey hd q4, MapKept.run_setObj_map _ g3]
 ·exact Vad h
theorem clear_ex {t kt e ty : TypeId} {c : Array Bool} {S : St} {b : ID} {ks vs : List CVal} (hu : P.underlying t = some (.map kt e)) (hb : hget S.hp b = .map ks vs) {ρ : Loc} {w : World} {x : Value} (hx : VR ρ (.mp b) x) (hr : HR ρ (hget S.hp) w) :
  ∃ u w', (builtin .clear #[t] ty c #[x]).run P w = .ok (.value u) w' /\ Ev ρ (hget S.hp) S.nx w ρ (hget (hput S.hp b (.map [] []))) S.nx w' /\ HR ρ (hget (hput S.hp b (.map [] []))) w' /\ VR ρ (.tu []) u := by
 obtain ⟨blk, off, room, ents, clock, g1, g2, g3, g4, g5, g6⟩ := Vnw hr hb hx
 have hbne : hget S.hp b ≠ .no := by rw [hb]; simp
 have hun : VR ρ (.tu []) (.tuple #[]) := by simp only [VR]; exact ⟨#[], rfl, by simp [VRs]⟩
 rw [Va6]; obtain ⟨e1, e2⟩ := Vni (n := S.nx) hr hbne g1 g3 (ents' := #[]) (clock' := clock) (ks := []) (vs := []) (by simp [VRs]) (by simp [VRs]) (by simp); refine ⟨.tuple #[], _, ?_, e1, e2, hun⟩; simp [builtin, Builtin.clear_, g2, Eng.run_underlying' hu, MapKept.run_getObj_map g3, MapKept.run_setObj_map _ g3]
theorem Vpo {o : Oper} {call : Vag} {t : TypeId} {l c : Operand} (ho : o.op = .makeSlice t l c) {S : St} {v : CVal} {hp : HT} {nx : ID} (h : (trO P o).run call S = .ok v hp nx) :
  ExS P o (evS S) (hget S.hp) S.nx v (hget hp) nx := by
 unfold trO at h; rw [ho] at h; simp only at h
 split at h
 ·rename_i e hu
  split at h
  ·rename_i sz bt z hs hb hz; simp only at h
   split at h
   ·rename_i kl n kc m hl hc
    split at h
    ·rename_i hcond; obtain ⟨h1, h2, h3, h4, h5⟩ := hcond; obtain ⟨g1, g2, g3, rfl, rfl⟩ := Vc4 h; intro ρ w a ha hr hf
     have gl := ha l (by simp [ho, Op.operands])
     have gc := ha c (by simp [ho, Op.operands]); simp only [evS, hl] at gl; simp only [evS, hc] at gc
     have hone := Vf7 h5
     have hsz0 : sz = 0 \/ 0 < sz := Nat.eq_zero_or_pos sz
     obtain ⟨z1, z2⟩ := Vlw (ρ := ρ) (n := m * sz) h4 hone (by
      rcases hsz0 with h | h
      ·left; rw [h]; simp
      ·exact .inr h)
     have hnm : n * sz <= m * sz := Nat.mul_le_mul_right _ h1
     have hul : ((Zz (m * sz)).map (fun i => z.cells[i % z.cells.size]!)).toList.length = m * sz := by simp
     have hpre : ∀ j, j < n * sz -> (Voo z (n * sz) sz)[j]? = (Voo z (m * sz) sz)[j]? := by
      intro j hj; unfold Voo; rw [Z1, Z1, List.getElem?_range hj, List.getElem?_range (by omega)]
     obtain ⟨e1, e2⟩ := Vnu (w := w) (e := e) (fz := 0) (t := Vef (Voo z (n * sz) sz)) (room := m * sz) (us := ((Zz (m * sz)).map (fun i => z.cells[i % z.cells.size]!)).toList) hr hf g3 (len := n * sz) g1 hnm hul.symm (fun j hj => by
      have hv : ((Zz (m * sz)).map (fun i => z.cells[i % z.cells.size]!)).toList[j]? = some _ := Zi (by rw [hul]; omega); obtain ⟨q, q1, q2⟩ := z1.get' j _ hv; refine ⟨_, hv, ?_, z2 _ (Zu _)⟩
      rw [Vkr _ j (by rw [g2]; exact g1) q (by rw [hpre j hj]; exact q1)]; exact q2)
     rw [Va6]; refine ⟨.value (.slice (some ⟨w.heap.size, 0, none⟩) n m), _, _, Loc.set ρ S.nx (w.heap.size, 0, m * sz), ?_, .inl rfl, e1, e2, ?_⟩
     ·have w1 : IntKind.i64.wrap (Int.ofNat n) = (n : Int) := Vj9 .i64 n (by simp only [lim]; omega)
      have w2 : IntKind.i64.wrap (Int.ofNat m) = (m : Int) := Vj9 .i64 m (by simp only [lim]; omega); simp only [Zc] at w1 w2
      have hbytes : ∃ i : TypeInfo, P.info? e = some i /\ i.bytes = bt := by
       simp only [Vot, Ze] at hb; exact hb
      obtain ⟨i, i1, i2⟩ := hbytes
      have hmb : (bt : Int) * (m : Int) <= 16777216 := by
       have : ((m * bt : Nat) : Int) <= 16777216 := by omega
       rw [Int.natCast_mul, Int.mul_comm] at this; exact this
      have c1 : ¬ ((m : Int) < 0) := by omega
      have c2 : ¬ ((bt : Int) * (m : Int) > 281474976710656) := by omega
      have c3 : ¬ ((n : Int) < 0) := by omega
      have c4 : ¬ ((n : Int) > (m : Int)) := by omega
      have c5 : (n : Int) <= (m : Int) := by omega
      have c6 : (bt : Int) * (m : Int) <= 281474976710656 := by omega
      have hcnd : ¬ ((((m : Int) < 0 \/ (281474976710656 : Int) < (bt : Int) * (m : Int)) \/ (n : Int) < 0) \/ m < n) := by
       rintro (((h | h) | h) | h) <;> omega
      by_cases h0 : m * sz = 0
      ·simp [execOp, ho, Instr.makeSlice, Eng.run_underlying' hu, gl.i_eq, gc.i_eq, asInt, asIntOf, Eng.run_typeInfo' i1, i2, w1, w2, Vcr hs, h0, newRow]; rw [if_neg hcnd]; simp; congr 2; apply Array.ext'; rw [Array.toList_map, Array.toList_range]; rfl
      ·simp [execOp, ho, Instr.makeSlice, Eng.run_underlying' hu, gl.i_eq, gc.i_eq, asInt, asIntOf, Eng.run_typeInfo' i1, i2, w1, w2, Vcr hs, Vd9 hz, newRow]; rw [if_neg hcnd, if_neg h0]; simp; congr 2; apply Array.ext'; simp
     ·simp only [VR]; exact ⟨w.heap.size, 0, m * sz, m, _, by simp [Loc.set], rfl, h1, fun _ => ⟨by simp, by omega⟩⟩
    ·exact Vad h
   ·exact Vad h
  ·exact Vad h
 ·exact Vad h
theorem range_ex {o : Oper} {call : Vag} {t : TypeId} {x : Operand} (ho : o.op = .range t x) {S : St} {v : CVal} {hp : HT} {nx : ID} (h : (trO P o).run call S = .ok v hp nx) :
  ExS P o (evS S) (hget S.hp) S.nx v (hget hp) nx := by
 unfold trO at h; rw [ho] at h; simp only at h
 split at h
 ·rename_i hu; obtain ⟨l, h1, h⟩ := Vhu h; obtain ⟨h2, rfl, rfl⟩ := Vh3 h; intro ρ w a ha hr hf
  have gx := ha x (by simp [ho, Op.operands]); simp only [evS, h1] at gx; obtain ⟨q1, q2⟩ := gx.s_eq; obtain ⟨e1, e2⟩ := Vhw (o := .stringIter (str l) 0) (c := .iter l 0) (room := 0) hr hf (Vdv h2) ⟨rfl, Eng.heap_alloc_new w _, q2⟩; rw [Va6]; refine ⟨_, .pointer (some ⟨w.heap.size, 0, none⟩), _, _, ?_, .inl rfl, e1, e2, ?_⟩
  ·simp [execOp, ho, Instr.range, Eng.run_underlying' hu, q1]
  ·simp only [VR]; exact ⟨w.heap.size, 0, 0, by simp [Loc.set], by simp⟩
 ·exact Vad h
theorem Vqa {l : List Nat} {i c : Nat} (hc : l[i]? = some c) (h : c < 128) : Utf8.decode (str l) i = (c, 1) := by
 have hi : i < l.length := by
  rcases Zf i l.length with q | q
  ·exact q
  ·rw [Zd q] at hc; cases hc
 have hli : l[i] = c := by rw [Zi hi] at hc; exact Option.some.inj hc
 have hg : (str l).get! i = UInt8.ofNat c := by
  have h1 : (str l).data[i]! = UInt8.ofNat c := by
   have : (str l).data = (l.map UInt8.ofNat).toArray := rfl; rw [this]; simp [hi, hli]
  exact h1
 have hn : (UInt8.ofNat c).toNat = c := by simp; omega
 unfold Utf8.decode; simp only [Nat.add_zero, hg, hn]; rw [if_pos h]
theorem next_ex {o : Oper} {call : Vag} {it : Operand} (ho : o.op = .next it true) {S : St} {v : CVal} {hp : HT} {nx : ID} (h : (trO P o).run call S = .ok v hp nx) :
  ExS P o (evS S) (hget S.hp) S.nx v (hget hp) nx := by
 unfold trO at h; rw [ho] at h; simp only at h
 split at h
 ·rename_i b hx
  split at h
  ·rename_i s pos hb
   have hbne : hget S.hp b ≠ .no := by rw [hb]; simp
   have base : ∀ (ρ : Loc) (w : World) (a : Act), (∀ x ∈ o.op.operands, VR ρ (evS S x) (a.eval x)) -> HR ρ (hget S.hp) w -> ∃ blk room, ρ b = some (blk, 0, room) /\ a.eval it = .pointer (some ⟨blk, 0, none⟩) /\ w.heap[blk]? = some (.stringIter (str s) pos) /\ ∀ x ∈ s, x < 256 := by
    intro ρ w a ha hr
    have gx := ha it (by simp [ho, Op.operands]); simp only [evS, hx] at gx; obtain ⟨blk, off, room, g1, g2⟩ := gx.p_eq; obtain ⟨_, _, _, g3, g4⟩ := hr.obj b hbne; rw [g1] at g3; cases g3; rw [hb] at g4; obtain ⟨rfl, g4, g5⟩ := g4; exact ⟨blk, room, g1, g2, g4, g5⟩
   have hget' : ∀ {w : World} {blk : Nat}, w.heap[blk]? = some (.stringIter (str s) pos) -> (getObj blk).run P w = .ok (.stringIter (str s) pos) w := by
    intro w blk hh; simp [getObj, Sem.run, hh]
   split at h
   ·rename_i hs; obtain ⟨rfl, rfl, rfl⟩ := Vaa h; intro ρ w a ha hr hf; obtain ⟨blk, room, g1, g2, g3, g4⟩ := base ρ w a ha hr
    have hge : s.length <= pos := by
     rcases Zf pos s.length with q | q
     ·rw [Zi q] at hs; cases hs
     ·exact q
    refine ⟨.value (.tuple #[.bool false]), _, w, ρ, ?_, .inl rfl, Ev.refl _ _ _ _, hr, ?_⟩
    ·have hno : ¬ pos < (str s).size := by rw [Vci]; omega
     simp [execOp, ho, g2, Instr.next, hget' g3, hno]
    ·simp only [VR]; exact ⟨_, rfl, by simp only [VRs]; exact ⟨.bool false, [], rfl, VR_b ρ _, rfl⟩⟩
   ·rename_i c hs
    split at h
    ·rename_i hc; obtain ⟨rfl, rfl, rfl⟩ := Vaa h; rw [Nat.blt_eq] at hc; intro ρ w a ha hr hf; obtain ⟨blk, room, g1, g2, g3, g4⟩ := base ρ w a ha hr
     have hlt : pos < s.length := by
      rcases Zf pos s.length with q | q
      ·exact q
      ·rw [Zd q] at hs; cases hs
     have hset := MapKept.heap_set (o' := .stringIter (str s) (pos + 1)) g3; rw [Va6]; obtain ⟨e1, e2⟩ := Ve5 (n := S.nx) (w' := { w with heap := w.heap.setIfInBounds blk (.stringIter (str s) (pos + 1)) }) (c := .iter s (pos + 1)) hr hbne g1 (by simp) rfl rfl rfl (fun k hk => hset.2 k hk) (.inr ⟨rfl, hset.1, g4⟩); refine ⟨.value (.tuple #[.bool true, .int .i64 pos, .int .i32 c]), _, _, ρ, ?_, .inl rfl, e1, e2, ?_⟩
     ·have hyes : pos < (str s).size := by rw [Vci]; omega
      have hso : (setObj blk (.stringIter (str s) (pos + 1))).run P w = .ok () { w with heap := w.heap.setIfInBounds blk (.stringIter (str s) (pos + 1)) } := by simp [setObj, Sem.run, g3]
      simp [execOp, ho, g2, Instr.next, hget' g3, hyes, Vqa hs hc, hso, goInt]
     ·simp only [VR]; exact ⟨_, rfl, by simp only [VRs]; exact ⟨.bool true, _, rfl, VR_b ρ _, .int .i64 pos, _, rfl, VR_i ρ _ _, .int .i32 c, [], rfl, VR_i ρ _ _, rfl⟩⟩
    ·exact Vad h
  ·exact Vad h
 ·exact Vad h
end Go.CE
namespace Go.CE
variable {P : Program}
def FR (ro : Option Nat) : Fence := { fn := fun _ => True, depth := none, alive := false, round := ro }
def Res (ρ : Loc) (M : Mem) (n : ID) (w : World) (v : CVal) (M' : Mem) (n' : ID) (u : Value) (w' : World) : Prop := ∃ ρ', Ev ρ M n w ρ' M' n' w' /\ HR ρ' M' w' /\ VR ρ' v u
def CallD (P : Program) (f : FuncId) (vs : List Value) (w : World) (R : Value -> World -> Prop) : Prop :=
 (∃ u w', (callFunc f vs.toArray).run P w = .ok (.value u) w' /\ R u w') \/
 (Eng.Enterable P f /\ CallsIn Fence.wide 0 P f vs.toArray w (fun e w' => ∃ u, e = .returned u /\ R u w'))
def RoundD (P : Program) (blk : Nat) (vs : List Value) (w : World) (R : Value -> World -> Prop) : Prop :=
 ∃ f tmps assign body, (Instr.yield blk vs.toArray).run P w = .ok (.round blk f tmps assign body) w /\ RoundIn Fence.wide 0 P blk f tmps assign body w (fun e w' => ∃ u, e = .returned u /\ R u w')
structure CallOk (P : Program) (call : Vag) : Prop where
 le : ∀ (g : Tg) (args : List CVal) (H : HT) (n : ID) (v : CVal) (H' : HT) (n' : ID), call g args H n = .ok v H' n' -> n.n <= n'.n
 f : ∀ (f : FuncId) (args : List CVal) (H : HT) (n : ID) (v : CVal) (H' : HT) (n' : ID), call (.f f) args H n = .ok v H' n' ->
  ∀ (ρ : Loc) (w : World) (vs : List Value), VRs ρ args vs -> HR ρ (hget H) w -> Free ρ n n' -> CallD P f vs w (Res ρ (hget H) n w v (hget H') n')
 y : ∀ (b : ID) (args : List CVal) (H : HT) (n : ID) (v : CVal) (H' : HT) (n' : ID), call (.y b) args H n = .ok v H' n' ->
  ∀ (ρ : Loc) (w : World) (vs : List Value) (x : Nat × Nat × Nat), ρ b = some x -> VRs ρ args vs -> HR ρ (hget H) w -> Free ρ n n' -> RoundD P x.1 vs w (Res ρ (hget H) n w v (hget H') n')
def Tri (P : Program) (o : Oper) (X : Operand -> CVal) (M : Mem) (n : ID) (v : CVal) (M' : Mem) (n' : ID) : Prop :=
 ∀ (ro : Option Nat) (ρ : Loc) (w : World) (a : Act) (next : Act -> World -> Prop) (Q : Exit -> Act -> World -> Prop), (∀ x ∈ o.op.operands, VR ρ (X x) (a.eval x)) -> HR ρ M w -> Free ρ n n' ->
  (∀ ρ' u w', Ev ρ M n w ρ' M' n' w' -> HR ρ' M' w' -> VR ρ' v u -> next (a.put o.dst u) w') -> o.wpIn (FR ro) 0 P a w next Q
theorem ExS.tri {o : Oper} {X : Operand -> CVal} {M M' : Mem} {n n' : ID} {v : CVal} (h : ExS P o X M n v M' n') (hd : ∀ c, o.op ≠ .defer c) : Tri P o X M n v M' n' := by
 intro ro ρ w a next Q ha hr hf hn
 obtain ⟨nx, u, w', ρ', h1, h2, h3, h4, h5⟩ := h ρ w a ha hr hf; refine ⟨fun _ _ => trivial, ?_⟩; rw [Oper.semAt_eq _ _ _ hd, h1]; rcases h2 with rfl | ⟨rfl, rfl⟩
 ·rw [Oper.uponIn_value]; exact hn ρ' u w' h3 h4 h5
 ·rw [Oper.uponIn_skip]; exact hn ρ' undef w' h3 h4 h5
theorem Pure.tri {o : Oper} {call : Vag} (h : Pure P o call) (hd : ∀ c, o.op ≠ .defer c) {S : St} {v : CVal} {hp : HT} {nx : ID} (hrun : (trO P o).run call S = .ok v hp nx) : Tri P o (evS S) (hget S.hp) S.nx v (hget hp) nx := by
 obtain ⟨rfl, rfl, h1⟩ := h S v hp nx hrun; exact (h1.ex _ _).tri hd
theorem call_tri {call : Vag} (hcall : CallOk P call) {o : Oper} {x : Operand} {args : Array Operand} {tys : Array TypeId} (ho : o.op = .call { callee := .value x, args := args, argTypes := tys }) {S : St} {v : CVal} {hp : HT} {nx : ID} (h : (trO P o).run call S = .ok v hp nx) : Tri P o (evS S) (hget S.hp) S.nx v (hget hp) nx := by
 unfold trO at h; rw [ho] at h; simp only [Vg9] at h; intro ro ρ w a next Q ha hr hf hn
 have hd : ∀ c, o.op ≠ .defer c := by rw [ho]; intro c h; cases h
 have gx := ha x (by rw [ho]; simp [Op.operands, Call.operands])
 have gargs := Vol (ρ := ρ) (f := evS S) (g := a.eval) args.toList (fun y hy => ha y (by rw [ho]; simp [Op.operands, Call.operands]; right; simpa using hy)); refine ⟨fun _ _ => trivial, ?_⟩; rw [Oper.semAt_eq _ _ _ hd]; cases hx : (trX x).get S with
 | fn f fs cs =>
  rw [hx] at h; cases f with
  | func f =>
   have h : call (.f f) (fs ++ (args.toList.map (evS S) ++ cs)) S.hp S.nx = .ok v hp nx := h; simp only [evS, hx, VR] at gx; obtain ⟨us, ws, h2, h3, h4⟩ := gx
   have hvs := h3.append (gargs.append h4)
   have hcd := hcall.f f _ _ _ _ _ _ h ρ w _ hvs hr hf
   have hexec : (execOp a.eval o).run P w = (callFunc f (us.toList ++ (args.toList.map a.eval ++ ws.toList)).toArray).run P w := by
    simp only [execOp, ho, resolve, h2, Deferred.ofValue, Sem.run_bind, Sem.run_pure, Result.andThen_ok, invoke]; congr 2; apply Array.ext'; simp
   rw [hexec]; rcases hcd with ⟨u, w', g1, ρ', g2, g3, g4⟩ | ⟨⟨fn, e1, e2, e3⟩, hc⟩
   ·rw [g1, Oper.uponIn_value]; exact hn ρ' u w' g2 g3 g4
   ·have hrun : (callFunc f (us.toList ++ (args.toList.map a.eval ++ ws.toList)).toArray).run P w = .ok (.enter f (us.toList ++ (args.toList.map a.eval ++ ws.toList)).toArray) w := by
     have hnone : fn.body.isNone = false := by cases hb : fn.body <;> simp_all
     simp only [callFunc, Sem.run_bind, Result.andThen_ok, run_program, e1]; rw [if_neg (by rw [e3]; simp)]; simp only [hnone, Zx, if_false, Sem.run_pure]
    rw [hrun, Oper.uponIn_enter]; refine ⟨fun h => by simp [FR] at h, ?_⟩
    have hc' : CallsIn (FR ro) 0 P f (us.toList ++ (args.toList.map a.eval ++ ws.toList)).toArray w (fun e w' => ∃ u, e = .returned u /\ Res ρ (hget S.hp) S.nx w v (hget hp) nx u w') := by
     cases ro with
     | none => exact hc
     | some l => exact hc.inRound l
    refine hc'.mono ?_; rintro e w' ⟨u, rfl, ρ', g2, g3, g4⟩; exact hn ρ' u w' g2 g3 g4
  | _ => exact Vad h
 | yl b =>
  rw [hx] at h
  have h : call (.y b) (args.toList.map (evS S)) S.hp S.nx = .ok v hp nx := h; simp only [evS, hx, VR] at gx; obtain ⟨blk, off, room, g1, g2⟩ := gx; obtain ⟨f, tmps, assign, body, r1, r2⟩ := hcall.y b _ _ _ _ _ _ h ρ w _ (blk, off, room) g1 gargs hr hf
  have hexec : (execOp a.eval o).run P w = .ok (.round blk f tmps assign body) w := by
   rw [<- r1]; simp only [execOp, ho, resolve, g2, Deferred.ofValue, Sem.run_bind, Sem.run_pure, Result.andThen_ok, invoke]; congr 2; apply Array.ext'; simp
  rw [hexec, Oper.uponIn_round]; refine ⟨fun h => by simp [FR] at h, ?_⟩
  have hc' : RoundIn (FR ro) 0 P blk f tmps assign body w (fun e w' => ∃ u, e = .returned u /\ Res ρ (hget S.hp) S.nx w v (hget hp) nx u w') := by
   cases ro with
   | none => exact r2
   | some l => exact ⟨r2.1, fun c cs hroom => r2.2 c cs hroom⟩
  refine hc'.mono ?_; rintro e w' ⟨u, rfl, ρ', g2, g3, g4⟩; exact hn ρ' u w' g2 g3 g4
 | _ => rw [hx] at h; exact Vad h
end Go.CE
namespace Go.CE
variable {P : Program}
theorem VRs2 {ρ : Loc} {c d : CVal} {us : List Value} (h : VRs ρ [c, d] us) : ∃ x y, us = [x, y] /\ VR ρ c x /\ VR ρ d y := by
 simp only [VRs] at h; obtain ⟨x, us', rfl, h1, y, us2, rfl, h2, rfl⟩ := h; exact ⟨x, y, rfl, h1, h2⟩
theorem builtin_ex {o : Oper} {b : Builtin} {args : Array Operand} {tys : Array TypeId} (ho : o.op = .call { callee := .builtin b, args := args, argTypes := tys }) {S : St} {v : CVal} {hp : HT} {nx : ID} (h : Vbg P S b tys.toList (args.toList.map (evS S)) = .ok v hp nx) (hb : b = .append \/ b = .delete \/ b = .clear) :
  ExS P o (evS S) (hget S.hp) S.nx v (hget hp) nx := by
 intro ρ w a ha hr hf
 have gargs := Vol (ρ := ρ) (f := evS S) (g := a.eval) args.toList (fun y hy => ha y (by rw [ho]; exact Vfv hy)); obtain ⟨cc, hc⟩ := Eng.exec_builtin (P := P) (a := a) ho w; rw [hc]
 have hm : (args.map a.eval).toList = args.toList.map a.eval := by simp
 revert h gargs
 generalize args.toList.map (evS S) = cs; rw [<- hm]; intro h gargs; unfold Vbg at h
 split at h
 ·rename_i t t2 x y ht; obtain ⟨ux, uy, he, g1, g2⟩ := VRs2 gargs
  have hargs : args.map a.eval = #[ux, uy] := Zn.1 he
  have htys : tys = #[t, t2] := Zn.1 ht; rw [hargs, htys]; obtain ⟨u, w', ρ', r1, r2, r3, r4⟩ := append_ex (P := P) (ty := o.type) h g1 g2 hr hf; exact ⟨.value u, u, w', ρ', by simp only [builtin, Sem.run_bind, r1, Result.andThen_ok]; rfl, .inl rfl, r2, r3, r4⟩
 ·rcases hb with hb | hb | hb <;> cases hb
 ·rcases hb with hb | hb | hb <;> cases hb
 ·rcases hb with hb | hb | hb <;> cases hb
 ·rcases hb with hb | hb | hb <;> cases hb
 ·rename_i t b' ht
  split at h
  ·rename_i hu hob; simp only [VRs] at gargs; obtain ⟨ux, _, he, g1, rfl⟩ := gargs
   have hargs : args.map a.eval = #[ux] := Zn.1 he
   have htys : tys = #[t] := Zn.1 ht; rw [hargs, htys]; obtain ⟨rfl, rfl, rfl⟩ := Vaa h; obtain ⟨u, w', r1, r2, r3, r4⟩ := clear_ex (P := P) (ty := o.type) (c := cc) hu hob g1 hr; exact ⟨.value u, u, w', ρ, r1, .inl rfl, r2, r3, r4⟩
  ·exact Vad h
 ·rename_i t t2 b' k ht
  split at h
  ·rename_i kt e hu; obtain ⟨ux, uy, he, g1, g2⟩ := VRs2 gargs
   have hargs : args.map a.eval = #[ux, uy] := Zn.1 he
   have htys : tys = #[t, t2] := Zn.1 ht; rw [hargs, htys]; obtain ⟨u, w', r1, r2, r3, r4⟩ := delete_ex (P := P) (ty := o.type) (c := cc) (t2 := t2) hu h g1 g2 hr; exact ⟨.value u, u, w', ρ, r1, .inl rfl, r2, r3, r4⟩
  ·exact Vad h
 ·exact Vad h
theorem lenMap_exS {o : Oper} {args : Array Operand} {tys : Array TypeId} {x : Operand} {t k e : TypeId} (ho : o.op = .call { callee := .builtin .len, args := args, argTypes := tys }) (hx : args.toList = [x]) (ht : tys.toList = [t]) (hu : P.underlying t = some (.map k e)) {S : St} {v : CVal} (h : cLen P S t (evS S x) = some v) :
  ExS P o (evS S) (hget S.hp) S.nx v (hget S.hp) S.nx := by
 intro ρ w a ha hr hf
 have g := ha x (by rw [ho]; exact Vfv (by simp [hx])); obtain ⟨cc, hc⟩ := Eng.exec_builtin (P := P) (a := a) ho w; rw [arr1 hx, arr1 ht] at hc; obtain ⟨u, r1, r2⟩ := lenMap_ex (P := P) (ty := o.type) (c := cc) hu h g hr; exact ⟨.value u, u, w, ρ, by rw [hc]; simpa using r1, .inl rfl, Ev.refl _ _ _ _, hr, r2⟩
theorem op_tri {call : Vag} (hcall : CallOk P call) {o : Oper} {S : St} {v : CVal} {hp : HT} {nx : ID} (h : (trO P o).run call S = .ok v hp nx) : Tri P o (evS S) (hget S.hp) S.nx v (hget hp) nx := by
 have no : ∀ {q : Prop}, (∀ (f : OF), trO P o = f -> f = ⟨fun _ _ => .no⟩) -> q := fun hf => by
  rw [hf _ rfl] at h; cases h
 have nod : ∀ (op : Op), o.op = op -> (∀ c, op ≠ .defer c) -> ∀ c, o.op ≠ .defer c := fun op ho hd c => by rw [ho]; exact hd c
 cases ho : o.op with
 | move x => exact (Vdr (.inl ho)).tri (nod _ ho (by simp)) h
 | assign x => exact (Vdr (.inr ho)).tri (nod _ ho (by simp)) h
 | pick c x y => exact (Vjx ho).tri (nod _ ho (by simp)) h
 | binOp op t x y t' => exact (Vnm ho).tri (nod _ ho (by simp)) h
 | unOp op t x => exact (pure_un ho).tri (nod _ ho (by simp)) h
 | extract x i => exact (Vf4 ho).tri (nod _ ho (by simp)) h
 | nilCheck x => exact (Vea ho).tri (nod _ ho (by simp)) h
 | fieldAddr s x f => exact (Vdi ho).tri (nod _ ho (by simp)) h
 | field s x f => exact (Vho ho).tri (nod _ ho (by simp)) h
 | build t parts => exact (Vhp ho).tri (nod _ ho (by simp)) h
 | indexAddr t x ix => exact (Vdh ho).tri (nod _ ho (by simp)) h
 | index t x ix => exact (Vhn ho).tri (nod _ ho (by simp)) h
 | makeFunc f a b => exact (Veb ho).tri (nod _ ho (by simp)) h
 | makeInterface t x => exact (Vbr ho).tri (nod _ ho (by simp)) h
 | typeAssert x t u ok => exact (Vct ho).tri (nod _ ho (by simp)) h
 | slice t x lo hi mx =>
  cases mx with
  | none => exact (Vhm ho).tri (nod _ ho (by simp)) h
  | some _ => unfold trO at h; rw [ho] at h; cases h
 | convert s d x =>
  have hh := h; unfold trO at h; rw [ho] at h; simp only at h
  split at h
  ·rename_i k k' h1 h2; exact (Vf6 ho h1 h2).tri (nod _ ho (by simp)) hh
  ·rename_i h1 h2; exact (Vf5 ho h1 h2).tri (nod _ ho (by simp)) hh
  ·cases h
 | load t x =>
  obtain ⟨b, off, h1, h2, rfl, rfl, h3⟩ := Vk8 ho h; exact (h3 _ _ rfl).tri (nod _ ho (by simp))
 | store t x y =>
  obtain ⟨b, off, c, h1, h2, rfl, rfl, h3⟩ := Vn8 ho h; rw [Va6]; exact (h3 _ _ rfl).tri (nod _ ho (by simp))
 | alloc t =>
  obtain ⟨c, h1, rfl, h2⟩ := Vod ho h; rw [Va6]; exact (h2 _).tri (nod _ ho (by simp))
 | box t x =>
  obtain ⟨c, h1, rfl, h2⟩ := box_ex ho h; rw [Va6]; exact (h2 _).tri (nod _ ho (by simp))
 | buildSlice t n parts =>
  obtain ⟨c, h1, rfl, h2⟩ := Vej ho h; rw [Va6]; exact (h2 _).tri (nod _ ho (by simp))
 | makeMap t r =>
  obtain ⟨c, h1, rfl, h2⟩ := Vma ho h; rw [Va6]; exact (h2 _).tri (nod _ ho (by simp))
 | makeSlice t l c => exact (Vpo ho h).tri (nod _ ho (by simp))
 | lookup t x ix ok =>
  obtain ⟨rfl, rfl, h1⟩ := Vpp ho h; exact h1.tri (nod _ ho (by simp))
 | mapUpdate t x ix y => exact (Vpn ho h).tri (nod _ ho (by simp))
 | range t x => exact (range_ex ho h).tri (nod _ ho (by simp))
 | next it s =>
  cases s with
  | true => exact (next_ex ho h).tri (nod _ ho (by simp))
  | false => unfold trO at h; rw [ho] at h; cases h
 | call c =>
  obtain ⟨callee, args, tys⟩ := c; cases callee with
  | value x => exact call_tri hcall ho h
  | invoke r n => unfold trO at h; rw [ho] at h; cases h
  | builtin b =>
   have hd := nod _ ho (by simp)
   have key : b ≠ .len -> Tri P o (evS S) (hget S.hp) S.nx v (hget hp) nx := by
    intro hne
    have hgen : (trO P o).run call S = Vbg P S b tys.toList ((trL args.toList).get S) := by
     unfold trO; rw [ho]; cases b <;> first | rfl | exact absurd rfl hne
    have h' := hgen.symm.trans h; rw [Vg9] at h'
    by_cases hb : b = .append \/ b = .delete \/ b = .clear
    ·exact (builtin_ex ho h' hb).tri hd
    ·by_cases hb2 : b = .max \/ b = .min
     ·exact (Vjy ho hb2).tri hd h
     ·by_cases hb3 : b = .cap
      ·subst hb3; exact (pure_cap ho).tri hd h
      ·unfold Vbg at h'
       split at h' <;> first | (exact absurd (.inl rfl) hb) | (exact absurd (.inr (.inl rfl)) hb) | (exact absurd (.inr (.inr rfl)) hb) | (exact absurd (.inl rfl) hb2) | (exact absurd (.inr rfl) hb2) | (exact absurd rfl hb3) | (exact absurd rfl hne) | (exact Vad h')
   by_cases hb : b = .len
   ·subst hb
    have one : (∃ x t, args.toList = [x] /\ tys.toList = [t]) \/ ¬ ∃ x t, args.toList = [x] /\ tys.toList = [t] := Classical.em _; rcases one with ⟨x, t, hx, ht⟩ | hno
    ·by_cases hm : ∃ k e, P.underlying t = some (.map k e)
     ·obtain ⟨k, e, hu⟩ := hm
      have h' : tell (cLen P S t (evS S x)) S = .ok v hp nx := by
       unfold trO at h; rw [ho] at h; simp only [hx, ht, hu] at h; exact h
      obtain ⟨h1, rfl, rfl⟩ := Ve6 h'; exact (lenMap_exS ho hx ht hu h1).tri hd
     ·exact (pure_len ho hx ht (fun k e hu => hm ⟨k, e, hu⟩)).tri hd h
    ·have hgen : (trO P o).run call S = Vbg P S .len tys.toList ((trL args.toList).get S) := by
      unfold trO; rw [ho]; simp only
      split
      ·rename_i x t hx ht; exact absurd ⟨_, _, hx, ht⟩ hno
      ·rfl
     have h' := hgen.symm.trans h; rw [Vg9] at h'; unfold Vbg at h'
     split at h' <;> first | contradiction | (exact Vad h') | skip
     rename_i t x _ ht hx; exfalso; apply hno; cases hl : args.toList with
     | nil => rw [hl] at hx; cases hx
     | cons y l => rw [hl] at hx; cases l with
      | nil => exact ⟨y, t, rfl, ht⟩
      | cons z l => simp at hx
   ·exact key hb
 | _ => unfold trO at h; rw [ho] at h; cases h
end Go.CE
namespace Go.CE
variable {P : Program}
theorem addObj_le {S : St} {c : CObj} {f : ID -> CVal} {v : CVal} {hp : HT} {nx : ID} (h : Vij S c f = .ok v hp nx) : S.nx.n <= nx.n := by
 obtain ⟨h1, _, _⟩ := Vh3 h
 have := Vdv h1; omega
theorem Vl6 {S : St} {e len : Nat} {l : List CVal} {f : ID -> CVal} {v : CVal} {hp : HT} {nx : ID} (h : Vdd S e len l f = .ok v hp nx) : S.nx.n <= nx.n := by
 obtain ⟨_, _, h1, _, _⟩ := Vc4 h
 have := Vdv h1; omega
theorem cAppend_le {t t2 : TypeId} {S : St} {cx cy v : CVal} {hp : HT} {nx : ID} (h : Vku P S t t2 cx cy = .ok v hp nx) : S.nx.n <= nx.n := by
  unfold Vku at h
  repeat' (split at h)
  all_goals first
    | exact Vad h
    | exact Vl6 h
    | (obtain ⟨_, _, rfl⟩ := Vaa h; exact Za _)
    | (obtain ⟨_, _, h3⟩ := Vaa h
       have hi : ∃ m, inc S.nx = some m /\ m = nx := ⟨_, by assumption, h3⟩
       obtain ⟨m, h4, rfl⟩ := hi
       have := Vdv h4; omega)
theorem cBuiltin_le {b : Builtin} {tys : List TypeId} {args : List CVal} {S : St} {v : CVal} {hp : HT} {nx : ID} (h : Vbg P S b tys args = .ok v hp nx) : S.nx.n <= nx.n := by
 unfold Vbg at h
 split at h
 ·exact cAppend_le h
 ·obtain ⟨_, _, rfl⟩ := Vk0 h; exact Za _
 ·obtain ⟨_, _, rfl⟩ := Vk0 h; exact Za _
 ·obtain ⟨_, _, rfl⟩ := Vk0 h; exact Za _
 ·obtain ⟨_, _, rfl⟩ := Vk0 h; exact Za _
 ·split at h
  ·obtain ⟨_, _, rfl⟩ := Vaa h; exact Za _
  ·exact Vad h
 ·repeat' (split at h)
  all_goals first
   | exact Vad h
   | (obtain ⟨_, _, rfl⟩ := Vaa h; exact Za _)
 ·exact Vad h
theorem op_le {call : Vag} (hcall : CallOk P call) {o : Oper} {S : St} {v : CVal} {hp : HT} {nx : ID} (h : (trO P o).run call S = .ok v hp nx) : S.nx.n <= nx.n := by
 have pu : Pure P o call -> S.nx.n <= nx.n := fun hpu => by obtain ⟨_, rfl, _⟩ := hpu S v hp nx h; exact Za _
 cases ho : o.op with
 | move x => exact pu (Vdr (.inl ho))
 | assign x => exact pu (Vdr (.inr ho))
 | pick c x y => exact pu (Vjx ho)
 | binOp op t x y t' => exact pu (Vnm ho)
 | unOp op t x => exact pu (pure_un ho)
 | extract x i => exact pu (Vf4 ho)
 | nilCheck x => exact pu (Vea ho)
 | fieldAddr s x f => exact pu (Vdi ho)
 | field s x f => exact pu (Vho ho)
 | build t parts => exact pu (Vhp ho)
 | indexAddr t x ix => exact pu (Vdh ho)
 | index t x ix => exact pu (Vhn ho)
 | makeFunc f a b => exact pu (Veb ho)
 | makeInterface t x => exact pu (Vbr ho)
 | typeAssert x t u ok => exact pu (Vct ho)
 | slice t x lo hi mx =>
  cases mx with
  | none => exact pu (Vhm ho)
  | some _ => unfold trO at h; rw [ho] at h; cases h
 | convert s d x =>
  have hh := h; unfold trO at h; rw [ho] at h; simp only at h
  split at h
  ·rename_i k k' h1 h2; exact pu (Vf6 ho h1 h2)
  ·rename_i h1 h2; exact pu (Vf5 ho h1 h2)
  ·cases h
 | load t x => obtain ⟨b, off, h1, h2, rfl, rfl, h3⟩ := Vk8 ho h; exact Za _
 | store t x y => obtain ⟨b, off, c, h1, h2, rfl, rfl, h3⟩ := Vn8 ho h; exact Za _
 | alloc t => obtain ⟨c, h1, _, _⟩ := Vod ho h; have := Vdv h1; omega
 | box t x => obtain ⟨c, h1, _, _⟩ := box_ex ho h; have := Vdv h1; omega
 | buildSlice t n parts => obtain ⟨c, h1, _, _⟩ := Vej ho h; have := Vdv h1; omega
 | makeMap t r => obtain ⟨c, h1, _, _⟩ := Vma ho h; have := Vdv h1; omega
 | lookup t x ix ok => obtain ⟨rfl, rfl, h1⟩ := Vpp ho h; exact Za _
 | makeSlice t l c =>
  unfold trO at h; rw [ho] at h; simp only at h
  split at h
  ·split at h
   ·simp only at h
    split at h
    ·split at h
     ·exact Vl6 h
     ·exact Vad h
    ·exact Vad h
   ·exact Vad h
  ·exact Vad h
 | mapUpdate t x ix y =>
  unfold trO at h; rw [ho] at h; simp only at h
  split at h
  ·obtain ⟨b, h1, h⟩ := on_mp_no h
   repeat' (split at h)
   all_goals first
    | exact Vad h
    | (obtain ⟨_, _, rfl⟩ := Vaa h; exact Za _)
  ·exact Vad h
 | range t x =>
  unfold trO at h; rw [ho] at h; simp only at h
  split at h
  ·obtain ⟨l, h1, h⟩ := Vhu h; exact addObj_le h
  ·exact Vad h
 | next it s =>
  cases s with
  | false => unfold trO at h; rw [ho] at h; cases h
  | true =>
   unfold trO at h; rw [ho] at h; simp only at h
   repeat' (split at h)
   all_goals first
    | exact Vad h
    | (obtain ⟨_, _, rfl⟩ := Vaa h; exact Za _)
 | call c =>
  obtain ⟨callee, args, tys⟩ := c; cases callee with
  | invoke r n => unfold trO at h; rw [ho] at h; cases h
  | value x =>
   unfold trO at h; rw [ho] at h; simp only [Vg9] at h; cases hx : (trX x).get S with
   | fn f fs cs =>
    rw [hx] at h; cases f with
    | func f => exact hcall.le _ _ _ _ _ _ _ (show call (.f f) (fs ++ (args.toList.map (evS S) ++ cs)) S.hp S.nx = .ok v hp nx from h)
    | _ => exact Vad h
   | yl b => rw [hx] at h; exact hcall.le _ _ _ _ _ _ _ (show call (.y b) (args.toList.map (evS S)) S.hp S.nx = .ok v hp nx from h)
   | _ => rw [hx] at h; exact Vad h
  | builtin b =>
   unfold trO at h; rw [ho] at h; simp only at h
   split at h
   ·split at h
    ·obtain ⟨l, h1, h⟩ := Vhu h; obtain ⟨_, _, rfl⟩ := Vaa h; exact Za _
    ·rename_i x t _ _ _ _ _; rcases on_sl_ok (x := (trX x).get S) (f := fun (_ : ID) (_ n _ : Nat) => Rs.ok (.i .i64 (.ofNat n)) S.hp S.nx) (z := tell (cLen P S t ((trX x).get S)) S) with ⟨b, off, n, sz, h1, h2⟩ | h2
     ·obtain ⟨_, _, rfl⟩ := Vaa (h2.symm.trans h); exact Za _
     ·obtain ⟨_, _, rfl⟩ := Ve6 (h2.symm.trans h); exact Za _
    ·obtain ⟨_, _, rfl⟩ := Ve6 h; exact Za _
   ·exact cBuiltin_le h
 | _ => unfold trO at h; rw [ho] at h; cases h
end Go.CE
namespace Go.CE
variable {P : Program}
theorem Vn3 (d : Option Tmp) (v : CVal) (S : St) : (trD d).put v S = S.put d v := by
 cases d with
 | none => rfl
 | some d =>
  show (match slot d with
   | .lo a b => (⟨fun v S => ⟨upd a (upd b v (sel a S.lo)) S.lo, S.hi, S.hp, S.nx, S.df, S.rd⟩⟩ : PF)
   | .hi a b c => ⟨fun v S => ⟨S.lo, upd a (upd b (upd c v (sel b (sel a S.hi))) (sel a S.hi)) S.hi, S.hp, S.nx, S.df, S.rd⟩⟩).put v S = S.putK (slot d) v
  cases slot d <;> rfl
theorem Vbi (S : St) (d : Option Tmp) (v : CVal) : (S.put d v).hp = S.hp /\ (S.put d v).nx = S.nx /\ (S.put d v).df = S.df /\ (S.put d v).rd = S.rd := by cases d <;> exact ⟨rfl, rfl, rfl, rfl⟩
theorem CR.step {ρ ρ' : Loc} {nt : Nat} {S : St} {w w' : World} {a : Act} {hp : HT} {nx : ID} (h : CR ρ nt S w a) (hev : Ev ρ (hget S.hp) S.nx w ρ' (hget hp) nx w') (hf : Free ρ S.nx nx) (hr : HR ρ' (hget hp) w') : CR ρ' nt ⟨S.lo, S.hi, hp, nx, S.df, S.rd⟩ w' a :=
 ⟨hr, fun t ht => VR.mono (hev.sub hf) _ _ (h.fr t ht), h.size, h.small, h.marks.mono (hev.sub hf)⟩
structure Goes (S S' : St) : Prop where
 le : S.nx.n <= S'.nx.n
 rd : S'.rd = S.rd
theorem Goes.trans {S S' S'' : St} (h : Goes S S') (k : Goes S' S'') : Goes S S'' := ⟨Nat.le_trans h.le k.le, k.rd.trans h.rd⟩
def OpsOk (P : Program) (nt : Nat) (ops : Array Oper) (k m : Nat) (S S' : St) : Prop :=
 ∀ (ro : Option Nat) (ρ : Loc) (w : World) (a : Act) (Q : Exit -> Act -> World -> Prop), CR ρ nt S w a -> Free ρ S.nx S'.nx ->
  (∀ ρ' w' a', Ev ρ (hget S.hp) S.nx w ρ' (hget S'.hp) S'.nx w' -> CR ρ' nt S' w' a' -> Q .normal a' w') -> wpOpsIn (FR ro) 0 P ops Q (List.range' k m) a w
theorem Vfs {ops : Array Oper} {tmps : Array Value} {j t : Nat} {g : Oper} {u : Value} (hg : ops[j]? = some g) (hd : g.dst = some t) (hu : tmps[t]? = some u) : yielded ops tmps j = (match u with | .bool b => some b | _ => none) := by
 simp only [yielded, hg, Option.bind_some, hd, hu]; cases u <;> rfl
theorem ops_ok {call : Vag} (hcall : CallOk P call) {nt : Nat} {ops : Array Oper} : ∀ (l : List Oper) (k : Nat), ops.toList.drop k = l -> ∀ (S : St) (r : R), (Vio P ops.toList nt l).run call S = r -> r ≠ .no ->
  ∃ S', r = .nx S' /\ Goes S S' /\ OpsOk P nt ops k l.length S S'
 | [], k, hl, S, r, h, hno => by
  subst h; exact ⟨S, rfl, ⟨Za _, rfl⟩, fun ro ρ w a Q hr hf hq => hq ρ w a (Ev.refl _ _ _ _) hr⟩
 | o :: l, k, hl, S, r, h, hno => by
  have hk : k < ops.toList.length := by
   rcases Zf k ops.toList.length with q | q
   ·exact q
   ·rw [List.drop_eq_nil_of_le q] at hl; cases hl
  have hcons := List.drop_eq_getElem_cons hk; rw [hl] at hcons; simp only [Zv] at hcons; obtain ⟨ho, hl'⟩ := hcons
  have hok : ops[k]? = some o := by
   rw [ho]; simp at hk ⊢
  have h : (trOp P ops.toList nt o (Vio P ops.toList nt l)).run call S = r := h; unfold trOp at h
  split at h
  ·exact (hno h.symm).elim
  ·rename_i hdst
   -- an operation that is done
   have done_ : (andThen (trO P o) (trD o.dst) (Vio P ops.toList nt l)).run call S = r -> (∀ (ρ : Loc) (w : World) (a : Act), CR ρ nt S w a -> Region.wanted o (yielded ops a.tmps) = true) -> ∃ S', r = .nx S' /\ Goes S S' /\ OpsOk P nt ops k (o :: l).length S S' := by
    intro h hw; unfold andThen at h; simp only at h; cases ho' : (trO P o).run call S with
    | no => rw [ho'] at h; exact (hno h.symm).elim
    | ok v hp nx =>
     rw [ho'] at h
     have h : (Vio P ops.toList nt l).run call ((trD o.dst).put v ⟨S.lo, S.hi, hp, nx, S.df, S.rd⟩) = r := h; rw [Vn3] at h; obtain ⟨S', rfl, h2, h3⟩ := ops_ok hcall l (k + 1) hl'.symm _ r h hno; obtain ⟨p1, p2, p3, p4⟩ := Vbi ⟨S.lo, S.hi, hp, nx, S.df, S.rd⟩ o.dst v
     have hle := op_le hcall ho'
     have hle2 := h2.le; rw [p2] at hle2; refine ⟨S', rfl, ⟨Nat.le_trans hle hle2, by rw [h2.rd, p4]⟩, fun ro ρ w a Q hr hf hq => ?_⟩; rw [List.length_cons, List.range'_succ]; simp only [wpOpsIn, hok, hw ρ w a hr, if_true]
     have hf1 : Free ρ S.nx nx := hf.left hle2; refine op_tri hcall ho' ro ρ w a _ Q (fun x _ => hr.ev x) hr.hr hf1 (fun ρ' u w' e1 e2 e3 => ?_)
     have hr' := (hr.step e1 hf1 e2).put o.dst hdst e3; refine h3 ro ρ' w' _ Q hr' (by rw [p2]; exact hf.right e1) (fun ρ2 w2 a2 q1 q2 => ?_); rw [p1, p2] at q1; exact hq ρ2 w2 a2 (e1.trans q1) q2
   have skip_ : (Vio P ops.toList nt l).run call ((trD o.dst).put (.tu []) S) = r -> (∀ (ρ : Loc) (w : World) (a : Act), CR ρ nt S w a -> Region.wanted o (yielded ops a.tmps) = false) -> ∃ S', r = .nx S' /\ Goes S S' /\ OpsOk P nt ops k (o :: l).length S S' := by
    intro h hw; rw [Vn3] at h; obtain ⟨S', rfl, h2, h3⟩ := ops_ok hcall l (k + 1) hl'.symm _ r h hno; obtain ⟨p1, p2, p3, p4⟩ := Vbi S o.dst (.tu [])
    have hle2 := h2.le; rw [p2] at hle2; refine ⟨S', rfl, ⟨hle2, by rw [h2.rd, p4]⟩, fun ro ρ w a Q hr hf hq => ?_⟩; rw [List.length_cons, List.range'_succ]; simp only [wpOpsIn, hok, hw ρ w a hr, Zx, if_false]; refine ⟨fun _ _ => trivial, ?_⟩
    have hr' := hr.put o.dst hdst (Vdf ρ); refine h3 ro ρ w _ Q hr' (by rw [p2]; exact hf) (fun ρ2 w2 a2 q1 q2 => ?_); rw [p1, p2] at q1; exact hq ρ2 w2 a2 q1 q2
   split at h
   ·rename_i hg; exact done_ h (fun ρ w a hr => by simp [Region.wanted, hg])
   ·rename_i j want hg
    split at h
    ·exact (hno h.symm).elim
    ·rename_i t ht
     split at h
     ·exact (hno h.symm).elim
     ·rename_i htn
      have hgo : ∃ g, ops[j]? = some g /\ g.dst = some t := by
       split at ht
       ·rename_i g hgj; exact ⟨g, by simpa using hgj, ht⟩
       ·cases ht
      obtain ⟨g, hg1, hg2⟩ := hgo; rw [Nat.blt_eq] at htn
      have look : ∀ (ρ : Loc) (w : World) (a : Act), CR ρ nt S w a -> ∃ u, a.tmps[t]? = some u /\ VR ρ ((trX (.tmp t)).get S) u := by
       intro ρ w a hr
       have h1 := hr.ev (.tmp t)
       have hlt : t < a.tmps.size := by rw [hr.size]; exact htn
       refine ⟨a.tmps[t], by simp [hlt], ?_⟩; simpa [Act.eval, Zs, hlt] using h1
      simp only at h
      split at h
      ·rename_i hs; refine skip_ h (fun ρ w a hr => ?_); obtain ⟨u, u1, u2⟩ := look ρ w a hr; rw [hs] at u2; simp only [VR] at u2; obtain ⟨us, rfl, _⟩ := u2; simp only [Region.wanted, hg, Vfs hg1 hg2 u1]; rfl
      ·rename_i q hs
       have hy : ∀ (ρ : Loc) (w : World) (a : Act), CR ρ nt S w a -> Region.wanted o (yielded ops a.tmps) = (q == want) := by
        intro ρ w a hr; obtain ⟨u, u1, u2⟩ := look ρ w a hr; rw [hs] at u2; rw [u2.b_eq] at u1; simp only [Region.wanted, hg, Vfs hg1 hg2 u1]; cases q <;> cases want <;> rfl
       split at h
       ·rename_i hm; exact done_ h (fun ρ w a hr => by rw [hy ρ w a hr]; cases q <;> cases want <;> first | rfl | cases hm)
       ·rename_i hm; exact skip_ h (fun ρ w a hr => by rw [hy ρ w a hr]; cases q <;> cases want <;> first | rfl | cases hm)
      ·exact (hno h.symm).elim
theorem region_ok {call : Vag} (hcall : CallOk P call) {nt : Nat} {ops : Array Oper} {S : St} {r : R} (h : (Vio P ops.toList nt ops.toList).run call S = r) (hno : r ≠ .no) : ∃ S', r = .nx S' /\ Goes S S' /\
  ∀ (id : Nat) (ro : Option Nat) (ρ : Loc) (w : World) (a : Act) (Q : Exit -> Act -> World -> Prop), CR ρ nt S w a -> Free ρ S.nx S'.nx ->
  (∀ ρ' w' a', Ev ρ (hget S.hp) S.nx w ρ' (hget S'.hp) S'.nx w' -> CR ρ' nt S' w' a' -> Q .normal a' w') -> (Code.region id ops false).wpIn (FR ro) 0 P Q a w := by
 obtain ⟨S', h1, h2, h3⟩ := ops_ok hcall ops.toList 0 rfl S r h hno; refine ⟨S', h1, h2, fun id ro ρ w a Q hr hf hq => wpIn_region ?_⟩
 have := h3 ro ρ w a Q hr hf hq; rw [List.range_eq_range']; simpa using this
end Go.CE
namespace Go.CE
variable {P : Program}
def R.out : R -> Option (Exit × St)
 | .no => none
 | .nx S => some (.normal, S)
 | .ex id S => some (.exit id, S)
 | .rt S => some (.ret, S)
def RO (ρ : Loc) (ro : Option Nat) : Option ID -> Prop
 | none => ro = none
 | some b => ∃ x, ρ b = some x /\ ro = some x.1
theorem RO.mono {ρ ρ' : Loc} {ro : Option Nat} {rd : Option ID} (h : RO ρ ro rd) (hs : Sub ρ ρ') : RO ρ' ro rd := by
 cases rd with
 | none => exact h
 | some b => obtain ⟨x, h1, h2⟩ := h; exact ⟨x, hs _ _ h1, h2⟩
def Vbb (P : Program) (nt : Nat) (call : Vag) (f : CF) (c : Code) : Prop :=
 ∀ (S : St) (e : Exit) (S' : St), (f.run call S).out = some (e, S') -> Goes S S' /\
  ∀ (ro : Option Nat) (ρ : Loc) (w : World) (a : Act) (Q : Exit -> Act -> World -> Prop), CR ρ nt S w a -> RO ρ ro S.rd -> Free ρ S.nx S'.nx ->
   (∀ ρ' w' a', Ev ρ (hget S.hp) S.nx w ρ' (hget S'.hp) S'.nx w' -> CR ρ' nt S' w' a' -> Q e a' w') -> c.wpIn (FR ro) 0 P Q a w
variable {nt : Nat} {call : Vag}
theorem code_skip : Vbb P nt call ⟨fun _ S => .nx S⟩ .skip := by
 intro S e S' h; cases h; exact ⟨⟨Za _, rfl⟩, fun ro ρ w a Q hr ho hf hq => wpIn_skip (hq ρ w a (Ev.refl _ _ _ _) hr)⟩
theorem code_label (l : Nat) : Vbb P nt call ⟨fun _ S => .nx S⟩ (.label l) := by
 intro S e S' h; cases h; exact ⟨⟨Za _, rfl⟩, fun ro ρ w a Q hr ho hf hq => wpIn_label (hq ρ w a (Ev.refl _ _ _ _) hr)⟩
theorem code_exit (id : Nat) : Vbb P nt call ⟨fun _ S => .ex id S⟩ (.exit id) := by
 intro S e S' h; cases h; exact ⟨⟨Za _, rfl⟩, fun ro ρ w a Q hr ho hf hq => wpIn_exit (hq ρ w a (Ev.refl _ _ _ _) hr)⟩
theorem code_ret : Vbb P nt call ⟨fun _ S => .rt S⟩ .ret := by
 intro S e S' h; cases h; exact ⟨⟨Za _, rfl⟩, fun ro ρ w a Q hr ho hf hq => wpIn_ret (hq ρ w a (Ev.refl _ _ _ _) hr)⟩
theorem code_no (c : Code) : Vbb P nt call ⟨fun _ _ => .no⟩ c := fun S e S' h => by cases h
theorem code_region (hcall : CallOk P call) (id : Nat) (ops : Array Oper) : Vbb P nt call (Vio P ops.toList nt ops.toList) (.region id ops false) := by
 intro S e S' h; obtain ⟨S1, h1, h2, h3⟩ := region_ok (nt := nt) hcall (ops := ops) (S := S) rfl (fun hno => by rw [hno] at h; cases h); rw [h1] at h; cases h; exact ⟨h2, fun ro ρ w a Q hr ho hf hq => h3 id ro ρ w a Q hr hf hq⟩
theorem out_seq {r : R} {f : St -> R} {e : Exit} {S' : St} (h : (R.rec (motive := fun _ => R) .no (fun S1 => f S1) (fun id S1 => .ex id S1) (fun S1 => .rt S1) r).out = some (e, S')) :
  (∃ S1, r.out = some (.normal, S1) /\ (f S1).out = some (e, S')) \/ (e ≠ .normal /\ r.out = some (e, S')) := by
 cases r with
 | no => cases h
 | nx S1 => exact .inl ⟨S1, rfl, h⟩
 | ex id S1 => cases h; exact .inr ⟨by simp, rfl⟩
 | rt S1 => cases h; exact .inr ⟨by simp, rfl⟩
theorem code_seq {x y : Code} {f g : CF} (hx : Vbb P nt call f x) (hy : Vbb P nt call g y) : Vbb P nt call ⟨fun call S => R.rec (motive := fun _ => R) .no (fun S1 => g.run call S1) (fun id S1 => .ex id S1) (fun S1 => .rt S1) (f.run call S)⟩ (.seq x y) := by
 intro S e S' h; rcases out_seq h with ⟨S1, h1, h2⟩ | ⟨hne, h1⟩
 ·obtain ⟨g1, k1⟩ := hx S _ S1 h1; obtain ⟨g2, k2⟩ := hy S1 _ S' h2; refine ⟨g1.trans g2, fun ro ρ w a Q hr ho hf hq => wpIn_seq ?_⟩
  have hf1 : Free ρ S.nx S1.nx := hf.left g2.le; refine k1 ro ρ w a _ hr ho hf1 (fun ρ1 w1 a1 e1 r1 => ?_); exact k2 ro ρ1 w1 a1 Q r1 (by rw [g1.rd]; exact ho.mono (e1.sub hf1)) (hf.right e1) (fun ρ2 w2 a2 e2 r2 => hq ρ2 w2 a2 (e1.trans e2) r2)
 ·obtain ⟨g1, k1⟩ := hx S _ S' h1; refine ⟨g1, fun ro ρ w a Q hr ho hf hq => wpIn_seq (k1 ro ρ w a _ hr ho hf (fun ρ1 w1 a1 e1 r1 => ?_))⟩
  have := hq ρ1 w1 a1 e1 r1; cases e <;> first | (exact absurd rfl hne) | exact this
theorem code_cond {c : Operand} {x y : Code} {f g : CF} (hx : Vbb P nt call f x) (hy : Vbb P nt call g y) : Vbb P nt call ⟨fun call S => on_b ((trX c).get S) (fun q => bc q (f.run call S) (g.run call S)) .no⟩ (.cond c x y) := by
 intro S e S' h; cases hc : (trX c).get S with
 | b q =>
  simp only [hc] at h
  have key : ∀ (ρ : Loc) (w : World) (a : Act), CR ρ nt S w a -> a.eval c = .bool q := fun ρ w a hr => by
   have := hr.ev c; rw [hc] at this; exact this.b_eq
  cases q with
  | true =>
   obtain ⟨g1, k1⟩ := hx S _ S' h; exact ⟨g1, fun ro ρ w a Q hr ho hf hq => wpIn_cond_true (key ρ w a hr) (k1 ro ρ w a Q hr ho hf hq)⟩
  | false =>
   obtain ⟨g1, k1⟩ := hy S _ S' h; exact ⟨g1, fun ro ρ w a Q hr ho hf hq => wpIn_cond_false (key ρ w a hr) (k1 ro ρ w a Q hr ho hf hq)⟩
 | _ => simp only [hc] at h; cases h
theorem code_block {id : Nat} {x : Code} {f : CF} (hx : Vbb P nt call f x) : Vbb P nt call ⟨fun call S => R.rec (motive := fun _ => R) .no (fun S1 => .nx S1) (fun id' S1 => bc (Nat.beq id' id) (.nx S1) (.ex id' S1)) (fun S1 => .rt S1) (f.run call S)⟩ (.block id x) := by
 intro S e S' h
 have key : ∃ e0, (f.run call S).out = some (e0, S') /\ ∀ (Q : Exit -> Act -> World -> Prop) a w, Q e a w -> Exit.inBlock id Q e0 a w := by
  simp only at h; cases hr : f.run call S with
  | no => rw [hr] at h; cases h
  | nx S1 => rw [hr] at h; cases h; exact ⟨.normal, rfl, fun Q a w hq => hq⟩
  | rt S1 => rw [hr] at h; cases h; exact ⟨.ret, rfl, fun Q a w hq => hq⟩
  | ex id' S1 =>
   rw [hr] at h
   have h : (bc (Nat.beq id' id) (R.nx S1) (.ex id' S1)).out = some (e, S') := h; cases hb : Nat.beq id' id with
   | true =>
    rw [hb] at h; cases h; rw [Zo] at hb; exact ⟨.exit id', rfl, fun Q a w hq => by simp only [Exit.inBlock]; rw [if_pos hb]; exact hq⟩
   | false =>
    rw [hb] at h; cases h
    have hne : id' ≠ id := fun e => by subst e; rw [Nat.beq_refl] at hb; cases hb
    exact ⟨.exit id', rfl, fun Q a w hq => by simp only [Exit.inBlock]; rw [if_neg hne]; exact hq⟩
 obtain ⟨e0, h1, h2⟩ := key; obtain ⟨g1, k1⟩ := hx S _ S' h1; exact ⟨g1, fun ro ρ w a Q hr ho hf hq => wpIn_block (k1 ro ρ w a _ hr ho hf (fun ρ1 w1 a1 e1 r1 => h2 Q a1 w1 (hq ρ1 w1 a1 e1 r1)))⟩
def LH (F : Fence) (n : Nat) (P : Program) (c : Code) (Q : Exit -> Act -> World -> Prop) (a : Act) (w : World) : Prop :=
 ∀ (b : Frame) (k : List Item) (cs : List Frame), b.roundOf = F.round -> F.fn b.fn -> F.room (cs.length + 1 + n) ->
  ∃ e a' w', Q e a' w' /\ ArrivesIn (Machine.fenced P F) P (lone (b.atR a (.code c :: .inLoop c :: k)) cs w) b k cs e a' w'
theorem LH.loop {F : Fence} {n : Nat} {c : Code} {Q : Exit -> Act -> World -> Prop} {a : Act} {w : World} (h : LH F n P c Q a w) : (Code.loop c).wpIn F n P Q a w := by
 intro b k cs hro hb hr; obtain ⟨e, a', w', hq, harr⟩ := h b k cs hro hb hr; exact ⟨e, a', w', hq, .of_steps (.one (fenced_calm hb hr rfl) stepR_loop) harr⟩
theorem LH.step {F : Fence} {n : Nat} {c : Code} {Q : Exit -> Act -> World -> Prop} {a : Act} {w : World} (h : c.wpIn F n P (Exit.then (LH F n P c Q) Q) a w) : LH F n P c Q a w := by
 intro b k cs hro hb hr; obtain ⟨e, a₁, w₁, hq, harr⟩ := h b (.inLoop c :: k) cs hro hb hr; cases e with
 | normal =>
  obtain ⟨e₂, a₂, w₂, hq₂, harr₂⟩ := hq b k cs hro hb hr; exact ⟨e₂, a₂, w₂, hq₂, .of_steps (StepsIn.trans harr (.one (fenced_calm hb hr rfl) stepR_inLoop)) harr₂⟩
 | exit id => exact ⟨_, a₁, w₁, hq, .pass (x := .inLoop c) rfl (fun _ _ => .inl (by simp)) harr⟩
 | goto l => exact ⟨_, a₁, w₁, hq, .pass (x := .inLoop c) rfl (fun _ _ => .inl (by simp)) harr⟩
 | ret => exact ⟨_, a₁, w₁, hq, .pass (x := .inLoop c) rfl (fun _ _ => .inl (by simp)) harr⟩
 | panic ch => exact ⟨_, a₁, w₁, hq, .pass (x := .inLoop c) rfl (fun _ _ => .inl (by simp)) harr⟩
 | outgrown => exact ⟨_, a₁, w₁, hq, .pass (x := .inLoop c) rfl (fun _ _ => .inl (by simp)) harr⟩
def IterOk (P : Program) (nt : Nat) (call : Vag) (f : CF) (c : Code) : Prop :=
 ∀ (S : St) (e : Exit) (S' : St), (f.run call S).out = some (e, S') -> Goes S S' /\
  ∀ (ro : Option Nat) (ρ : Loc) (w : World) (a : Act) (Q : Exit -> Act -> World -> Prop), CR ρ nt S w a -> RO ρ ro S.rd -> Free ρ S.nx S'.nx ->
   (∀ ρ' w' a', Ev ρ (hget S.hp) S.nx w ρ' (hget S'.hp) S'.nx w' -> CR ρ' nt S' w' a' -> Exit.then (LH (FR ro) 0 P c Q) Q e a' w') -> LH (FR ro) 0 P c Q a w
theorem iter_ok {c : Code} {f : CF} (hf : Vbb P nt call f c) : ∀ k, IterOk P nt call (Vjh f k) c
 | 0 => fun S e S' h => by
  obtain ⟨g1, k1⟩ := hf S e S' h; exact ⟨g1, fun ro ρ w a Q hr ho hfr hq => LH.step (k1 ro ρ w a _ hr ho hfr hq)⟩
 | k + 1 => fun S e S' h => by
  have ih := iter_ok hf k; rcases out_seq (f := fun S1 => (Vjh f k).run call S1) (r := (Vjh f k).run call S) h with ⟨S1, h1, h2⟩ | ⟨hne, h1⟩
  ·obtain ⟨g1, k1⟩ := ih S _ S1 h1; obtain ⟨g2, k2⟩ := ih S1 _ S' h2; refine ⟨g1.trans g2, fun ro ρ w a Q hr ho hfr hq => ?_⟩
   have hf1 : Free ρ S.nx S1.nx := hfr.left g2.le; refine k1 ro ρ w a Q hr ho hf1 (fun ρ1 w1 a1 e1 r1 => ?_); exact k2 ro ρ1 w1 a1 Q r1 (by rw [g1.rd]; exact ho.mono (e1.sub hf1)) (hfr.right e1) (fun ρ2 w2 a2 e2 r2 => hq ρ2 w2 a2 (e1.trans e2) r2)
  ·obtain ⟨g1, k1⟩ := ih S _ S' h1; exact ⟨g1, fun ro ρ w a Q hr ho hfr hq => k1 ro ρ w a Q hr ho hfr hq⟩
theorem code_loop {c : Code} {f : CF} (hf : Vbb P nt call f c) (k : Nat) : Vbb P nt call ⟨fun call S => R.rec (motive := fun _ => R) .no (fun _ => .no) (fun id S1 => .ex id S1) (fun S1 => .rt S1) ((Vjh f k).run call S)⟩ (.loop c) := by
 intro S e S' h
 have key : e ≠ .normal /\ ((Vjh f k).run call S).out = some (e, S') := by
  simp only at h; cases hr : (Vjh f k).run call S with
  | no => rw [hr] at h; cases h
  | nx S1 => rw [hr] at h; cases h
  | rt S1 => rw [hr] at h; cases h; exact ⟨by simp, rfl⟩
  | ex id S1 => rw [hr] at h; cases h; exact ⟨by simp, rfl⟩
 obtain ⟨g1, k1⟩ := iter_ok hf k S e S' key.2; refine ⟨g1, fun ro ρ w a Q hr ho hfr hq => (k1 ro ρ w a Q hr ho hfr (fun ρ1 w1 a1 e1 r1 => ?_)).loop⟩
 have := hq ρ1 w1 a1 e1 r1
 have hne := key.1; cases e <;> first | (exact absurd rfl hne) | exact this
end Go.CE
namespace Go.CE
variable {P : Program} {nt : Nat} {call : Vag}
theorem entOk_ent {f : FuncId} (h : entOk P f = true) : Eng.Enterable P f := by
 unfold entOk at h
 split at h
 ·rename_i fn hf
  split at h
  ·rename_i h1 h2; exact ⟨fn, hf, h1, h2⟩
  ·cases h
 ·cases h
theorem Vig {f : FuncId} (h : Eng.Enterable P f) (args : Array Value) (w : World) : (callFunc f args).run P w = .ok (.enter f args) w := by
 obtain ⟨fn, e1, e2, e3⟩ := h
 have hnone : fn.body.isNone = false := by cases hb : fn.body <;> simp_all
 simp only [callFunc, Sem.run_bind, Result.andThen_ok, run_program, e1]; rw [if_neg (by rw [e3]; simp)]; simp only [hnone, Zx, if_false, Sem.run_pure]
theorem CallD.enters {f : FuncId} {vs : List Value} {w : World} {R : Value -> World -> Prop} (h : CallD P f vs w R) (he : Eng.Enterable P f) : CallsIn Fence.wide 0 P f vs.toArray w (fun e w' => ∃ u, e = .returned u /\ R u w') := by
 rcases h with ⟨u, w', h1, _⟩ | ⟨_, h⟩
 ·rw [Vig he] at h1; cases h1
 ·exact h
structure Laid (P : Program) (nt : Nat) (ps : Array Tmp) (assign body : Code) (S : St) (d : ID) (H : HT) (n n' : ID) (df : List ID) : Prop where
 le : S.nx.n <= n.n
 run : ∀ (ro : Option Nat) (ρ : Loc) (w : World) (a : Act) (fn : FuncId), CR ρ nt S w a -> RO ρ ro S.rd -> Free ρ S.nx n' ->
  ∃ (l : Nat) (mark : List Deferred) (w1 : World) (ρ1 : Loc), (Instr.enterLoop fn a.tmps ps assign body ro).run P w = .ok (l, mark) w1 /\ ρ1 n = some (l, 0, 0) /\
   Ev ρ (hget S.hp) S.nx w ρ1 (hget (hput H n (.loop .ready none S.lo S.hi nt ps.toList assign body d))) n' w1 /\ HR ρ1 (hget (hput H n (.loop .ready none S.lo S.hi nt ps.toList assign body d))) w1 /\ Marks ρ1 df (mark ++ a.defers)
theorem lay_loop {ps : Array Tmp} {assign body : Code} {S : St} {ρ : Loc} {w : World} {a : Act} {M : Mem} {d n n' : ID} {db : Nat} {x : Nat × Nat} {fn : FuncId} (hfr : ∀ t, t < 576 -> VR ρ (fget S.lo S.hi (slot t)) (a.tmps.getD t undef)) (hs : a.tmps.size = nt) (hsm : nt <= 576) (hr : HR ρ M w) (hf : Free ρ n n') (hn : inc n = some n') (hd : ρ d = some (db, x)) :
  ∃ ρ1, ρ1 n = some (w.heap.size, 0, 0) /\ Sub ρ ρ1 /\ Ev ρ M n w ρ1 (Mem.set M n (.loop .ready none S.lo S.hi nt ps.toList assign body d)) n' (w.alloc (.loop { state := .ready, pending := none, fn := fn, tmps := a.tmps, params := ps, assign := assign, body := body, defers := db })) /\
   HR ρ1 (Mem.set M n (.loop .ready none S.lo S.hi nt ps.toList assign body d)) (w.alloc (.loop { state := .ready, pending := none, fn := fn, tmps := a.tmps, params := ps, assign := assign, body := body, defers := db })) := by
 have hnn : ρ n = none := hf n (Za _) (by have := Vdv hn; omega)
 have hsub : Sub ρ (Loc.set ρ n (w.heap.size, 0, 0)) := by
  intro i y hy; unfold Loc.set; rw [if_neg (by rintro rfl; rw [hnn] at hy; cases hy)]; exact hy
 obtain ⟨e1, e2⟩ := Vhw (o := .loop { state := .ready, pending := none, fn := fn, tmps := a.tmps, params := ps, assign := assign, body := body, defers := db }) (c := .loop .ready none S.lo S.hi nt ps.toList assign body d) (room := 0) hr hf (Vdv hn)
  ⟨_, Eng.heap_alloc_new w _, rfl, rfl, fun t ht => VR.mono hsub _ _ (hfr t ht), ⟨hs, hsm⟩, rfl, rfl, rfl, db, x.1, x.2, hsub _ _ hd, rfl⟩
 exact ⟨_, by simp [Loc.set], hsub, e1, e2⟩
theorem laid_none {ps : Array Tmp} {assign body : Code} {S : St} {n n' : ID} (hrd : S.rd = none) (h1 : inc S.nx = some n) (h2 : inc n = some n') : Laid P nt ps assign body S S.nx (hput S.hp S.nx .dfr) n n' (S.nx :: S.df) := by
 have i1 := Vdv h1
 have i2 := Vdv h2; refine ⟨by omega, fun ro ρ w a fn hr ho hf => ?_⟩; rw [hrd] at ho
 have hro : ro = none := ho; subst hro; obtain ⟨e1, e2⟩ := Vhw (o := .deferred (some [])) (c := .dfr) (room := 0) hr.hr (hf.left (by omega)) i1 (Eng.heap_alloc_new w _)
 have hf2 := hf.right e1
 have hs1 := e1.sub (hf.left (by omega)); obtain ⟨ρ1, g1, g2, g3, g4⟩ := lay_loop (nt := nt) (ps := ps) (assign := assign) (body := body) (S := S) (a := a) (d := S.nx) (db := w.heap.size) (x := (0, 0)) (fn := fn) (fun t ht => VR.mono hs1 _ _ (hr.fr t ht)) hr.size hr.small e2 hf2 h2 (by simp [Loc.set]); rw [Va6, Va6]; refine ⟨_, [markOf w.heap.size], _, ρ1, ?_, g1, e1.trans g3, g4, ?_⟩
 ·simp [Instr.enterLoop, markOf]
 ·exact ⟨w.heap.size, 0, 0, a.defers, g2 _ _ (by simp [Loc.set]), rfl, (hr.marks.mono hs1).mono g2⟩
theorem laid_some {ps : Array Tmp} {assign body : Code} {S : St} {n' b d : ID} {st : LoopState} {pd : Option Code} {lo : Fr1} {hi : Fr2} {nt' : Nat} {ps' : List Tmp} {as' bd' : Code} (hrd : S.rd = some b) (hb : hget S.hp b = .loop st pd lo hi nt' ps' as' bd' d) (h2 : inc S.nx = some n') : Laid P nt ps assign body S d S.hp S.nx n' S.df := by
 have i2 := Vdv h2; refine ⟨Za _, fun ro ρ w a fn hr ho hf => ?_⟩; rw [hrd] at ho; obtain ⟨x, ho1, rfl⟩ := ho; obtain ⟨blk, off, room, q1, q2⟩ := hr.hr.obj b (by rw [hb]; simp); rw [ho1] at q1; cases q1; rw [hb] at q2; obtain ⟨L, k1, k2, k3, k4, k5, k6, k7, k8, db, o', r', k9, k10⟩ := q2; obtain ⟨ρ1, g1, g2, g3, g4⟩ := lay_loop (nt := nt) (ps := ps) (assign := assign) (body := body) (S := S) (a := a) (d := d) (db := db) (x := (o', r')) (fn := fn) hr.fr hr.size hr.small hr.hr hf h2 k9; rw [Va6]; refine ⟨_, [], _, ρ1, ?_, g1, g3, g4, ?_⟩
 ·have hgl : (Instr.getLoop blk).run P w = .ok L w := by simp [Instr.getLoop, getObj, Sem.run, k1]
  simp [Instr.enterLoop, hgl, k10]
 ·exact hr.marks.mono g2
theorem jump_out {pd : Option Code} {S' S1 : St} {e : Exit} (h : (jumpR pd S1).out = some (e, S')) : S' = S1 /\ ∀ (F : Fence) (Q : Exit -> Act -> World -> Prop) (a : Act) (w : World), Q e a w -> (match (generalizing := false) pd with | none => Q .normal a w | some c => c.wpIn F 0 P Q a w) := by
 unfold jumpR at h
 split at h
 ·cases h; exact ⟨rfl, fun F Q a w hq => hq⟩
 ·cases h; exact ⟨rfl, fun F Q a w hq => wpIn_ret hq⟩
 ·cases h; exact ⟨rfl, fun F Q a w hq => wpIn_exit hq⟩
 ·cases h
theorem range_run (hcall : CallOk P call) {g : Operand} {ps : Array Tmp} {assign body : Code} {S : St} {d n n' : ID} {H : HT} {df : List ID} {f : FuncId} {fs cs : List CVal} (hlaid : Laid P nt ps assign body S d H n n' df) (hg : (trX g).get S = .fn (.func f) fs cs) (hn : inc n = some n') (hent : entOk P f = true)
  {v : CVal} {hp : HT} {nx : ID} (hc : call (.f f) (fs ++ ([.yl n] ++ cs)) (hput H n (.loop .ready none S.lo S.hi nt ps.toList assign body d)) n' = .ok v hp nx)
  {st : LoopState} {pd : Option Code} {lo : Fr1} {hi : Fr2} {nt' : Nat} {ps' : List Tmp} {as' bd' : Code} {d' : ID} (hl : hget hp n = .loop st pd lo hi nt' ps' as' bd' d') (hst : st ≠ .busy) {e : Exit} {S' : St} (hj : (jumpR pd ⟨S.lo, S.hi, hput hp n .no, nx, df, S.rd⟩).out = some (e, S')) :
  Goes S S' /\ ∀ (ro : Option Nat) (ρ : Loc) (w : World) (a : Act) (Q : Exit -> Act -> World -> Prop), CR ρ nt S w a -> RO ρ ro S.rd -> Free ρ S.nx S'.nx ->
   (∀ ρ' w' a', Ev ρ (hget S.hp) S.nx w ρ' (hget S'.hp) S'.nx w' -> CR ρ' nt S' w' a' -> Q e a' w') -> (Code.rangeFunc g ps assign body).wpIn (FR ro) 0 P Q a w := by
 have hle := hcall.le _ _ _ _ _ _ _ hc
 have hn' := Vdv hn
 have hle0 := hlaid.le; obtain ⟨rfl, hjump⟩ := jump_out (P := P) hj; refine ⟨⟨by show S.nx.n <= nx.n; omega, rfl⟩, fun ro ρ w a Q hr ho hf hq => wpIn_rangeFunc (fun fn _ => ?_)⟩
 have hf : Free ρ S.nx nx := hf
 have hf1 : Free ρ S.nx n' := hf.left (by omega); obtain ⟨l, mark, w1, ρ1, r1, r2, r3, r4, r5⟩ := hlaid.run ro ρ w a fn hr ho hf1
 have hsub1 := r3.sub hf1
 have gg := hr.ev g; rw [hg] at gg; simp only [VR] at gg; obtain ⟨us, ws, g1, g2, g3⟩ := gg
 have hent' := entOk_ent hent
 have hvs : VRs ρ1 (fs ++ ([.yl n] ++ cs)) (us.toList ++ ([Value.func (.yield l) #[] #[]] ++ ws.toList)) := by
  refine (VRs.mono hsub1 _ _ g2).append (VRs.append ?_ (VRs.mono hsub1 _ _ g3)); simp only [VRs]; exact ⟨_, [], rfl, by simp only [VR]; exact ⟨l, 0, 0, r2, rfl⟩, rfl⟩
 have hf2 : Free ρ1 n' nx := hf.right r3
 have hcd := (hcall.f f _ _ _ _ _ _ hc ρ1 w1 _ hvs r4 hf2).enters hent'; refine ⟨l, mark, w1, { target := .fn (.func f) ws, args := us ++ #[.func (.yield l) #[] #[]] }, w1, f, (us.toList ++ ([Value.func (.yield l) #[] #[]] ++ ws.toList)).toArray, w1, r1, ?_, fun _ _ => trivial, ?_, fun h => by simp [FR] at h, ?_⟩
 ·have he : Array.map a.eval #[Operand.const (Value.func (Fn.yield l) #[] #[])] = #[Value.func (Fn.yield l) #[] #[]] := by simp [Act.eval]
  simp only [resolve, rangeCall, g1, Deferred.ofValue, Sem.run_pure, he]
 ·simp only [invoke]; rw [Vig hent']; congr 2; apply Array.ext'; simp
 ·have hcd' : CallsIn (FR ro) 0 P f (us.toList ++ ([Value.func (.yield l) #[] #[]] ++ ws.toList)).toArray w1 (fun e w' => ∃ u, e = .returned u /\ Res ρ1 (hget (hput H n (.loop .ready none S.lo S.hi nt ps.toList assign body d))) n' w1 v (hget hp) nx u w') := by
   cases ro with
   | none => exact hcd
   | some l => exact hcd.inRound l
  refine hcd'.mono ?_; rintro e' w3 ⟨u, rfl, ρ3, e3, h3, _⟩
  have hsub3 := e3.sub hf2
  have hlne : hget hp n ≠ .no := by rw [hl]; simp
  obtain ⟨blk, off, room, q1, q2⟩ := h3.obj n hlne
  have q1' := hsub3 _ _ r2; rw [q1] at q1'; cases q1'; rw [hl] at q2; obtain ⟨L, k1, k2, k3, _⟩ := q2; subst k3
  have hset := MapKept.heap_set (o' := .loop { L with state := .exhausted }) k1; obtain ⟨e4, h4⟩ := Ve5 (n := nx) (w' := { w3 with heap := w3.heap.setIfInBounds l (.loop { L with state := .exhausted }) }) (c := .no) h3 hlne q1 (by simp) rfl rfl rfl (fun k hk => hset.2 k hk) (.inl rfl); refine ⟨L.pending, { w3 with heap := w3.heap.setIfInBounds l (.loop { L with state := .exhausted }) }, ?_, hjump _ Q _ _ ?_⟩
  ·have hgl : (Instr.getLoop l).run P w3 = .ok L w3 := by simp [Instr.getLoop, getObj, Sem.run, k1]
   have hso : (setObj l (.loop { L with state := .exhausted })).run P w3 = .ok () { w3 with heap := w3.heap.setIfInBounds l (.loop { L with state := .exhausted }) } := by simp [setObj, Sem.run, k1]
   have hnb : (L.state == LoopState.busy) = false := by rw [k2]; cases st <;> first | rfl | exact absurd rfl hst
   simp only [Instr.endLoop, Sem.run_bind, hgl, Result.andThen_ok, hnb, Zx, if_false]; rw [hso]; simp
  ·have ev := (r3.trans e3).trans e4
   have hsub := ev.sub hf; refine hq ρ3 _ _ ?_ ⟨?_, fun t ht => VR.mono hsub _ _ (hr.fr t ht), hr.size, hr.small, r5.mono hsub3⟩
   ·show Ev ρ (hget S.hp) S.nx w ρ3 (hget (hput hp n .no)) nx _; rw [Va6]; exact ev
   ·show HR ρ3 (hget (hput hp n .no)) _; rw [Va6]; exact h4
theorem code_range (hcall : CallOk P call) (g : Operand) (ps : Array Tmp) (assign body : Code) : Vbb P nt call (trRange P nt (trX g) ps.toList assign body) (.rangeFunc g ps assign body) := by
 intro S e S' h; unfold trRange at h; simp only at h
 split at h
 ·rename_i f fs cs hg
  split at h
  ·rename_i d H n df hm
   have hlaid : ∀ n', inc n = some n' -> Laid P nt ps assign body S d H n n' df := by
    intro n' hn
    split at hm
    ·rename_i hrd
     split at hm
     ·rename_i m h1; cases hm; exact laid_none hrd h1 hn
     ·cases hm
    ·rename_i b hrd
     split at hm
     ·rename_i hb; cases hm; exact laid_some hrd hb hn
     ·cases hm
   split at h
   ·rename_i n' hn hent
    split at h
    ·rename_i v hp nx hc
     split at h
     ·rename_i st pd lo hi nt' ps' as' bd' d' hl
      split at h
      ·cases h
      ·rename_i hst; exact range_run hcall (hlaid n' hn) hg hn hent hc hl (fun e => hst e) h
     ·cases h
    ·cases h
   ·cases h
  ·cases h
 ·cases h
end Go.CE
namespace Go.CE
variable {P : Program} {nt : Nat} {call : Vag}
theorem Vcp {b : Frame} {a : Act} {k : List Item} {cs : List Frame} {w : World} {c : Code} : step P (lone (b.atR a (.code (.scope c) :: k)) cs w) = .next (lone (b.atR a (.code c :: .inScope c :: k)) cs w) :=
 step_lone_go (by simp [stepG, stepG.exec, Frame.atR])
theorem Vna {b : Frame} {a : Act} {k : List Item} {cs : List Frame} {w : World} {c : Code} : step P (lone (b.atR a (.inScope c :: k)) cs w) = .next (lone (b.atR a k) cs w) :=
 step_lone_go (by simp [stepG, stepG.exec, Frame.atR])
theorem wpIn_scope {F : Fence} {n : Nat} {c : Code} {Q : Exit -> Act -> World -> Prop} {a : Act} {w : World} (h : c.wpIn F n P (Exit.noGoto Q) a w) : (Code.scope c).wpIn F n P Q a w := by
 intro b k cs hro hb hr; obtain ⟨e, a₁, w₁, hq, harr⟩ := h b (.inScope c :: k) cs hro hb hr
 have h0 : (lone (b.atR a (.code (.scope c) :: k)) cs w).fenced P F := fenced_calm hb hr rfl; cases e with
 | normal => exact ⟨.normal, a₁, w₁, hq, .head h0 Vcp (StepsIn.trans harr (.one (fenced_calm hb hr rfl) Vna))⟩
 | exit id => exact ⟨.exit id, a₁, w₁, hq, .of_steps (.one h0 Vcp) ⟨fun k' hk => harr.1 k' (by simp [exitTo, hk]), fun h1 h2 => harr.2 h1 (by simp [exitTo, h2])⟩⟩
 | goto l => exact hq.elim
 | ret => exact ⟨_, a₁, w₁, hq, .of_steps (.one h0 Vcp) harr⟩
 | panic ch => exact ⟨_, a₁, w₁, hq, .of_steps (.one h0 Vcp) harr⟩
 | outgrown => exact ⟨_, a₁, w₁, hq, .of_steps (.one h0 Vcp) harr⟩
theorem out_noGoto {r : R} {e : Exit} {S' : St} (h : r.out = some (e, S')) : ∀ l, e ≠ .goto l := by
 intro l hl; subst hl; cases r <;> cases h
theorem code_scope {x : Code} {f : CF} (hx : Vbb P nt call f x) : Vbb P nt call f (.scope x) := by
 intro S e S' h; obtain ⟨g1, k1⟩ := hx S e S' h
 have hne := out_noGoto h; refine ⟨g1, fun ro ρ w a Q hr ho hf hq => wpIn_scope (k1 ro ρ w a _ hr ho hf (fun ρ1 w1 a1 e1 r1 => ?_))⟩
 have := hq ρ1 w1 a1 e1 r1; cases e <;> first | exact this | exact absurd rfl (hne _)
theorem Vc7 (hcall : CallOk P call) (hdraw : ∀ (id : Nat) (ops : Array Oper), Vbb P nt call (Vm0 P ops.toList nt) (.region id ops true)) : ∀ c : Code, Vbb P nt call (trC P nt c) c
 | .skip => code_skip
 | .region id ops d => by
  cases d with
  | true => exact hdraw id ops
  | false => exact code_region hcall id ops
 | .seq x y => code_seq (Vc7 hcall hdraw x) (Vc7 hcall hdraw y)
 | .cond c x y => code_cond (Vc7 hcall hdraw x) (Vc7 hcall hdraw y)
 | .block id x => code_block (Vc7 hcall hdraw x)
 | .loop x => code_loop (Vc7 hcall hdraw x) LOOPS
 | .rangeFunc g ps assign body => code_range hcall g ps assign body
 | .exit id => code_exit id
 | .scope x => code_scope (Vc7 hcall hdraw x)
 | .label l => code_label l
 | .goto l => code_no _
 | .ret => code_ret
 | .refuse w => code_no _
end Go.CE
namespace Go.CE
variable {P : Program} {nt : Nat} {call : Vag}
theorem Vmq : ∀ (l : List CVal) (i : Nat) (S : St) (t : Nat), t < 576 -> i + l.length <= 576 ->
  fget (Vdz l i S).lo (Vdz l i S).hi (slot t) = (if i <= t then (match l[t - i]? with | some c => c | none => fget S.lo S.hi (slot t)) else fget S.lo S.hi (slot t))
 | [], i, S, t, ht, hl => by simp [Vdz]
 | c :: l, i, S, t, ht, hl => by
  simp only [List.length_cons] at hl; simp only [Vdz]; rw [Vmq l (i + 1) (S.putK (slot i) c) t ht (by omega)]
  have hput : fget (S.putK (slot i) c).lo (S.putK (slot i) c).hi (slot t) = if slot t = slot i then c else fget S.lo S.hi (slot t) := Vj5 _ _ _ _ _
  by_cases h1 : i + 1 <= t
  ·rw [if_pos h1, if_pos (by omega)]
   have : t - i = (t - (i + 1)) + 1 := by omega
   rw [this, Zp]
   split
   ·rfl
   ·rw [hput, if_neg (fun e => by have := Vd8 ht (by omega) e; omega)]
  ·rw [if_neg h1, hput]
   by_cases h2 : t = i
   ·subst h2; simp
   ·rw [if_neg (fun e => h2 (Vd8 ht (by omega) e)), if_neg (by omega)]
theorem Vgh : ∀ (l : List CVal) (i : Nat) (S : St), (Vdz l i S).hp = S.hp /\ (Vdz l i S).nx = S.nx /\ (Vdz l i S).df = S.df /\ (Vdz l i S).rd = S.rd
 | [], _, _ => ⟨rfl, rfl, rfl, rfl⟩
 | c :: l, i, S => Vgh l (i + 1) (S.putK (slot i) c)
theorem fr_junk (t : Nat) : fget fr1 fr2 (slot t) = .junk := by
 cases slot t <;> simp [fget, fr1, fr2, sel_full]
theorem start_CR {ρ : Loc} {w : World} {args : List CVal} {vs : List Value} {H : HT} {nx : ID} (hr : HR ρ (hget H) w) (hv : VRs ρ args vs) (hle : args.length <= nt) (hnt : nt <= 576) :
  CR ρ nt (Vdz args 0 ⟨fr1, fr2, H, nx, [], none⟩) w { tmps := vs.toArray ++ Array.replicate (nt - vs.toArray.size) undef, defers := [] } := by
 obtain ⟨p1, p2, p3, p4⟩ := Vgh args 0 ⟨fr1, fr2, H, nx, [], none⟩
 have hl := hv.length; refine ⟨by rw [p1]; exact hr, fun t ht => ?_, by simp; omega, hnt, by rw [p3]; rfl⟩; rw [Vmq args 0 _ t ht (by omega), if_pos (Nat.zero_le _), Nat.sub_zero]; cases hc : args[t]? with
 | none => simp only [fr_junk, VR]
 | some c =>
  obtain ⟨u, h1, h2⟩ := hv.get t c hc
  have htl : t < vs.length := by
   rcases Zf t vs.length with q | q
   ·exact q
   ·rw [Zd q] at h1; cases h1
  have : ({ tmps := vs.toArray ++ Array.replicate (nt - vs.toArray.size) undef, defers := [] } : Act).tmps.getD t undef = u := by
   simp only [Zs]; rw [Array.getElem?_append_left (by simpa using htl)]; simp [h1]
  rw [this]; exact h2
theorem eng_agg {t : TypeId} {b : Bool} (ht : tAgg P t = some b) : Eng.tAgg P t = some b := by
 unfold tAgg at ht; unfold Eng.tAgg; rw [Ze] at ht ⊢; obtain ⟨d, q1, q2⟩ := ht; exact ⟨d, q1, by cases d <;> simp_all⟩
theorem resOf_run {ρ : Loc} {S : St} {w : World} {a : Act} (hr : CR ρ nt S w a) {r : ResultVar} {c : CVal} (h : resOf P S r = some c) : ∃ v, (Eng.resRun a.tmps r).run P w = .ok v w /\ VR ρ c v := by
 cases r with
 | tmp t =>
  simp only [resOf, Z0] at h; subst h; exact ⟨a.tmps.getD t undef, by simp only [Eng.resRun, Sem.run_pure], hr.ev (.tmp t)⟩
 | cell ad t =>
  simp only [resOf] at h
  split at h
  ·rename_i b o hx
   have gx := hr.ev (.tmp ad); rw [show (trX (.tmp ad)).get S = .p b o from hx] at gx; obtain ⟨blk, off, room, g1, g2⟩ := gx.p_eq
   have g2 : a.tmps.getD ad undef = .pointer (some ⟨blk, off + o, none⟩) := g2; unfold readAt at h
   split at h
   ·rename_i e len fz ct hb
    have hobj := ObjR.cells_of hr.hr hb g1
    split at h
    ·rename_i ht
     split at h
     ·rename_i hlt; cases h; rw [Nat.blt_eq] at hlt; obtain ⟨u, k1, k2, k3⟩ := Vi2 hobj hlt; exact ⟨u, by simp [Eng.resRun, g2, asAddr, Eng.run_loadVar_one (eng_agg ht) k1], k2⟩
     ·cases h
    ·rename_i ht
     split at h
     ·rename_i n hs; simp only [Ze] at h; obtain ⟨l, hl, rfl⟩ := h; obtain ⟨us, k1, k2, k3, k4⟩ := Vj7 hobj hl; obtain ⟨bt, z, hti⟩ := Vn7 hs; refine ⟨.agg us.toArray, by simp [Eng.resRun, g2, asAddr, Eng.run_loadVar_agg (eng_agg ht) hti k1 k4], ?_⟩; simp only [VR]; exact ⟨_, rfl, by simpa using k2, by simpa using k3⟩
     ·cases h
    ·cases h
   ·cases h
  ·cases h
theorem resL_run {ρ : Loc} {S : St} {w : World} {a : Act} (hr : CR ρ nt S w a) : ∀ (rs : List ResultVar) (l : List CVal), resL P S rs = some l -> ∃ vs, (rs.mapM (Eng.resRun a.tmps)).run P w = .ok vs w /\ VRs ρ l vs
 | [], l, h => by simp [resL] at h; subst h; exact ⟨[], by simp, by simp [VRs]⟩
 | r :: rs, l, h => by
  simp only [resL] at h
  split at h
  ·rename_i c cs h1 h2; cases h; obtain ⟨v, g1, g2⟩ := resOf_run hr h1; obtain ⟨vs, k1, k2⟩ := resL_run hr rs cs h2; exact ⟨v :: vs, by simp [List.mapM_cons, g1, k1], by simp only [VRs]; exact ⟨v, vs, rfl, g2, k2⟩⟩
  ·cases h
theorem result_run {ρ : Loc} {S : St} {w : World} {a : Act} (hr : CR ρ nt S w a) {fn : Func} {v : CVal} {hp : HT} {nx : ID} (h : result P S fn.results.toList = .ok v hp nx) : hp = S.hp /\ nx = S.nx /\ ∃ u, (results fn a.tmps).run P w = .ok u w /\ VR ρ v u := by
 have run : ∀ l, resL P S fn.results.toList = some l -> ∃ vs : List Value, (fn.results.mapM (Eng.resRun a.tmps)).run P w = .ok vs.toArray w /\ VRs ρ l vs := by
  intro l hl; obtain ⟨vs, h1, h2⟩ := resL_run hr _ l hl; refine ⟨vs, ?_, h2⟩; rw [Array.mapM_eq_mapM_toList]; simp only [Sem.run_map, h1, Result.andThen_ok]
 unfold result at h; rw [Eng.results_eq]
 split at h
 ·rename_i c hl; obtain ⟨rfl, rfl, rfl⟩ := Vaa h; obtain ⟨vs, h1, h2⟩ := run _ hl; simp only [VRs] at h2; obtain ⟨u, us, rfl, h3, rfl⟩ := h2; exact ⟨rfl, rfl, u, by simp [h1], h3⟩
 ·rename_i l hne hl; obtain ⟨rfl, rfl, rfl⟩ := Vaa h; obtain ⟨vs, h1, h2⟩ := run _ hl
  have hlen := h2.length
  have h1' : vs.length ≠ 1 := by
   intro e
   have hl1 : l.length = 1 := by omega
   obtain ⟨c, rfl⟩ := List.length_eq_one_iff.1 hl1; exact hne c rfl
  refine ⟨rfl, rfl, .tuple vs.toArray, by simp [h1, h1'], ?_⟩; simp only [VR]; exact ⟨_, rfl, by simpa using h2⟩
 ·cases h
end Go.CE
namespace Go.CE
variable {P : Program} {nt : Nat} {call : Vag}
theorem drop_run {F : Fence} {fn : Func} {tmps : Array Value} {R : Ending -> World -> Prop} {n : ID} : ∀ (df : List ID) (H H' : HT) (ρ : Loc) (w : World) (ds : List Deferred), Vgz df H = some H' -> HR ρ (hget H) w -> Marks ρ df ds ->
  (∀ w', Ev ρ (hget H) n w ρ (hget H') n w' -> HR ρ (hget H') w' -> ∃ v, (results fn tmps).run P w' = .ok v w' /\ R (.returned v) w') -> LeavesInM F 0 P fn tmps R ds .returning w
 | [], H, H', ρ, w, ds, h, hr, hm, hq => by
  cases h
  have : ds = [] := hm; subst this; exact hq w (Ev.refl _ _ _ _) hr
 | i :: df, H, H', ρ, w, ds, h, hr, hm, hq => by
  obtain ⟨b, o, r, ds', h1, rfl, h3⟩ := hm; unfold Vgz at h
  split at h
  ·rename_i hi
   have hne : hget H i ≠ .no := by rw [hi]; simp
   obtain ⟨blk, off, room, q1, q2⟩ := hr.obj i hne; rw [h1] at q1; cases q1; rw [hi] at q2
   have q2 : w.heap[b]? = some (.deferred (some [])) := q2
   have hset := MapKept.heap_set (o' := .deferred none) q2; obtain ⟨e1, e2⟩ := Ve5 (n := n) (w' := { w with heap := w.heap.setIfInBounds b (.deferred none) }) (c := .no) hr hne h1 (by simp) rfl rfl rfl (fun k hk => hset.2 k hk) (.inl rfl); refine ⟨by simp, .inl ⟨b, { w with heap := w.heap.setIfInBounds b (.deferred none) }, rfl, ?_, ?_⟩⟩
   ·simp [Instr.takeDeferred, getObj, setObj, Sem.run, q2]
   ·refine drop_run (n := n) df (hput H i .no) H' ρ _ ds' h (by rw [Va6]; exact e2) h3 (fun w' k1 k2 => hq w' ?_ k2); rw [Va6] at k1; exact e1.trans k1
  ·cases h
theorem fun_ok (hcall : CallOk P call) (hdraw : ∀ (nt : Nat) (id : Nat) (ops : Array Oper), Vbb P nt call (Vm0 P ops.toList nt) (.region id ops true)) {lib : FuncId -> Option LibF} {f : FuncId} (hlib : lib f = none) {args : List CVal} {H : HT} {n : ID} {v : CVal} {H' : HT} {n' : ID} (h : (trF P lib f).run call args H n = .ok v H' n') :
  n.n <= n'.n /\ ∀ (ρ : Loc) (w : World) (vs : List Value), VRs ρ args vs -> HR ρ (hget H) w -> Free ρ n n' -> CallD P f vs w (Res ρ (hget H) n w v (hget H') n') := by
 unfold trF at h; simp only [hlib] at h
 split at h
 ·rename_i fn hfn
  split at h
  ·rename_i c hb
   split at h
   ·rename_i hname hnt hok; simp only at h
    split at h
    ·rename_i hle
     have hnt := Zl hnt
     have hle := Zl hle; obtain ⟨p1, p2, p3, p4⟩ := Vgh args 0 ⟨fr1, fr2, H, n, [], none⟩
     have key : ∃ e S', ((trC P fn.ntmps c).run call (Vdz args 0 ⟨fr1, fr2, H, n, [], none⟩)).out = some (e, S') /\ (e = .normal \/ e = .ret) /\ leave P S' fn.results.toList = .ok v H' n' := by
      cases hr : (trC P fn.ntmps c).run call (Vdz args 0 ⟨fr1, fr2, H, n, [], none⟩) with
      | no => rw [hr] at h; cases h
      | nx S1 => rw [hr] at h; exact ⟨_, S1, rfl, .inl rfl, h⟩
      | rt S1 => rw [hr] at h; exact ⟨_, S1, rfl, .inr rfl, h⟩
      | ex id S1 => rw [hr] at h; cases h
     obtain ⟨e, S', ho, he, hlv⟩ := key; obtain ⟨g1, k1⟩ := Vc7 hcall (hdraw fn.ntmps) c _ e S' ho; unfold leave at hlv
     split at hlv
     ·rename_i H1 hdrop
      have hres : H' = H1 /\ n' = S'.nx := by
       unfold result at hlv
       split at hlv
       ·obtain ⟨_, q1, q2⟩ := Vaa hlv; exact ⟨q1.symm, q2.symm⟩
       ·obtain ⟨_, q1, q2⟩ := Vaa hlv; exact ⟨q1.symm, q2.symm⟩
       ·cases hlv
      obtain ⟨rfl, rfl⟩ := hres
      have hge := g1.le; rw [p2] at hge; refine ⟨hge, fun ρ w vs hv hr hf => .inr ⟨⟨fn, hfn, by rw [hb]; rfl, hname⟩, ?_⟩⟩; refine callsIn_of_wp_marks hfn hb trivial ?_
      have hstart := start_CR (nt := fn.ntmps) hr hv hle hnt (nx := n); refine k1 none ρ w _ _ hstart (by rw [p4]; rfl) (by rw [p2]; exact hf) (fun ρ1 w1 a1 e1 r1 => ?_); rw [p1, p2] at e1
      have fin : LeavesInM Fence.wide 0 P fn a1.tmps (fun e w' => ∃ u, e = .returned u /\ Res ρ (hget H) n w v (hget H') S'.nx u w') a1.defers .returning w1 := by
       refine drop_run (n := S'.nx) S'.df S'.hp H' ρ1 w1 a1.defers hdrop r1.hr r1.marks (fun w2 e2 h2 => ?_)
       have hcr : CR ρ1 fn.ntmps ⟨S'.lo, S'.hi, H', S'.nx, S'.df, S'.rd⟩ w2 a1 := ⟨h2, r1.fr, r1.size, r1.small, r1.marks⟩
       obtain ⟨_, _, u, q1, q2⟩ := result_run (P := P) hcr (fn := fn) hlv; exact ⟨u, q1, u, rfl, ρ1, e1.trans e2, h2, q2⟩
      rcases he with rfl | rfl
      ·exact fin
      ·exact fin
     ·cases hlv
    ·cases h
   ·cases h
  ·cases h
 ·cases h
end Go.CE
namespace Go.CE
variable {P : Program}
section
variable {α : Type}
open Classical in
noncomputable def Vds (T : Nat -> Prop) (cur : Nat -> α) (L : Nat -> Bool) : Nat -> α
 | 0 => cur 0
 | m + 1 => if L m = true /\ T m then cur (m + 1) else Vds T cur L m
variable {T : Nat -> Prop} {cur : Nat -> α} {L : Nat -> Bool}
theorem Vc2 : ∀ m, (∃ e, e < m /\ L e = true /\ T e /\ (∀ j, e < j -> j < m -> L j = true -> ¬ T j) /\ Vds T cur L m = cur (e + 1)) \/ ((∀ j, j < m -> L j = true -> ¬ T j) /\ Vds T cur L m = cur 0)
 | 0 => .inr ⟨fun j hj => by omega, rfl⟩
 | m + 1 => by
  by_cases h : L m = true /\ T m
  ·exact .inl ⟨m, by omega, h.1, h.2, fun j h1 h2 => by omega, by simp only [Vds]; rw [if_pos h]⟩
  ·have hv : Vds T cur L (m + 1) = Vds T cur L m := by simp only [Vds]; rw [if_neg h]
   rcases Vc2 m with ⟨e, h1, h2, h3, h4, h5⟩ | ⟨h1, h2⟩
   ·refine .inl ⟨e, by omega, h2, h3, fun j k1 k2 hL => ?_, hv.trans h5⟩; rcases Zf j m with q | q
    ·exact h4 j k1 q hL
    ·have : j = m := by omega
     subst this; exact fun ht => h ⟨hL, ht⟩
   ·refine .inr ⟨fun j k2 hL => ?_, hv.trans h2⟩; rcases Zf j m with q | q
    ·exact h1 j q hL
    ·have : j = m := by omega
     subst this; exact fun ht => h ⟨hL, ht⟩
theorem Vmd {m e : Nat} (he : e < m) (hL : L e = true) (hT : T e) (h : ∀ j, e < j -> j < m -> L j = true -> ¬ T j) : Vds T cur L m = cur (e + 1) := by
 rcases Vc2 (T := T) (cur := cur) (L := L) m with ⟨e', h1, h2, h3, h4, h5⟩ | ⟨h1, h2⟩
 ·have : e' = e := by
   rcases Nat.lt_trichotomy e e' with q | q | q
   ·exact absurd h3 (h e' q h1 h2)
   ·exact q.symm
   ·exact absurd hT (h4 e q he hL)
  rw [h5, this]
 ·exact absurd hT (h1 e he hL)
theorem Vmc {m : Nat} (h : ∀ j, j < m -> L j = true -> ¬ T j) : Vds T cur L m = cur 0 := by
 rcases Vc2 (T := T) (cur := cur) (L := L) m with ⟨e', h1, h2, h3, h4, h5⟩ | ⟨h1, h2⟩
 ·exact absurd h3 (h e' h1 h2)
 ·exact h2
theorem Vfj {n : Nat} (hN : ∀ j, j < n -> ¬ T j -> cur (j + 1) = cur j) {a : Nat} : ∀ b, a <= b -> b <= n -> (∀ j, a <= j -> j < b -> ¬ T j) -> cur b = cur a
  | 0, h, _, _ => by have : a = 0 := by omega
                     subst this; rfl
  | b + 1, h, hb, hT => by
    rcases Zf a (b + 1) with q | q
    · rw [hN b (by omega) (hT b (by omega) (by omega))]; exact Vfj hN b (by omega) (by omega) (fun j h1 h2 => hT j h1 (by omega))
    · have : a = b + 1 := by omega
      subst this; rfl
theorem Vcw {n m k : Nat} (hN : ∀ j, j < n -> ¬ T j -> cur (j + 1) = cur j) (hm : m <= n) (hk : k <= m) (h1 : ∀ j, j < k -> T j -> L j = true) (h2 : ∀ j, k <= j -> j < m -> L j = true -> ¬ T j) : Vds T cur L m = cur k := by
 rcases Vc2 (T := T) (cur := cur) (L := L) m with ⟨e, g1, g2, g3, g4, g5⟩ | ⟨g1, g2⟩
 ·have he : e < k := by
   rcases Zf e k with q | q
   ·exact q
   ·exact absurd g3 (h2 e q g1 g2)
  rw [g5]; exact (Vfj hN k (by omega) (by omega) (fun j k1 k2 ht => g4 j (by omega) (by omega) (h1 j k2 ht) ht)).symm
 ·rw [g2]; exact (Vfj hN k (by omega) (by omega) (fun j k1 k2 ht => g1 j (by omega) (h1 j k2 ht) ht)).symm
theorem Vka {L' : Nat -> Bool} : ∀ m, (∀ j, j < m -> T j -> L j = L' j) -> Vds T cur L m = Vds T cur L' m
 | 0, _ => rfl
 | m + 1, h => by
  simp only [Vds]; rw [Vka m (fun j hj => h j (by omega))]
  by_cases ht : T m
  ·rw [h m (by omega) ht]
  ·rw [if_neg (fun q => ht q.2), if_neg (fun q => ht q.2)]
theorem Vqp (k : Nat) : Eng.also L k k = true := by simp [Eng.also]
theorem Vl3 {j k : Nat} (h : j ≠ k) : Eng.also L k j = L j := by simp only [Eng.also]; rw [if_neg h]
theorem also_of {j k : Nat} (h : L j = true) : Eng.also L k j = true := by simp only [Eng.also]; split <;> first | rfl | exact h
theorem Vb0 {k m : Nat} (hT : ¬ T k) : Vds T cur (Eng.also L k) m = Vds T cur L m :=
 Vka m (fun j _ ht => Vl3 (by rintro rfl; exact hT ht))
theorem Vbu {k m : Nat} (hk : k < m) (hT : T k) (h : ∀ j, k < j -> j < m -> L j = true -> ¬ T j) : Vds T cur (Eng.also L k) m = cur (k + 1) :=
 Vmd hk (Vqp k) hT (fun j h1 h2 hL => h j h1 h2 (by rwa [Vl3 (by omega)] at hL))
theorem Vit {k m e : Nat} (hk : k < e) (he : e < m) (hL : L e = true) (hT : T e) : Vds T cur (Eng.also L k) m = Vds T cur L m := by
 rcases Vc2 (T := T) (cur := cur) (L := L) m with ⟨e', g1, g2, g3, g4, g5⟩ | ⟨g1, g2⟩
 ·have hlt : k < e' := by
   rcases Zf k e' with q | q
   ·exact q
   ·exact absurd hT (g4 e (by omega) he hL)
  rw [g5]; exact Vmd g1 (also_of g2) g3 (fun j h1 h2 h3 => g4 j h1 h2 (by rwa [Vl3 (by omega)] at h3))
 ·exact absurd hT (g1 e he hL)
end
theorem leq_same {a b : List Nat} (h : leq a b = true) : a = b := by rw [Vpr] at h; simpa using h
mutual
theorem ceq_eq (x y : CVal) (h : ceq x y = true) : x = y := by
 unfold ceq at h
 split at h
 ·simp only [beq_iff_eq] at h; rw [h]
 ·split at h
  ·rename_i hk; rw [Zo] at h; have := Vfx hk; subst this; subst h; rfl
  ·rename_i hk; rw [Zo] at h; have := Vfx hk; subst this; subst h; rfl
  ·cases h
 ·rw [leq_same h]
 ·split at h
  ·rename_i hb; rw [ID.same_iff] at hb; rw [Zo] at h; rw [hb, h]
  ·cases h
 ·split at h
  ·rename_i h1 h2 h3 h4; rw [ID.same_iff] at h1; rw [Zo] at h2 h3 h4; rw [h1, h2, h3, h4]
  ·cases h
 ·rw [ID.same_iff] at h; rw [h]
 ·split at h
  ·rename_i h1 h2 h3; rw [Zo] at h1; rw [h1, Voa _ _ h2, Voa _ _ h3]
  ·cases h
 ·rw [Voa _ _ h]
 ·rfl
 ·rfl
 ·rfl
 ·rfl
 ·rfl
 ·split at h
  ·rename_i h1; rw [Zo] at h1; rw [h1, ceq_eq _ _ h]
  ·cases h
 ·cases h
theorem Voa (x y : List CVal) (h : ceqs x y = true) : x = y := by
 unfold ceqs at h
 split at h
 ·rfl
 ·split at h
  ·rename_i h1; rw [ceq_eq _ _ h1, Voa _ _ h]
  ·cases h
 ·cases h
end
end Go.CE
namespace Go.CE
variable {P : Program}
theorem trX_same (x : Operand) (S : St) (H : HT) (nx : ID) (df : List ID) (rd : Option ID) : (trX x).get ⟨S.lo, S.hi, H, nx, df, rd⟩ = (trX x).get S := by
 cases x with
 | tmp t =>
  simp only [trX]
  split
  ·split <;> rfl
  ·rfl
 | const v => rfl
 | global g => rfl
 | func f => rfl
theorem evS_same (S : St) (H : HT) (nx : ID) (df : List ID) (rd : Option ID) : evS ⟨S.lo, S.hi, H, nx, df, rd⟩ = evS S := by
 funext x; exact trX_same x S H nx df rd
def KindOk (P : Program) (o : Oper) (call : Vag) (S : St) (v : CVal) (hp : HT) (nx : ID) : Ft -> Prop
 | .p => hp = S.hp /\ nx = S.nx /\ ∀ M n, ExS P o (evS S) M n v M n
 | .l b u g => u = v /\ hp = S.hp /\ nx = S.nx /\ hget S.hp b ≠ .no /\ g S.hp = .ok v S.hp S.nx /\ ∀ H u hp' nx', g H = .ok u hp' nx' -> ∀ M n, M b = hget H b -> ExS P o (evS S) M n u M n
 | .s b => ∃ c off x, x ∈ o.op.operands /\ evS S x = .p b off /\ hget S.hp b ≠ .no /\ hp = hput S.hp b c /\ nx = S.nx /\ ∀ M n, M b = hget S.hp b -> ExS P o (evS S) M n v (Mem.set M b c) n
 | .a => ∃ c, inc S.nx = some nx /\ hp = hput S.hp S.nx c /\ ∀ M, ExS P o (evS S) M S.nx v (Mem.set M S.nx c) nx
 | .g => True
theorem ftOf_p {o : Oper} {call : Vag} {S : St} {v : CVal} (h : kd P o.op = .p) : ftOf P o call S v = .p := by unfold ftOf; rw [h]
theorem ftOf_a {o : Oper} {call : Vag} {S : St} {v : CVal} (h : kd P o.op = .a) : ftOf P o call S v = .a := by unfold ftOf; rw [h]
theorem ftOf_g {o : Oper} {call : Vag} {S : St} {v : CVal} (h : kd P o.op = .g) : ftOf P o call S v = .g := by unfold ftOf; rw [h]
theorem Pure.kind {o : Oper} {call : Vag} (h : Pure P o call) {S : St} {v : CVal} {hp : HT} {nx : ID} (hk : kd P o.op = .p) (hrun : (trO P o).run call S = .ok v hp nx) : KindOk P o call S v hp nx (ftOf P o call S v) := by
 rw [ftOf_p hk]; obtain ⟨h1, h2, h3⟩ := h S v hp nx hrun; exact ⟨h1, h2, fun M n => h3.ex M n⟩
theorem Vbs {o : Oper} {call : Vag} {S : St} {v : CVal} {hp : HT} {nx : ID} (hk : kd P o.op = .g) : KindOk P o call S v hp nx (ftOf P o call S v) := by
 rw [ftOf_g hk]; trivial
theorem op_kind {o : Oper} {call : Vag} {S : St} {v : CVal} {hp : HT} {nx : ID} (h : (trO P o).run call S = .ok v hp nx) : KindOk P o call S v hp nx (ftOf P o call S v) := by
 cases ho : o.op with
 | move x => exact (Vdr (.inl ho)).kind (by rw [ho]; rfl) h
 | assign x => exact (Vdr (.inr ho)).kind (by rw [ho]; rfl) h
 | pick c x y => exact (Vjx ho).kind (by rw [ho]; rfl) h
 | binOp op t x y t' => exact (Vnm ho).kind (by rw [ho]; rfl) h
 | unOp op t x => exact (pure_un ho).kind (by rw [ho]; rfl) h
 | extract x i => exact (Vf4 ho).kind (by rw [ho]; rfl) h
 | nilCheck x => exact (Vea ho).kind (by rw [ho]; rfl) h
 | fieldAddr s x f => exact (Vdi ho).kind (by rw [ho]; rfl) h
 | field s x f => exact (Vho ho).kind (by rw [ho]; rfl) h
 | build t parts => exact (Vhp ho).kind (by rw [ho]; rfl) h
 | indexAddr t x ix => exact (Vdh ho).kind (by rw [ho]; rfl) h
 | index t x ix => exact (Vhn ho).kind (by rw [ho]; rfl) h
 | makeFunc f a b => exact (Veb ho).kind (by rw [ho]; rfl) h
 | makeInterface t x => exact (Vbr ho).kind (by rw [ho]; rfl) h
 | typeAssert x t u ok => exact (Vct ho).kind (by rw [ho]; rfl) h
 | slice t x lo hi mx =>
  cases mx with
  | none => exact (Vhm ho).kind (by rw [ho]; rfl) h
  | some _ => unfold trO at h; rw [ho] at h; cases h
 | convert s d x =>
  have hh := h; unfold trO at h; rw [ho] at h; simp only at h
  split at h
  ·rename_i k k' h1 h2; exact (Vf6 ho h1 h2).kind (by rw [ho]; simp only [kd, h1, h2]) hh
  ·rename_i h1 h2; exact (Vf5 ho h1 h2).kind (by rw [ho]; simp only [kd, h1, h2]) hh
  ·cases h
 | load t x =>
  obtain ⟨b, off, h1, h2, rfl, rfl, h3⟩ := Vk8 ho h
  have hf : ftOf P o call S v = .l b v (fun H => (trO P o).run call ⟨S.lo, S.hi, H, S.nx, S.df, S.rd⟩) := by
   unfold ftOf; rw [ho]; simp only [kd, h1]; rfl
  rw [hf]; refine ⟨rfl, rfl, rfl, h2, h, fun H u hp' nx' hu M n hM => ?_⟩; obtain ⟨b', off', g1, g2, rfl, rfl, g3⟩ := Vk8 ho hu; rw [trX_same, h1] at g1; cases g1
  have := g3 M n hM; rwa [evS_same] at this
 | store t x y =>
  obtain ⟨b, off, c, h1, h2, rfl, rfl, h3⟩ := Vn8 ho h
  have hf : ftOf P o call S v = .s b := by
   unfold ftOf; rw [ho]; simp only [kd, h1]; rfl
  rw [hf]; exact ⟨c, off, x, by rw [ho]; simp [Op.operands], h1, h2, rfl, rfl, fun M n hM => h3 M n hM⟩
 | alloc t =>
  rw [ftOf_a (by rw [ho]; rfl)]; obtain ⟨c, h1, rfl, h2⟩ := Vod ho h; exact ⟨c, h1, rfl, h2⟩
 | box t x =>
  rw [ftOf_a (by rw [ho]; rfl)]; obtain ⟨c, h1, rfl, h2⟩ := box_ex ho h; exact ⟨c, h1, rfl, h2⟩
 | buildSlice t n parts =>
  rw [ftOf_a (by rw [ho]; rfl)]; obtain ⟨c, h1, rfl, h2⟩ := Vej ho h; exact ⟨c, h1, rfl, h2⟩
 | makeMap t r => exact Vbs (by rw [ho]; rfl)
 | makeSlice t l c => exact Vbs (by rw [ho]; rfl)
 | lookup t x ix ok => exact Vbs (by rw [ho]; rfl)
 | mapUpdate t x ix y => exact Vbs (by rw [ho]; rfl)
 | range t x => exact Vbs (by rw [ho]; rfl)
 | next it s => exact Vbs (by rw [ho]; rfl)
 | call c =>
  obtain ⟨callee, args, tys⟩ := c; cases callee with
  | value x => exact Vbs (by rw [ho]; rfl)
  | invoke r n => exact Vbs (by rw [ho]; rfl)
  | builtin b =>
   by_cases hb2 : b = .max \/ b = .min
   ·exact (Vjy ho hb2).kind (by rw [ho]; rcases hb2 with rfl | rfl <;> rfl) h
   ·by_cases hb3 : b = .cap
    ·subst hb3; exact (pure_cap ho).kind (by rw [ho]; rfl) h
    ·by_cases hb : b = .len
     ·subst hb
      have one : (∃ x t, args.toList = [x] /\ tys.toList = [t]) \/ ¬ ∃ x t, args.toList = [x] /\ tys.toList = [t] := Classical.em _; rcases one with ⟨x, t, hx, ht⟩ | hno
      ·by_cases hm : ∃ k e, P.underlying t = some (.map k e)
       ·obtain ⟨k, e, hu⟩ := hm; exact Vbs (by rw [ho]; simp only [kd, hx, ht, hu])
       ·exact (pure_len ho hx ht (fun k e hu => hm ⟨k, e, hu⟩)).kind (by
         rw [ho]; simp only [kd, hx, ht]
         split
         ·rename_i k e hu; exact absurd ⟨k, e, hu⟩ hm
         ·rfl) h
      ·refine Vbs ?_; rw [ho]; simp only [kd]
       split
       all_goals first | rfl | contradiction | (rename_i hx ht; exact absurd ⟨_, _, hx, ht⟩ hno)
     ·refine Vbs ?_; rw [ho]; cases b <;> first | rfl | exact absurd rfl hb | exact absurd rfl hb3 | exact absurd (.inl rfl) hb2 | exact absurd (.inr rfl) hb2
 | _ => unfold trO at h; rw [ho] at h; cases h
def Grd (ops : List Oper) (nt : Nat) (o : Oper) (S : St) (b : Bool) : Prop :=
 (o.guard = none /\ b = true) \/ ∃ j want t g, o.guard = some (j, want) /\ ops[j]? = some g /\ g.dst = some t /\ t < nt /\ (((trX (.tmp t)).get S = .tu [] /\ b = false) \/ ∃ q, (trX (.tmp t)).get S = .b q /\ b = (q == want))
def Stp (P : Program) (call : Vag) (nt : Nat) (ops : List Oper) (o : Oper) (S : St) (v : CVal) (f : Ft) (S' : St) : Prop :=
 dstOk o.dst nt = true /\ ∃ hp nx, S' = (⟨S.lo, S.hi, hp, nx, S.df, S.rd⟩ : St).put o.dst v /\
  ((Grd ops nt o S true /\ (trO P o).run call S = .ok v hp nx /\ f = ftOf P o call S v) \/ (Grd ops nt o S false /\ v = .tu [] /\ hp = S.hp /\ nx = S.nx /\ f = .p))
theorem trOps_D {call : Vag} {nt : Nat} {all : List Oper} : ∀ (l : List Oper) (S : St) (rs : List Rec), (Vey P all nt [] l).run call S rs = (Vio P all nt l).run call S
 | [], S, rs => rfl
 | o :: l, S, rs => by
  have ih := trOps_D (call := call) (nt := nt) (all := all) l
  show (trOpD P all nt o (Vey P all nt [] l)).run call S rs = (trOp P all nt o (Vio P all nt l)).run call S
  have hthen : ∀ S rs, (thenD P o (trD o.dst) (Vey P all nt [] l)).run call S rs = (andThen (trO P o) (trD o.dst) (Vio P all nt l)).run call S := by
   intro S rs; simp only [thenD, andThen]; cases (trO P o).run call S with
   | no => rfl
   | ok v hp nx => exact ih _ _
  unfold trOpD trOp
  split
  ·rfl
  ·split
   ·exact hthen S rs
   ·split
    ·rfl
    ·split
     ·rfl
     ·simp only
      split
      ·exact ih _ _
      ·split
       ·exact hthen S rs
       ·exact ih _ _
      ·rfl
structure Trc (P : Program) (call : Vag) (nt : Nat) (all : List Oper) (S S' : St) (σ : Nat -> St) (v : Nat -> CVal) (f : Nat -> Ft) : Prop where
 fst : σ 0 = S
 lst : σ all.length = S'
 stp : ∀ j o, all[j]? = some o -> Stp P call nt all o (σ j) (v j) (f j) (σ (j + 1))
def Vd4 (σ : Nat -> St) (f : Nat -> Ft) (j : Nat) : Rec := ⟨f j, (σ j).hp, (σ (j + 1)).hp⟩
theorem trace {call : Vag} {nt : Nat} {all : List Oper} {prs : List (Nat × Nat)} : ∀ (l : List Oper) (k : Nat), k <= all.length -> all.drop k = l -> ∀ (S : St) (rs : List Rec) (r : R), rs.length = k -> (Vey P all nt prs l).run call S rs = r -> r ≠ .no ->
  ∃ (S' : St) (σ : Nat -> St) (v : Nat -> CVal) (f : Nat -> Ft), r = .nx S' /\ σ k = S /\ σ all.length = S' /\ (∀ j o, k <= j -> all[j]? = some o -> Stp P call nt all o (σ j) (v j) (f j) (σ (j + 1))) /\
   ∃ rs', (∀ j, j < k -> rs'[j]? = rs[j]?) /\ (∀ j, k <= j -> j < all.length -> rs'[j]? = some (Vd4 σ f j)) /\ Vee rs' prs = true
 | [], k, hk, hl, S, rs, r, hrs, h, hno => by
  have hlen : all.length <= k := by
   rcases Zf k all.length with q | q
   ·have := List.drop_eq_getElem_cons q; rw [hl] at this; cases this
   ·exact q
  have hke : k = all.length := by omega
  have h : (bc (Vee rs prs) (R.nx S) .no) = r := h; cases hok : Vee rs prs with
  | false => rw [hok] at h; exact (hno h.symm).elim
  | true =>
   rw [hok] at h; exact ⟨S, fun _ => S, fun _ => .junk, fun _ => .g, h.symm, rfl, rfl, fun j o hj ho => (by rw [Zd (by omega)] at ho; cases ho), rs, fun _ _ => rfl, fun j h1 h2 => by omega, hok⟩
 | o :: l, k, hk0, hl, S, rs, r, hrs, h, hno => by
  have hk : k < all.length := by
   rcases Zf k all.length with q | q
   ·exact q
   ·rw [List.drop_eq_nil_of_le q] at hl; cases hl
  have hcons := List.drop_eq_getElem_cons hk; rw [hl] at hcons; simp only [Zv] at hcons; obtain ⟨ho, hl'⟩ := hcons
  have hok : all[k]? = some o := by rw [ho]; simp [hk]
  -- one step, then the rest
  have step : ∀ (v : CVal) (f : Ft) (S1 : St) (rc : Rec), Stp P call nt all o S v f S1 -> rc = ⟨f, S.hp, S1.hp⟩ -> (Vey P all nt prs l).run call S1 (rs ++ [rc]) = r ->
    ∃ (S' : St) (σ : Nat -> St) (v : Nat -> CVal) (f : Nat -> Ft), r = .nx S' /\ σ k = S /\ σ all.length = S' /\ (∀ j o, k <= j -> all[j]? = some o -> Stp P call nt all o (σ j) (v j) (f j) (σ (j + 1))) /\
   ∃ rs', (∀ j, j < k -> rs'[j]? = rs[j]?) /\ (∀ j, k <= j -> j < all.length -> rs'[j]? = some (Vd4 σ f j)) /\ Vee rs' prs = true := by
   intro v1 f1 S1 rc hstp hrc hrun; obtain ⟨S', σ, v, f, h1, h2, h3, h4, rs', h5, h6, h7⟩ := trace l (k + 1) (by omega) hl'.symm S1 (rs ++ [rc]) r (by simp [hrs]) hrun hno; refine ⟨S', fun j => if j = k then S else σ j, fun j => if j = k then v1 else v j, fun j => if j = k then f1 else f j, h1, by simp, by simp only; rw [if_neg (by omega)]; exact h3, fun j o' hj hjo => ?_, rs', fun j hj => ?_, fun j hj hjn => ?_, h7⟩
   ·by_cases e : j = k
    ·subst e; rw [hok] at hjo; cases hjo; simp only [if_true]; rw [if_neg (by omega), h2]; exact hstp
    ·simp only [if_neg e]; rw [if_neg (by omega)]; exact h4 j o' (by omega) hjo
   ·rw [h5 j (by omega), Zh (by omega)]
   ·by_cases e : j = k
    ·subst e; rw [h5 j (by omega), Zm (by omega)]; simp only [hrs, Nat.sub_self, List.getElem?_cons_zero, Vd4, if_true]; rw [if_neg (by omega), h2, hrc]
    ·rw [h6 j (by omega) hjn]; simp only [Vd4, if_neg e]; rw [if_neg (by omega)]
  have h : (trOpD P all nt o (Vey P all nt prs l)).run call S rs = r := h; unfold trOpD at h
  split at h
  ·exact (hno h.symm).elim
  ·rename_i hdst
   have then_ : Grd all nt o S true -> (thenD P o (trD o.dst) (Vey P all nt prs l)).run call S rs = r -> ∃ (S' : St) (σ : Nat -> St) (v : Nat -> CVal) (f : Nat -> Ft), r = .nx S' /\ σ k = S /\ σ all.length = S' /\ (∀ j o, k <= j -> all[j]? = some o -> Stp P call nt all o (σ j) (v j) (f j) (σ (j + 1))) /\
     ∃ rs', (∀ j, j < k -> rs'[j]? = rs[j]?) /\ (∀ j, k <= j -> j < all.length -> rs'[j]? = some (Vd4 σ f j)) /\ Vee rs' prs = true := by
    intro hg h; simp only [thenD] at h; cases hrun : (trO P o).run call S with
    | no => rw [hrun] at h; exact (hno h.symm).elim
    | ok v hp nx =>
     rw [hrun] at h
     have h : (Vey P all nt prs l).run call ((trD o.dst).put v ⟨S.lo, S.hi, hp, nx, S.df, S.rd⟩) (rs ++ [⟨ftOf P o call S v, S.hp, hp⟩]) = r := h; rw [Vn3] at h; exact step v _ _ _ ⟨hdst, hp, nx, rfl, .inl ⟨hg, hrun, rfl⟩⟩ (by rw [(Vbi _ o.dst v).1]) h
   have skip_ : Grd all nt o S false -> skipD (trD o.dst) (Vey P all nt prs l) call S rs = r -> ∃ (S' : St) (σ : Nat -> St) (v : Nat -> CVal) (f : Nat -> Ft), r = .nx S' /\ σ k = S /\ σ all.length = S' /\ (∀ j o, k <= j -> all[j]? = some o -> Stp P call nt all o (σ j) (v j) (f j) (σ (j + 1))) /\
     ∃ rs', (∀ j, j < k -> rs'[j]? = rs[j]?) /\ (∀ j, k <= j -> j < all.length -> rs'[j]? = some (Vd4 σ f j)) /\ Vee rs' prs = true := by
    intro hg h; unfold skipD at h; rw [Vn3] at h; exact step (.tu []) .p _ _ ⟨hdst, S.hp, S.nx, rfl, .inr ⟨hg, rfl, rfl, rfl, rfl⟩⟩ (by rw [(Vbi S o.dst _).1]) h
   split at h
   ·rename_i hg; exact then_ (.inl ⟨hg, rfl⟩) h
   ·rename_i j want hg
    split at h
    ·exact (hno h.symm).elim
    ·rename_i t ht
     split at h
     ·exact (hno h.symm).elim
     ·rename_i htn
      have hgo : ∃ g, all[j]? = some g /\ g.dst = some t := by
       split at ht
       ·rename_i g hgj; exact ⟨g, hgj, ht⟩
       ·cases ht
      obtain ⟨g, hg1, hg2⟩ := hgo; rw [Nat.blt_eq] at htn; simp only at h
      split at h
      ·rename_i hs; exact skip_ (.inr ⟨j, want, t, g, hg, hg1, hg2, htn, .inl ⟨hs, rfl⟩⟩) h
      ·rename_i q hs
       split at h
       ·rename_i hm; exact then_ (.inr ⟨j, want, t, g, hg, hg1, hg2, htn, .inr ⟨q, hs, by cases q <;> cases want <;> first | rfl | cases hm⟩⟩) h
       ·rename_i hm; exact skip_ (.inr ⟨j, want, t, g, hg, hg1, hg2, htn, .inr ⟨q, hs, by cases q <;> cases want <;> first | rfl | cases hm⟩⟩) h
      ·exact (hno h.symm).elim
end Go.CE
namespace Go.CE
variable {P : Program}
theorem Ev.frame {ρ ρ' : Loc} {M M' N N' : Mem} {n n' : ID} {w w' : World} (h : Ev ρ M n w ρ' M' n' w') (hN : HR ρ N w) (hs : ∀ i, M i ≠ .no -> N i = M i) (hf : Free ρ n n')
  (hN' : ∀ i, N' i ≠ .no -> N' i = (match M' i with | .no => (match M i with | .no => N i | _ => .no) | o => o)) : Ev ρ N n w ρ' N' n' w' := by
 have key : ∀ i, N' i ≠ .no -> M' i ≠ .no \/ (M i = .no /\ N i ≠ .no) := by
  intro i hi
  have e := hN' i hi; cases h1 : M' i with
  | no =>
   rw [h1] at e; cases h2 : M i with
   | no => rw [h2] at e; exact .inr ⟨rfl, fun q => hi (e.trans q)⟩
   | _ => rw [h2] at e; exact absurd e hi
  | _ => exact .inl (by simp)
 have hM : ∀ i, M i ≠ .no -> N i ≠ .no := fun i hi => by rw [hs i hi]; exact hi
 refine ⟨h.le, h.size, h.os, h.tape, h.output, h.same, fun b hb hn => h.out b hb (fun i x hi hx => hn i x (hM i hi) hx), fun i x hi hx => ?_, fun i hi => ?_⟩
 ·rcases key i hi with h1 | ⟨h1, h2⟩
  ·rcases h.img i x h1 hx with ⟨j, x', hj, hx', he⟩ | hge
   ·exact .inl ⟨j, x', hM j hj, hx', he⟩
   ·exact .inr hge
  ·obtain ⟨blk, off, room, k1, _⟩ := hN.obj i h2
   have := h.sub hf i _ k1; rw [hx] at this; cases this; exact .inl ⟨i, _, h2, k1, rfl⟩
 ·rcases key i hi with h1 | ⟨h1, h2⟩
  ·rcases h.nam i h1 with q | q
   ·exact .inl (hM i q)
   ·exact .inr q
  ·exact .inl h2
theorem Tri.frame {o : Oper} {X : Operand -> CVal} {M M' N N' : Mem} {n n' : ID} {v : CVal} (h : Tri P o X M n v M' n') (hs : ∀ i, M i ≠ .no -> N i = M i)
  (hN' : ∀ i, N' i ≠ .no -> N' i = (match M' i with | .no => (match M i with | .no => N i | _ => .no) | o => o)) : Tri P o X N n v N' n' := by
 intro ro ρ w a next Q ha hr hf hn
 exact h ro ρ w a next Q ha (hr.less (fun i hi => (hs i hi).symm)) hf (fun ρ' u w' e1 e2 e3 => hn ρ' u w' (e1.frame hr hs hf hN') ((hr.frame hs e1 hf e2).less hN') e3)
theorem Tri.some {o : Oper} {X : Operand -> CVal} {M M' : Mem} {n n' : ID} {v : CVal} (h : Tri P o X M n v M' n') {ρ : Loc} {w : World} {a : Act} (ha : ∀ x ∈ o.op.operands, VR ρ (X x) (a.eval x)) (hr : HR ρ M w) (hf : Free ρ n n') :
  ∃ ρ' u w', Ev ρ M n w ρ' M' n' w' /\ HR ρ' M' w' /\ VR ρ' v u := by
 have hw := h none ρ w a (fun _ _ => ∃ ρ' u w', Ev ρ M n w ρ' M' n' w' /\ HR ρ' M' w' /\ VR ρ' v u) (fun _ _ _ => False) ha hr hf (fun ρ' u w' e1 e2 e3 => ⟨ρ', u, w', e1, e2, e3⟩); obtain ⟨_, hw⟩ := hw; generalize (o.semAt (FR none).round a.eval).run P w = r at hw
 have room : ∀ m, (FR none).room m := fun m d hd => by cases hd
 have ends : ∀ (e : Ending) (w' : World), (match e, w' with
   | .returned u, w'' => ∃ ρ' u w', Ev ρ M n w ρ' M' n' w' /\ HR ρ' M' w' /\ VR ρ' v u
   | .panicked chain, w'' => False
   | .outgrown, _ => LetsOut (fun _ _ _ => False)) -> ∃ ρ' u w', Ev ρ M n w ρ' M' n' w' /\ HR ρ' M' w' /\ VR ρ' v u := by
  intro e w' he; cases e with
  | returned u => exact he
  | panicked c => exact he.elim
  | outgrown => obtain ⟨_, _, hq⟩ := he; exact hq.elim
 cases r with
 | ok x w' =>
  cases x with
  | value u => exact hw
  | skip => exact hw
  | defer d => exact hw
  | enter f args =>
   obtain ⟨_, _, hw⟩ := hw; obtain ⟨e, w', fr, he, _⟩ := hw [] (room _); exact ends e w' he
  | row row args =>
   obtain ⟨_, hw⟩ := hw; obtain ⟨u, w', he, _⟩ := hw default [] (room _); exact he
  | round l f tmps assign body =>
   obtain ⟨_, _, hw⟩ := hw; obtain ⟨e, w', he, _⟩ := hw default [] (room _); exact ends e w' he
  | _ => exact hw.elim
 | halt x w' =>
  cases x <;> exact hw.elim
variable {call : Vag} {nt : Nat} {all : List Oper} {S S' : St} {σ : Nat -> St} {v : Nat -> CVal} {f : Nat -> Ft}
theorem Stp.same {o : Oper} {A B : St} {u : CVal} {ft : Ft} (h : Stp P call nt all o A u ft B) : B.df = A.df /\ B.rd = A.rd := by
 obtain ⟨_, hp, nx, rfl, _⟩ := h; obtain ⟨_, _, h3, h4⟩ := Vbi ⟨A.lo, A.hi, hp, nx, A.df, A.rd⟩ o.dst u; exact ⟨h3, h4⟩
theorem Stp.le (hcall : CallOk P call) {o : Oper} {A B : St} {u : CVal} {ft : Ft} (h : Stp P call nt all o A u ft B) : A.nx.n <= B.nx.n := by
 obtain ⟨_, hp, nx, rfl, h⟩ := h; rw [(Vbi ⟨A.lo, A.hi, hp, nx, A.df, A.rd⟩ o.dst u).2.1]; rcases h with ⟨_, h1, _⟩ | ⟨_, _, _, rfl, _⟩
 ·exact op_le hcall h1
 ·exact Za _
theorem Trc.le (hcall : CallOk P call) (ht : Trc P call nt all S S' σ v f) (j : Nat) : ∀ k, j <= k -> k <= all.length -> (σ j).nx.n <= (σ k).nx.n
  | 0, h, _ => by have : j = 0 := by omega
                  subst this; exact Za _
  | k + 1, h, hk => by
    rcases Zf j (k + 1) with q | q
    · have h1 := Trc.le hcall ht j k (by omega) (by omega)
      have h2 := (ht.stp k all[k] (by simp)).le hcall; omega
    · have : j = k + 1 := by omega
      subst this; exact Za _
theorem Trc.same (ht : Trc P call nt all S S' σ v f) : ∀ k, k <= all.length -> (σ k).df = S.df /\ (σ k).rd = S.rd
 | 0, _ => by rw [ht.fst]; exact ⟨rfl, rfl⟩
 | k + 1, hk => by
  obtain ⟨h1, h2⟩ := Trc.same ht k (by omega); obtain ⟨h3, h4⟩ := (ht.stp k all[k] (by simp)).same; exact ⟨h3.trans h1, h4.trans h2⟩
theorem Trc.run (hcall : CallOk P call) (ht : Trc P call nt all S S' σ v f) {ρ0 : Loc} {w0 : World} {a0 : Act} (hr : CR ρ0 nt S w0 a0) (hf : Free ρ0 S.nx S'.nx) : ∀ k, k <= all.length ->
  ∃ ρ w a, CR ρ nt (σ k) w a /\ Ev ρ0 (hget S.hp) S.nx w0 ρ (hget (σ k).hp) (σ k).nx w
 | 0, _ => by rw [ht.fst]; exact ⟨ρ0, w0, a0, hr, Ev.refl _ _ _ _⟩
 | k + 1, hk => by
  obtain ⟨ρ, w, a, h1, h2⟩ := Trc.run hcall ht hr hf k (by omega)
  have hfk : Free ρ (σ k).nx S'.nx := hf.right h2
  have hst := ht.stp k all[k] (by simp)
  have hle2 := Trc.le hcall ht (k + 1) all.length (by omega) (Za _); rw [ht.lst] at hle2
  have hf1 : Free ρ (σ k).nx (σ (k + 1)).nx := hfk.left hle2; obtain ⟨hd, hp, nx, he, hst⟩ := hst; obtain ⟨p1, p2, p3, p4⟩ := Vbi ⟨(σ k).lo, (σ k).hi, hp, nx, (σ k).df, (σ k).rd⟩ all[k].dst (v k); rw [<- he] at p1 p2; simp only at p1 p2; rcases hst with ⟨_, hrun, _⟩ | ⟨_, hv, rfl, rfl, _⟩
  ·have htri := op_tri hcall hrun; rw [p2] at hf1; obtain ⟨ρ', u, w', e1, e2, e3⟩ := htri.some (fun x _ => h1.ev x) h1.hr hf1; refine ⟨ρ', w', a.put all[k].dst u, ?_, ?_⟩
   ·rw [he]; exact (h1.step e1 hf1 e2).put _ hd e3
   ·rw [p1, p2]; exact h2.trans e1
  ·refine ⟨ρ, w, a.put all[k].dst undef, ?_, ?_⟩
   ·rw [he, hv]; exact CR.put (S := (σ k)) h1 _ hd (Vdf ρ)
   ·rw [p1, p2]; exact h2
end Go.CE
namespace Go.CE
variable {P : Program}
def Tch (f : Ft) (nx : ID) (i : ID) : Prop := match f with
 | .p => False
 | .l _ _ _ => False
 | .s b => i = b
 | .a => i = nx
 | .g => True
noncomputable def ML (σ : Nat -> St) (f : Nat -> Ft) (n : Nat) (L : Nat -> Bool) : Mem := fun i => Vds (fun j => Tch (f j) (σ j).nx i) (fun j => hget (σ j).hp i) L n
def Dst (all : List Oper) (κ : K) (j : Nat) : Prop := ∃ t, Vfg all j = some t /\ slot t = κ
noncomputable def FL (all : List Oper) (σ : Nat -> St) (n : Nat) (L : Nat -> Bool) (κ : K) : CVal := Vds (Dst all κ) (fun j => fget (σ j).lo (σ j).hi κ) L n
structure DC (P : Program) (call : Vag) (nt : Nat) (all : List Oper) (S S' : St) (σ : Nat -> St) (v : Nat -> CVal) (f : Nat -> Ft) (ρ0 : Loc) (w0 : World) : Prop where
 hcall : CallOk P call
 trc : Trc P call nt all S S' σ v f
 sm : nt <= 576
 apart : ∀ j i, j < i -> i < all.length -> ((masks all []).getD i 0).testBit j = false -> ∀ o p, all[j]? = some o -> all[i]? = some p -> apart all o p = true
 okp : ∀ j i, j < i -> i < all.length -> ((masks all []).getD i 0).testBit j = false -> Vcb (Vd4 σ f j) (Vd4 σ f i) = true
 hr0 : HR ρ0 (hget S.hp) w0
 fr0 : Free ρ0 S.nx S'.nx
 le : ∀ j k, j <= k -> k <= all.length -> (σ j).nx.n <= (σ k).nx.n
 nm : ∀ k, k <= all.length -> ∀ i, hget (σ k).hp i ≠ .no -> hget S.hp i ≠ .no \/ (S.nx.n <= i.n /\ i.n < (σ k).nx.n)
structure Gd (all : List Oper) (L : Nat -> Bool) (i : Nat) : Prop where
 lt : i < all.length
 un : L i = false
 bef : ∀ j, j < i -> L j = false -> ((masks all []).getD i 0).testBit j = false
 aft : ∀ j, i < j -> L j = true -> ((masks all []).getD j 0).testBit i = false
section
variable {call : Vag} {nt : Nat} {all : List Oper} {S S' : St} {σ : Nat -> St} {v : Nat -> CVal} {f : Nat -> Ft} {ρ0 : Loc} {w0 : World}
theorem DC.nm' (h : DC P call nt all S S' σ v f ρ0 w0) {k : Nat} (hk : k <= all.length) {i : ID} (h1 : (σ k).nx.n <= i.n) (h2 : i.n < S'.nx.n) : hget (σ k).hp i = .no := by
 apply Classical.byContradiction; intro hne; rcases h.nm k hk i hne with q | q
 ·obtain ⟨blk, off, room, k1, _⟩ := h.hr0.obj i q
  have hle := h.le 0 k (by omega) hk; rw [h.trc.fst] at hle; rw [h.fr0 i (by omega) h2] at k1; cases k1
 ·omega
theorem DC.lst (h : DC P call nt all S S' σ v f ρ0 w0) : S'.nx = (σ all.length).nx := by rw [h.trc.lst]
theorem DC.mem (h : DC P call nt all S S' σ v f ρ0 w0) {j : Nat} (hj : j < all.length) {i : ID} (hT : ¬ Tch (f j) (σ j).nx i) : hget (σ (j + 1)).hp i = hget (σ j).hp i := by
 obtain ⟨hd, hp, nx, he, hst⟩ := h.trc.stp j all[j] (by simp); obtain ⟨p1, p2, p3, p4⟩ := Vbi ⟨(σ j).lo, (σ j).hi, hp, nx, (σ j).df, (σ j).rd⟩ all[j].dst (v j); rw [<- he] at p1; rw [p1]; rcases hst with ⟨_, hrun, hf⟩ | ⟨_, _, rfl, _, _⟩
 ·have hk := op_kind hrun; rw [<- hf] at hk; cases hfj : f j with
  | p => rw [hfj] at hk; rw [hk.1]
  | l b u g => rw [hfj] at hk; rw [hk.2.1]
  | s b =>
   rw [hfj] at hk hT; obtain ⟨c, off, x, _, _, _, k1, _⟩ := hk
   have hT : ¬ i = b := hT; rw [k1]; simp only [Vfc]; rw [if_neg hT]
  | a =>
   rw [hfj] at hk hT; obtain ⟨c, _, k1, _⟩ := hk
   have hT : ¬ i = (σ j).nx := hT; rw [k1]; simp only [Vfc]; rw [if_neg hT]
  | g => rw [hfj] at hT; exact absurd trivial hT
 ·rfl
theorem dst_lt {d : Tmp} {n : Nat} (h : dstOk (some d) n = true) : @LT.lt Nat _ d n := by simpa [dstOk, Nat.blt_eq] using h
theorem DC.dlt (h : DC P call nt all S S' σ v f ρ0 w0) {j t : Nat} (hd : Vfg all j = some t) : t < nt := by
 unfold Vfg at hd
 split at hd
 ·rename_i o ho; obtain ⟨h1, _⟩ := h.trc.stp j o ho; rw [hd] at h1; exact dst_lt h1
 ·cases hd
theorem DC.fr (h : DC P call nt all S S' σ v f ρ0 w0) {j : Nat} (hj : j < all.length) (κ : K) : fget (σ (j + 1)).lo (σ (j + 1)).hi κ = match Vfg all j with | some d => if κ = slot d then v j else fget (σ j).lo (σ j).hi κ | none => fget (σ j).lo (σ j).hi κ := by
 obtain ⟨hd, hp, nx, he, hst⟩ := h.trc.stp j all[j] (by simp)
 have hda : Vfg all j = all[j].dst := by simp [Vfg, hj]
 rw [hda, he]; cases hdd : all[j].dst with
 | none => rfl
 | some d => exact Vj5 _ _ _ _ _
theorem DC.frN (h : DC P call nt all S S' σ v f ρ0 w0) (κ : K) {j : Nat} (hj : j < all.length) (hT : ¬ Dst all κ j) : fget (σ (j + 1)).lo (σ (j + 1)).hi κ = fget (σ j).lo (σ j).hi κ := by
 rw [h.fr hj]
 split
 ·rename_i d hd; rw [if_neg (fun e => hT ⟨d, hd, e.symm⟩)]
 ·rfl
theorem Vkq {d : Tmp} {l : List Nat} (h : Vqi (some d) l = false) : d ∉ l := by
 intro hm; simp only [Vqi, List.any_eq_false] at h
 have := h d hm; rw [Nat.beq_refl] at this; exact this rfl
theorem Vgi {o p : Oper} (h : Go.CE.apart all o p = true) : Vqi o.dst (looks all p) = false /\ Vqi p.dst (looks all o) = false /\ Vqi o.dst p.dst.toList = false := by
 unfold Go.CE.apart at h
 split at h
 ·rename_i h1 h2 h3; exact ⟨h1, h2, h3⟩
 ·cases h
theorem DC.slot_eq (h : DC P call nt all S S' σ v f ρ0 w0) {L : Nat -> Bool} {i : Nat} (hg : Gd all L i) {t : Nat} (ht : t < 576) (hl : t ∈ looks all (all[i]'hg.lt)) : FL all σ all.length L (slot t) = fget (σ i).lo (σ i).hi (slot t) := by
 have hi := hg.lt; refine Vcw (n := all.length) (fun j hj hT => h.frN _ hj hT) (Za _) (Nat.le_of_lt hi) (fun j hj hT => ?_) (fun j hj hjn hL hT => ?_)
 ·cases hL : L j with
  | true => rfl
  | false =>
   obtain ⟨t', h1, h2⟩ := hT
   have := Vd8 (Zq (h.dlt h1) h.sm) ht h2; subst this
   have ha := h.apart j i hj hi (hg.bef j hj hL) (all[j]'(by omega)) all[i] (by simp) (by simp); obtain ⟨c1, _, _⟩ := Vgi ha
   have hda : Vfg all j = (all[j]'(by omega)).dst := by simp [Vfg, show j < all.length by omega]
   rw [hda] at h1; rw [h1] at c1; exact absurd hl (Vkq c1)
 ·by_cases e : j = i
  ·subst e; rw [hg.un] at hL; cases hL
  ·obtain ⟨t', h1, h2⟩ := hT
   have := Vd8 (Zq (h.dlt h1) h.sm) ht h2; subst this
   have ha := h.apart i j (by omega) hjn (hg.aft j (by omega) hL) all[i] (all[j]'hjn) (by simp) (by simp); obtain ⟨_, c2, _⟩ := Vgi ha
   have hda : Vfg all j = (all[j]'hjn).dst := by simp [Vfg, hjn]
   rw [hda] at h1; rw [h1] at c2; exact absurd hl (Vkq c2)
theorem DC.fr_also (h : DC P call nt all S S' σ v f ρ0 w0) {L : Nat -> Bool} {i : Nat} (hg : Gd all L i) (κ : K) : FL all σ all.length (Eng.also L i) κ = match (all[i]'hg.lt).dst with | some d => if κ = slot d then v i else FL all σ all.length L κ | none => FL all σ all.length L κ := by
 have hi := hg.lt
 have hda : Vfg all i = all[i].dst := by simp [Vfg, hi]
 by_cases hT : Dst all κ i
 ·have hlast : FL all σ all.length (Eng.also L i) κ = fget (σ (i + 1)).lo (σ (i + 1)).hi κ := by
   refine Vbu hi hT (fun j hj hjn hL hTj => ?_); obtain ⟨d, d1, d2⟩ := hT; obtain ⟨t', h1, h2⟩ := hTj
   have := Vd8 (Zq (h.dlt h1) h.sm) (Zq (h.dlt d1) h.sm) (h2.trans d2.symm); subst this
   have ha := h.apart i j hj hjn (hg.aft j hj hL) all[i] (all[j]'hjn) (by simp) (by simp); obtain ⟨_, _, c3⟩ := Vgi ha
   have hdj : Vfg all j = (all[j]'hjn).dst := by simp [Vfg, hjn]
   rw [hdj] at h1; rw [hda] at d1; rw [h1, d1] at c3; exact absurd (by simp) (Vkq c3)
  rw [hlast, h.fr hi κ, hda]; obtain ⟨d, d1, d2⟩ := hT; rw [hda] at d1; rw [d1]; simp only; rw [if_pos d2.symm, if_pos d2.symm]
 ·have hn : FL all σ all.length (Eng.also L i) κ = FL all σ all.length L κ := Vb0 hT; rw [hn]
  split
  ·rename_i d hd; rw [if_neg (fun e => hT ⟨d, by rw [hda]; exact hd, e.symm⟩)]
  ·rfl
end
structure DI (all : List Oper) (nt : Nat) (S : St) (σ : Nat -> St) (f : Nat -> Ft) (ρ0 : Loc) (w0 : World) (L : Nat -> Bool) (ρ : Loc) (w : World) (a : Act) : Prop where
 hr : HR ρ (ML σ f all.length L) w
 fr : ∀ t, t < 576 -> VR ρ (FL all σ all.length L (slot t)) (a.tmps.getD t undef)
 size : a.tmps.size = nt
 marks : Marks ρ S.df a.defers
 free : ∀ k, k < all.length -> L k = false -> Free ρ (σ k).nx (σ (k + 1)).nx
 ev : Ev ρ0 (hget S.hp) S.nx w0 ρ (ML σ f all.length L) (σ all.length).nx w
 st : ∀ j, j < all.length -> L j = true -> ∀ b, f j = .s b -> ∀ k, k < all.length -> L k = false -> f k = .a -> b ≠ (σ k).nx
section
variable {call : Vag} {nt : Nat} {all : List Oper} {S S' : St} {σ : Nat -> St} {v : Nat -> CVal} {f : Nat -> Ft} {ρ0 : Loc} {w0 : World}
theorem Ev.trans_in {ρ ρ' ρ'' : Loc} {M M' M'' : Mem} {n m m' N : ID} {w w' w'' : World} (h : Ev ρ M n w ρ' M' N w') (k : Ev ρ' M' m w' ρ'' M'' m' w'') (h1 : n.n <= m.n) (h2 : m'.n <= N.n) : Ev ρ M n w ρ'' M'' N w'' := by
 have hk := k.le; refine ⟨h.le, Nat.le_trans h.size k.size, k.os.trans h.os, k.tape.trans h.tape, k.output.trans h.output, fun i hi => ?_, fun b hb hn => ?_, fun i x hi hx => ?_, fun i hi => ?_⟩
 ·rw [k.same i (by omega), h.same i hi]
 ·have g1 := h.out b hb hn
  have g2 := k.out b (Zq hb h.size) (fun i x hi hx => by
   rcases h.img i x hi hx with ⟨j, x', hj, hx', he⟩ | hge
   ·rw [<- he]; exact hn j x' hj hx'
   ·omega)
  exact g2.trans g1
 ·rcases k.img i x hi hx with ⟨j, x', hj, hx', he⟩ | hge
  ·rcases h.img j x' hj hx' with ⟨m, x2, hm, hx2, he2⟩ | hge
   ·exact .inl ⟨m, x2, hm, hx2, he2.trans he⟩
   ·right; omega
  ·right; have := h.size; omega
 ·rcases k.nam i hi with hm | hm
  ·rcases h.nam i hm with hq | hq
   ·exact .inl hq
   ·right; omega
  ·right; omega
theorem DI.next (h : DC P call nt all S S' σ v f ρ0 w0) {L : Nat -> Bool} {i : Nat} (hg : Gd all L i) {ρ : Loc} {w : World} {a : Act} (hd : DI all nt S σ f ρ0 w0 L ρ w a)
  {ρ' : Loc} {u : Value} {w' : World} (e1 : Ev ρ (ML σ f all.length L) (σ i).nx w ρ' (ML σ f all.length (Eng.also L i)) (σ (i + 1)).nx w') (e2 : HR ρ' (ML σ f all.length (Eng.also L i)) w') (e3 : VR ρ' (v i) u)
  (hst : ∀ b, f i = .s b -> ∀ k, k < all.length -> L k = false -> f k = .a -> b ≠ (σ k).nx) : DI all nt S σ f ρ0 w0 (Eng.also L i) ρ' w' (a.put (all[i]'hg.lt).dst u) := by
 have hi := hg.lt
 have hf := hd.free i hi hg.un
 have hsub := e1.sub hf
 have split_ : ∀ {j}, Eng.also L i j = true -> j = i \/ L j = true := by
  intro j hj
  by_cases e : j = i
  ·exact .inl e
  ·rw [Vl3 e] at hj; exact .inr hj
 have nsplit : ∀ {j}, Eng.also L i j = false -> j ≠ i /\ L j = false := by
  intro j hj
  have e : j ≠ i := by rintro rfl; rw [Vqp] at hj; cases hj
  rw [Vl3 e] at hj; exact ⟨e, hj⟩
 have hle1 := h.le 0 i (by omega) (by omega); rw [h.trc.fst] at hle1
 have hle2 := h.le (i + 1) all.length (by omega) (Za _); refine ⟨e2, fun t ht => ?_, ?_, ?_, fun k hk hL => ?_, hd.ev.trans_in e1 hle1 hle2, fun j hj hL b hb k hk hLk hfk => ?_⟩
 ·rw [h.fr_also hg]
  have old := VR.mono hsub _ _ (hd.fr t ht); cases hdd : all[i].dst with
  | none => exact old
  | some d =>
   have hdn : d < nt := h.dlt (j := i) (by simp [Vfg, hi, hdd]); simp only [Act.put, Zs, Array.getElem?_setIfInBounds]
   by_cases hdt : d = t
   ·subst hdt; rw [if_pos rfl, if_pos rfl, if_pos (by rw [hd.size]; exact hdn)]; exact e3
   ·rw [if_neg (fun e => hdt (Vd8 (Zq hdn h.sm) ht e.symm)), if_neg hdt]; simpa [Zs] using old
 ·have : (a.put all[i].dst u).tmps.size = a.tmps.size := by cases all[i].dst <;> simp [Act.put]
  rw [this]; exact hd.size
 ·have : (a.put all[i].dst u).defers = a.defers := by cases all[i].dst <;> rfl
  rw [this]; exact hd.marks.mono hsub
 ·obtain ⟨hki, hLk⟩ := nsplit hL
  have hfk := hd.free k hk hLk; intro x h1 h2
  rw [e1.same x (by
   rcases Zf k i with q | q
   ·have := h.le (k + 1) i (by omega) (by omega); omega
   ·have := h.le (i + 1) k (by omega) (by omega); omega)]
  exact hfk x h1 h2
 ·obtain ⟨hki, hLk'⟩ := nsplit hLk; rcases split_ hL with rfl | hL'
  ·exact hst b hb k hk hLk' hfk
  ·exact hd.st j hj hL' b hb k hk hLk' hfk
end
end Go.CE
